/- The law RingWhole. Condition: the law's bounds. -/
import Derived.Test.YtmjeifbadjdnfaaDoorGk
set_option linter.unusedVariables false
set_option linter.unusedSimpArgs false
set_option maxRecDepth 50000
namespace Go.Proofs.YtmjeifbadjdnfaaDoor
open Go.RowKit Go.Sort

theorem heldTo_le (L : List Pt) (c n k : Nat) : heldTo L c n k ≤ n * k := by
  induction n with
  | zero => simp [heldTo]
  | succ n ih =>
    have := rangesTo_length_le L c ((n : Int) + 1) k
    simp only [heldTo]
    rw [Nat.succ_mul]; omega
theorem undInt : Tryd.prog.underlying 60 = some (.slice (Tryd.prog.elem 60)) := by rw [show Tryd.prog.elem 60 = 3 by kernel_rfl]; exact Tryd.underlying60
theorem sizeInt (w : World) : (Go.sizeOf (Tryd.prog.elem 60)).run Tryd.prog w = .ok 1 w := by rw [show Tryd.prog.elem 60 = 3 by kernel_rfl]; exact Tryd.sizeOf3 w
theorem hiI_run (g o n c i : Nat) (hi : i ≤ n) (hn : n ≤ c) (W : World) : (Instr.slice 60 (.slice (some ⟨g, o, none⟩) n c) none (some (.int .i64 (i : Int))) none).run Tryd.prog W = .ok (.slice (some ⟨g, o, none⟩) i c) W := by
  rw [run_slice_h W _ _ _ _ undInt .i64 _ (by omega) (by omega), sizeInt]
  by_cases h : c = 0
  · simp [Result.andThen, sliced, h]
  · simp [Result.andThen, sliced, h, Addr.add]
theorem New_bad0 (n k c : Int) (w : World) (h : ¬ (1 ≤ n ∧ n ≤ 5 ∧ 1 ≤ k ∧ k ≤ 8 ∧ 1 ≤ c ∧ c ≤ n)) : Calls Tryd.prog 20 #[.int .i64 n, .int .i64 k, .int .i64 c] w fun e w' => e = .returned (.pointer none) ∧ w = w' := New_bad n k c w (by omega)

set_option maxHeartbeats 16000000 in
theorem RingWhole_walk (n k c t : Int) (w : World) : Calls Tryd.prog 8 #[.agg #[.int .i64 n, .int .i64 k, .int .i64 c], .int .i64 t] w fun e w' => e = .returned (.bool true) ∧ Below w.heap.size w w' := by
  have LV := Lib.hid (fun W => lives15 W)
  have HB0 := Lib.hid (below_alloc (Below.refl _ w) (.cells #[.int .i64 n, .int .i64 k, .int .i64 c] 45))
  have b0 := Blk.new w 45 #[.int .i64 n, .int .i64 k, .int .i64 c]
  have x0 := b0.cell 0 (v := .int .i64 n) rfl; have x1 := b0.cell 1 (v := .int .i64 k) rfl; have x2 := b0.cell 2 (v := .int .i64 c) rfl
  clear b0
  go_enter Tryd.func8, Tryd.ntmps8
  go_wp2_with fail
  generalize w.alloc (.cells #[.int .i64 n, .int .i64 k, .int .i64 c] 45) = W0 at *
  by_cases hbad : 1 ≤ n ∧ n ≤ 5 ∧ 1 ≤ k ∧ k ≤ 8 ∧ 1 ≤ c ∧ c ≤ n
  · obtain ⟨n, rfl⟩ : ∃ m : Nat, n = m := ⟨n.toNat, by omega⟩
    obtain ⟨k, rfl⟩ : ∃ m : Nat, k = m := ⟨k.toNat, by omega⟩
    obtain ⟨c, rfl⟩ : ∃ m : Nat, c = m := ⟨c.toNat, by omega⟩
    have N1 := Lib.hid (fun W => New_any n k c W (by omega) (by omega) (by omega) (by omega) (by omega) (by omega))
    have hlen : (ringL tokT n k).length ≤ 1000 := by
      rw [ringL_length]
      have : n * k ≤ 5 * 8 := Nat.mul_le_mul (by omega) (by omega)
      omega
    have hpos : 0 < (ringL tokT n k).length := by rw [ringL_length]; exact Nat.mul_pos (by omega) (by omega)
    have hnod : ∀ p ∈ ringL tokT n k, 1 ≤ p.2 ∧ p.2 ≤ 5 := fun p hp => by have := ringL_mem tokT n k p hp; omega
    have hP := ringL_ring tokT n k c (by omega) (by omega) (by omega)
    have hmul : (n : Int) * (k : Int) = ((ringL tokT n k).length : Int) := by rw [ringL_length]; exact (Int.natCast_mul _ _).symm
    have hc5 : c ≤ 5 := by omega
    have hc0 : 0 < c := by omega
    have hn5 : n ≤ 5 := by omega
    clear hbad
    generalize ringL tokT n k = L at *
    refine (N1.out _).mono ?_
    rintro e w1 ⟨g1, l1, k1, rfl, hr, hb⟩
    have T1 := Lib.hid hr
    have hb' := hb
    clear hr N1
    have X := Lib.hid (And.intro (cell_keep hb x0) (And.intro (cell_keep hb x1) (cell_keep hb x2)))
    have B1 := Lib.hid (below_tr HB0.out hb)
    clear hb hb' x0 x1 x2
    have PO := Lib.hid (fun W (h : RingAt eP W g1 l1 0 k1 L (c : Int)) => Points_any g1 l1 0 k1 L (c : Int) W h (by omega) hlen)
    go_wp2_with fail
    refine (PO.out _ T1.out).mono ?_
    rintro e w2 ⟨v, rfl, hO, hb⟩
    obtain ⟨gx, cx, rfl, _⟩ := OwnX.formN hO L.length rfl hpos
    have T2 := Lib.hid (T1.out.keep hb); have B2 := Lib.hid (below_tr B1.out hb)
    have X2 := Lib.hid (And.intro (cell_keep hb X.out.1) (And.intro (cell_keep hb X.out.2.1) (cell_keep hb X.out.2.2)))
    have PS2 := Lib.hid hO.sl
    clear hO hb PO T1 B1 X
    have RG := Lib.hid (Range_any g1 l1 0 k1 L (c : Int) t w2 T2.out (by omega) hpos hlen hP.sorted)
    have hq := rangeL_lt L t hpos
    obtain ⟨nx1, nx2, nx3⟩ := rangeL_next L t hP.sorted hpos
    generalize rangeL L t = q at *
    have HPP := Lib.hid hP
    clear hP
    go_wp2_with fail
    refine RG.out.mono ?_
    rintro e W2 ⟨rfl, hb⟩
    have TT := Lib.hid (T2.out.keep hb); have BB := Lib.hid (below_tr B2.out hb)
    have PS := Lib.hid (PS2.out.keep hb)
    have y0 := cell_keep hb X2.out.1; have y1 := cell_keep hb X2.out.2.1; have y2 := cell_keep hb X2.out.2.2
    clear hb T2 B2 X2 PS2 RG
    have YY := Lib.hid (And.intro y0 (And.intro y1 y2))
    have hqz : (q : Int) < (L.length : Int) := by omega
    have hq0 : (0 : Int) ≤ (q : Int) := by omega
    have rest : ∀ (f : Unit), True := fun _ => trivial
    have P1 := Lib.hid (fun (j : Nat) W (h : InW W2 W) => Replicas_any g1 l1 0 k1 L c (j : Int) W (TT.out.keep h) hc0 hc5 hlen hnod)
    have H1 := Lib.hid (fun (j : Nat) m W (h : InW W2 W) => Has_any g1 l1 0 k1 L c (j : Int) m W (TT.out.keep h) hc0 hc5 hlen hnod)
    have G1 := Lib.hid (fun m W (h : InW W2 W) => Ranges_any g1 l1 0 k1 L c m W (TT.out.keep h) hc0 hc5 hpos hlen hnod)
    clear rest hnod
    have hcnd : ((0 < q ∧ ∃ z, q = z + 1 ∧ ∃ (h : z < L.length), ¬ t ≤ L[z].1 ∧ ¬ L[q].1 < t) ∨ (q = 0 ∧ (¬ (L[0]'hpos).1 < t ∨ ∃ z, L.length = z + 1 ∧ ∃ (h : z < L.length), ¬ t ≤ L[z].1 ∧ (L[0]'hpos).1 < t))) := by
      by_cases h0 : q = 0
      · refine .inr ⟨h0, ?_⟩
        by_cases hz : (L[0]'hpos).1 < t
        · refine .inr ⟨L.length - 1, by omega, by omega, ?_, hz⟩
          rcases nx3 h0 with h | h
          · omega
          · have := h (L.length - 1) (by omega); omega
        · exact .inl hz
      · refine .inl ⟨by omega, q - 1, by omega, by omega, ?_, ?_⟩
        · have := nx1 (q - 1) (by omega) (by omega); omega
        · have := nx2 (by omega) hq; omega
    clear nx1 nx2 nx3
    have hLz : (L.length : Int) ≤ 1000 := by omega
    have hLne : ¬ L = [] := by rintro rfl; simp at hpos
    have hLn0 : ¬ L.length = 0 := by omega
    have hLn1 : ¬ (L.length : Int) ≤ 0 := by omega
    have ha0 := (eP_cell PS.out 0 hpos).1
    have haq := (eP_cell PS.out q hq).1
    rw [Nat.zero_add] at ha0 haq
    have hcells := fun z (hz : z < L.length) => (eP_cell PS.out z hz).1
    have HCELL := Lib.hid hcells
    clear hcells
    rcases hcnd with ⟨hq1, z, rfl, hzl, hz1, hz2⟩ | ⟨rfl, hz1 | ⟨z, hzl, hzz, hz1, hz2⟩⟩
    · have hcz := HCELL.out z hzl
      rw [Nat.zero_add] at hcz
      have hzi : (z : Int) < (L.length : Int) := by omega
      have hz1i : (z : Int) + 1 < (L.length : Int) := by omega
      have hz01 : (0 : Int) < (z : Int) + 1 := by omega
      have hz02 : (0 : Int) ≤ (z : Int) + 1 := by omega
      have hwz : IntKind.i64.wrap (z : Int) = (z : Int) := by rw [IntKind.wrap_i64]; omega
      have hne0 : (((z + 1 : Nat) : Int) == 0) = false := by rw [beq_eq_false_iff_ne]; omega
      have hne1 : ((z : Int) + 1 == 0) = false := by rw [beq_eq_false_iff_ne]; omega
      obtain ⟨u1, hu1⟩ : ∃ u, L[z].1 = u := ⟨_, rfl⟩
      obtain ⟨u2, hu2⟩ : ∃ u, L[z + 1].1 = u := ⟨_, rfl⟩
      rw [hu1] at hcz hz1
      rw [hu2] at haq hz2
      clear ha0 hu1 hu2
      go_wp2_with fail
      go_loopw [9, 10, 11, 12, 14, 95, 119, 143] (fun _ _ _ _ _ vi _ _ wr => ∃ j : Nat, j ≤ L.length ∧ vi = .int .i64 (j : Int) ∧ Below W2.heap.size W2 wr) (fun _ _ _ _ _ vi _ _ _ => L.length - (intOf vi).toNat)
      case atStart => exact ⟨0, by omega, rfl, Below.refl _ _⟩
      case round =>
        obtain ⟨j, hj, rfl, hBr⟩ := hrel
        have HBr := Lib.hid hBr
        clear hBr
        by_cases hlt : j < L.length
        · have hz : (j : Int) < (L.length : Int) := by omega
          have hrl := repOf_length HPP.out j hlt
          obtain ⟨rs, hrs⟩ := repOf_head (c := c) hc0 j hlt
          have hrn := repOf_nodup L c (j : Int)
          have hrm := fun m hm => repOf_mem HPP.out (j : Int) m hm
          have PJ := P1.out j wr HBr.out
          have HJ := fun m W h => H1.out j m W h
          have e1 := (eP_cell PS.out j hlt).2
          rw [Nat.zero_add] at e1
          obtain ⟨y, hy⟩ : ∃ y, L[j].2 = y := ⟨_, rfl⟩
          rw [hy] at e1 hrs
          generalize repOf L c (j : Int) = R at *
          have PJ' := Lib.hid PJ; have HJ' := Lib.hid HJ; have HRN := Lib.hid hrn; have HRM := Lib.hid hrm; have HRS := Lib.hid hrs; have E1 := Lib.hid e1; have HRL := Lib.hid hrl
          clear PJ HJ hrn hrm hrs e1 hy hrl
          go_wp2_with fail
          refine PJ'.out.mono ?_
          rintro e wl ⟨v, rfl, hO, hb⟩
          obtain ⟨gl, cl, rfl, hcl, _⟩ := OwnX.formN hO c HRL.out hc0
          have SL := Lib.hid hO.sl
          have BL := Lib.hid (below_tr HBr.out hb)
          clear hO hb PJ'
          have f0 := eI_cell SL.out 0 (by rw [HRL.out]; exact hc0)
          rw [show R[0]'(by rw [HRL.out]; exact hc0) = y by simp [HRS.out]] at f0
          have f1 := cell_keep BL.out E1.out
          have f2 := cell_keep BL.out YY.out.2.2
          rw [Nat.zero_add] at f0
          go_wp2_with fail
          go_quiet (fail)
          have SN := Lib.hid ((SL.out.below (below_drewN (Below.refl wl.heap.size wl) nq)))
          have BN := Lib.hid (below_tr BL.out (below_drewN (Below.refl wl.heap.size wl) nq))
          clear f0 f1 f2 SL BL
          generalize wl.drewN nq = WL at SN BN ⊢
          have hlow : ∀ B : Nat, True := fun _ => trivial
          clear hlow
          have SG := Lib.hid (show ∀ W, Below WL.heap.size WL W → ∀ a (ha : a < R.length), W.cell? ⟨gl, a, none⟩ = some (.int .i64 R[a]) from fun W hW a ha => by
            have := eI_cell SN.out a ha
            rw [Nat.zero_add] at this
            exact cell_keep hW this)
          clear SN
          go_wp2_with fail
          go_loopw [11, 12, 14, 119, 143] (fun _ _ _ va _ wr => ∃ a : Nat, a ≤ c ∧ va = .int .i64 (a : Int) ∧ Below WL.heap.size WL wr) (fun _ _ _ va _ _ => c - (intOf va).toNat)
          case atStart => exact ⟨0, by omega, rfl, Below.refl _ _⟩
          case round =>
            obtain ⟨a, ha, rfl, hBa⟩ := hrel
            have HBa := Lib.hid hBa
            clear hBa
            by_cases hac : a < c
            · have haz : (a : Int) < (c : Int) := by omega
              have har : a < R.length := by rw [HRL.out]; exact hac
              have ea := SG.out wr HBa.out a har
              have hin := List.getElem_mem har
              obtain ⟨m1, m2⟩ := HRM.out R[a] hin
              have hd : decide (R[a] ∈ R) = true := decide_eq_true hin
              have HH := fun W h => HJ'.out R[a] W h
              rw [hd] at HH
              have hne := Lib.hid (show ∀ b (hb : b < a), (R[b]'(by omega) == R[a]) = false from fun b hb => by
                rw [beq_eq_false_iff_ne]
                have := List.pairwise_iff_getElem.1 (List.nodup_iff_pairwise_ne.1 HRN.out) b a (by omega) har hb
                exact this)
              obtain ⟨x, hx⟩ : ∃ x, R[a] = x := ⟨_, rfl⟩
              rw [hx] at ea m1 m2 HH hne
              have HHx := Lib.hid HH
              have n0 := cell_keep (BN.out.trans (HBa.out.mono BN.out.size)) YY.out.1
              have hsl := hiI_run gl 0 c cl a (by omega) hcl
              have m1' : ¬ x < 1 := by omega
              have m2' : ¬ (n : Int) < x := by omega
              clear hin hd HH hx m1 m2
              go_wp2_with fail
              refine (HHx.out _ (BN.out.trans (HBa.out.mono BN.out.size))).mono ?_
              rintro e wh ⟨rfl, hbh⟩
              have HBh := Lib.hid (below_tr HBa.out hbh)
              clear hbh n0 ea
              go_wp2_with fail
              go_loopw [14, 143] (fun _ vb wr => ∃ b : Nat, b ≤ a ∧ vb = .int .i64 (b : Int) ∧ Below WL.heap.size WL wr) (fun _ vb _ => a - (intOf vb).toNat)
              case atStart => exact ⟨0, by omega, rfl, HBh.out⟩
              case round =>
                obtain ⟨b, hb, rfl, hBb⟩ := hrel
                have HBb := Lib.hid hBb
                clear hBb
                by_cases hba : b < a
                · have hbz : (b : Int) < (a : Int) := by omega
                  have eb := SG.out wr HBb.out b (by omega)
                  have hq2 := hne.out b hba
                  generalize R[b]'(by omega) = z at *
                  go_wp2_with fail
                  go_roundw
                  case rel => exact ⟨b + 1, by omega, by first | rfl | go_num, HBb.out⟩
                  case measure => simp [intOf]; omega
                · have hbz : ¬ (b : Int) < (a : Int) := by omega
                  go_wp2_with fail
                  go_roundw
                  case rel => exact ⟨a + 1, by omega, by first | rfl | go_num, HBb.out⟩
                  case measure => simp [intOf]; omega
            · have haz : ¬ (a : Int) < (c : Int) := by omega
              go_wp2_with fail
              go_roundw
              case rel => exact ⟨j + 1, by omega, by first | rfl | go_num, BN.out.trans (HBa.out.mono BN.out.size)⟩
              case measure => simp [intOf]; omega
        · have hz : ¬ (j : Int) < (L.length : Int) := by omega
          clear P1 H1 PS
          have hheld := held_eq HPP.out L.length (Nat.le_refl _)
          have hhl := Lib.hid hheld
          have hmc : (L.length : Int) * (c : Int) = ((L.length * c : Nat) : Int) := (Int.natCast_mul _ _).symm
          rw [← hheld] at hmc
          have HMC := Lib.hid hmc
          clear hheld hmc hmul
          have hh0 : heldTo L c 0 L.length = 0 := rfl
          have HH0 := Lib.hid hh0; clear hh0
          have HLE := Lib.hid (fun m => heldTo_le L c m L.length)
          have HST := Lib.hid (fun m => show heldTo L c (m + 1) L.length = heldTo L c m L.length + (rangesOf L c ((m : Int) + 1)).length from rfl)
          go_wp2_with fail
          go_loopw [8, 15] (fun vh vm wr => ∃ m : Nat, m ≤ n ∧ vm = .int .i64 ((m : Int) + 1) ∧ vh = .int .i64 (heldTo L c m L.length : Int) ∧ Below W2.heap.size W2 wr) (fun _ vm _ => n + 1 - (intOf vm).toNat)
          case atStart => exact ⟨0, by omega, rfl, by rw [HH0.out]; rfl, HBr.out⟩
          case round =>
            obtain ⟨m, hm, rfl, rfl, hBs⟩ := hrel
            have HBs := Lib.hid hBs
            clear hBs HBr
            have n0 := cell_keep HBs.out YY.out.1
            have n2 := cell_keep HBs.out YY.out.2.2
            by_cases hmn : m < n
            · have hmz : (m : Int) + 1 ≤ (n : Int) := by omega
              have G := G1.out ((m : Int) + 1) wr HBs.out
              have l1 := rangesTo_length_le L c ((m : Int) + 1) L.length
              have l2 := HLE.out m
              have l3 : m * L.length ≤ 5 * 1000 := Nat.mul_le_mul (by omega) hlen
              have hst := HST.out m
              change (rangesOf L c ((m : Int) + 1)).length ≤ L.length at l1
              generalize rangesOf L c ((m : Int) + 1) = rr at *
              generalize heldTo L c m L.length = h0 at *
              have HST2 := Lib.hid hst; have G' := Lib.hid G
              clear hst G
              have hsum : IntKind.i64.wrap ((h0 : Int) + (rr.length : Int)) = (h0 : Int) + (rr.length : Int) := by rw [IntKind.wrap_i64]; omega
              go_wp2_with fail
              refine G'.out.mono ?_
              rintro e wg ⟨v, rfl, hO, hb⟩
              obtain ⟨av, cv, hv, _⟩ := hO.sl.ex
              subst hv
              have HBg := Lib.hid (below_tr HBs.out hb)
              clear hO hb n0 n2
              go_wp2_with fail
              go_roundw
              case rel => exact ⟨m + 1, by omega, by first | rfl | go_num | (congr 1; omega), by rw [HST2.out]; first | rfl | (congr 1; omega) | simp, HBg.out⟩
              case measure => simp [intOf]; omega
            · have hmz : ¬ (m : Int) + 1 ≤ (n : Int) := by omega
              obtain rfl : m = n := by omega
              have hmc := HMC.out
              have hhb := HLE.out m
              have hl3 : m * L.length ≤ 5 * 1000 := Nat.mul_le_mul (by omega) hlen
              generalize heldTo L c m L.length = h0 at *
              have hmw : IntKind.i64.wrap ((L.length : Int) * (c : Int)) = (h0 : Int) := by rw [hmc, IntKind.wrap_i64]; omega
              clear hmc hhb hl3
              go_wp2_with fail
              refine (LV.out _).mono ?_
              rintro e w5 ⟨rfl, hb⟩
              go_wp2_with fail
              go_ret
              exact ⟨rfl, below_tr (below_tr BB.out HBs.out) hb⟩
    · obtain ⟨u0, hu0⟩ : ∃ u, (L[0]'hpos).1 = u := ⟨_, rfl⟩
      rw [hu0] at ha0 hz1
      clear haq hu0
      have hp0 : (0 : Int) < (L.length : Int) := by omega
      go_wp2_with fail
      go_loopw [9, 10, 11, 12, 14, 95, 119, 143] (fun _ _ _ _ _ vi _ _ wr => ∃ j : Nat, j ≤ L.length ∧ vi = .int .i64 (j : Int) ∧ Below W2.heap.size W2 wr) (fun _ _ _ _ _ vi _ _ _ => L.length - (intOf vi).toNat)
      case atStart => exact ⟨0, by omega, rfl, Below.refl _ _⟩
      case round =>
        obtain ⟨j, hj, rfl, hBr⟩ := hrel
        have HBr := Lib.hid hBr
        clear hBr
        by_cases hlt : j < L.length
        · have hz : (j : Int) < (L.length : Int) := by omega
          have hrl := repOf_length HPP.out j hlt
          obtain ⟨rs, hrs⟩ := repOf_head (c := c) hc0 j hlt
          have hrn := repOf_nodup L c (j : Int)
          have hrm := fun m hm => repOf_mem HPP.out (j : Int) m hm
          have PJ := P1.out j wr HBr.out
          have HJ := fun m W h => H1.out j m W h
          have e1 := (eP_cell PS.out j hlt).2
          rw [Nat.zero_add] at e1
          obtain ⟨y, hy⟩ : ∃ y, L[j].2 = y := ⟨_, rfl⟩
          rw [hy] at e1 hrs
          generalize repOf L c (j : Int) = R at *
          have PJ' := Lib.hid PJ; have HJ' := Lib.hid HJ; have HRN := Lib.hid hrn; have HRM := Lib.hid hrm; have HRS := Lib.hid hrs; have E1 := Lib.hid e1; have HRL := Lib.hid hrl
          clear PJ HJ hrn hrm hrs e1 hy hrl
          go_wp2_with fail
          refine PJ'.out.mono ?_
          rintro e wl ⟨v, rfl, hO, hb⟩
          obtain ⟨gl, cl, rfl, hcl, _⟩ := OwnX.formN hO c HRL.out hc0
          have SL := Lib.hid hO.sl
          have BL := Lib.hid (below_tr HBr.out hb)
          clear hO hb PJ'
          have f0 := eI_cell SL.out 0 (by rw [HRL.out]; exact hc0)
          rw [show R[0]'(by rw [HRL.out]; exact hc0) = y by simp [HRS.out]] at f0
          have f1 := cell_keep BL.out E1.out
          have f2 := cell_keep BL.out YY.out.2.2
          rw [Nat.zero_add] at f0
          go_wp2_with fail
          go_quiet (fail)
          have SN := Lib.hid ((SL.out.below (below_drewN (Below.refl wl.heap.size wl) nq)))
          have BN := Lib.hid (below_tr BL.out (below_drewN (Below.refl wl.heap.size wl) nq))
          clear f0 f1 f2 SL BL
          generalize wl.drewN nq = WL at SN BN ⊢
          have hlow : ∀ B : Nat, True := fun _ => trivial
          clear hlow
          have SG := Lib.hid (show ∀ W, Below WL.heap.size WL W → ∀ a (ha : a < R.length), W.cell? ⟨gl, a, none⟩ = some (.int .i64 R[a]) from fun W hW a ha => by
            have := eI_cell SN.out a ha
            rw [Nat.zero_add] at this
            exact cell_keep hW this)
          clear SN
          go_wp2_with fail
          go_loopw [11, 12, 14, 119, 143] (fun _ _ _ va _ wr => ∃ a : Nat, a ≤ c ∧ va = .int .i64 (a : Int) ∧ Below WL.heap.size WL wr) (fun _ _ _ va _ _ => c - (intOf va).toNat)
          case atStart => exact ⟨0, by omega, rfl, Below.refl _ _⟩
          case round =>
            obtain ⟨a, ha, rfl, hBa⟩ := hrel
            have HBa := Lib.hid hBa
            clear hBa
            by_cases hac : a < c
            · have haz : (a : Int) < (c : Int) := by omega
              have har : a < R.length := by rw [HRL.out]; exact hac
              have ea := SG.out wr HBa.out a har
              have hin := List.getElem_mem har
              obtain ⟨m1, m2⟩ := HRM.out R[a] hin
              have hd : decide (R[a] ∈ R) = true := decide_eq_true hin
              have HH := fun W h => HJ'.out R[a] W h
              rw [hd] at HH
              have hne := Lib.hid (show ∀ b (hb : b < a), (R[b]'(by omega) == R[a]) = false from fun b hb => by
                rw [beq_eq_false_iff_ne]
                have := List.pairwise_iff_getElem.1 (List.nodup_iff_pairwise_ne.1 HRN.out) b a (by omega) har hb
                exact this)
              obtain ⟨x, hx⟩ : ∃ x, R[a] = x := ⟨_, rfl⟩
              rw [hx] at ea m1 m2 HH hne
              have HHx := Lib.hid HH
              have n0 := cell_keep (BN.out.trans (HBa.out.mono BN.out.size)) YY.out.1
              have hsl := hiI_run gl 0 c cl a (by omega) hcl
              have m1' : ¬ x < 1 := by omega
              have m2' : ¬ (n : Int) < x := by omega
              clear hin hd HH hx m1 m2
              go_wp2_with fail
              refine (HHx.out _ (BN.out.trans (HBa.out.mono BN.out.size))).mono ?_
              rintro e wh ⟨rfl, hbh⟩
              have HBh := Lib.hid (below_tr HBa.out hbh)
              clear hbh n0 ea
              go_wp2_with fail
              go_loopw [14, 143] (fun _ vb wr => ∃ b : Nat, b ≤ a ∧ vb = .int .i64 (b : Int) ∧ Below WL.heap.size WL wr) (fun _ vb _ => a - (intOf vb).toNat)
              case atStart => exact ⟨0, by omega, rfl, HBh.out⟩
              case round =>
                obtain ⟨b, hb, rfl, hBb⟩ := hrel
                have HBb := Lib.hid hBb
                clear hBb
                by_cases hba : b < a
                · have hbz : (b : Int) < (a : Int) := by omega
                  have eb := SG.out wr HBb.out b (by omega)
                  have hq2 := hne.out b hba
                  generalize R[b]'(by omega) = z at *
                  go_wp2_with fail
                  go_roundw
                  case rel => exact ⟨b + 1, by omega, by first | rfl | go_num, HBb.out⟩
                  case measure => simp [intOf]; omega
                · have hbz : ¬ (b : Int) < (a : Int) := by omega
                  go_wp2_with fail
                  go_roundw
                  case rel => exact ⟨a + 1, by omega, by first | rfl | go_num, HBb.out⟩
                  case measure => simp [intOf]; omega
            · have haz : ¬ (a : Int) < (c : Int) := by omega
              go_wp2_with fail
              go_roundw
              case rel => exact ⟨j + 1, by omega, by first | rfl | go_num, BN.out.trans (HBa.out.mono BN.out.size)⟩
              case measure => simp [intOf]; omega
        · have hz : ¬ (j : Int) < (L.length : Int) := by omega
          clear P1 H1 PS
          have hheld := held_eq HPP.out L.length (Nat.le_refl _)
          have hhl := Lib.hid hheld
          have hmc : (L.length : Int) * (c : Int) = ((L.length * c : Nat) : Int) := (Int.natCast_mul _ _).symm
          rw [← hheld] at hmc
          have HMC := Lib.hid hmc
          clear hheld hmc hmul
          have hh0 : heldTo L c 0 L.length = 0 := rfl
          have HH0 := Lib.hid hh0; clear hh0
          have HLE := Lib.hid (fun m => heldTo_le L c m L.length)
          have HST := Lib.hid (fun m => show heldTo L c (m + 1) L.length = heldTo L c m L.length + (rangesOf L c ((m : Int) + 1)).length from rfl)
          go_wp2_with fail
          go_loopw [8, 15] (fun vh vm wr => ∃ m : Nat, m ≤ n ∧ vm = .int .i64 ((m : Int) + 1) ∧ vh = .int .i64 (heldTo L c m L.length : Int) ∧ Below W2.heap.size W2 wr) (fun _ vm _ => n + 1 - (intOf vm).toNat)
          case atStart => exact ⟨0, by omega, rfl, by rw [HH0.out]; rfl, HBr.out⟩
          case round =>
            obtain ⟨m, hm, rfl, rfl, hBs⟩ := hrel
            have HBs := Lib.hid hBs
            clear hBs HBr
            have n0 := cell_keep HBs.out YY.out.1
            have n2 := cell_keep HBs.out YY.out.2.2
            by_cases hmn : m < n
            · have hmz : (m : Int) + 1 ≤ (n : Int) := by omega
              have G := G1.out ((m : Int) + 1) wr HBs.out
              have l1 := rangesTo_length_le L c ((m : Int) + 1) L.length
              have l2 := HLE.out m
              have l3 : m * L.length ≤ 5 * 1000 := Nat.mul_le_mul (by omega) hlen
              have hst := HST.out m
              change (rangesOf L c ((m : Int) + 1)).length ≤ L.length at l1
              generalize rangesOf L c ((m : Int) + 1) = rr at *
              generalize heldTo L c m L.length = h0 at *
              have HST2 := Lib.hid hst; have G' := Lib.hid G
              clear hst G
              have hsum : IntKind.i64.wrap ((h0 : Int) + (rr.length : Int)) = (h0 : Int) + (rr.length : Int) := by rw [IntKind.wrap_i64]; omega
              go_wp2_with fail
              refine G'.out.mono ?_
              rintro e wg ⟨v, rfl, hO, hb⟩
              obtain ⟨av, cv, hv, _⟩ := hO.sl.ex
              subst hv
              have HBg := Lib.hid (below_tr HBs.out hb)
              clear hO hb n0 n2
              go_wp2_with fail
              go_roundw
              case rel => exact ⟨m + 1, by omega, by first | rfl | go_num | (congr 1; omega), by rw [HST2.out]; first | rfl | (congr 1; omega) | simp, HBg.out⟩
              case measure => simp [intOf]; omega
            · have hmz : ¬ (m : Int) + 1 ≤ (n : Int) := by omega
              obtain rfl : m = n := by omega
              have hmc := HMC.out
              have hhb := HLE.out m
              have hl3 : m * L.length ≤ 5 * 1000 := Nat.mul_le_mul (by omega) hlen
              generalize heldTo L c m L.length = h0 at *
              have hmw : IntKind.i64.wrap ((L.length : Int) * (c : Int)) = (h0 : Int) := by rw [hmc, IntKind.wrap_i64]; omega
              clear hmc hhb hl3
              go_wp2_with fail
              refine (LV.out _).mono ?_
              rintro e w5 ⟨rfl, hb⟩
              go_wp2_with fail
              go_ret
              exact ⟨rfl, below_tr (below_tr BB.out HBs.out) hb⟩
    · obtain ⟨u0, hu0⟩ : ∃ u, (L[0]'hpos).1 = u := ⟨_, rfl⟩
      have hcz := HCELL.out z hzz
      rw [Nat.zero_add] at hcz
      obtain ⟨u1, hu1⟩ : ∃ u, L[z].1 = u := ⟨_, rfl⟩
      rw [hu0] at ha0 hz2
      rw [hu1] at hcz hz1
      clear haq hu0 hu1
      have hp0 : (0 : Int) < (L.length : Int) := by omega
      have hlz1 : (L.length : Int) - 1 = (z : Int) := by omega
      have hzi : (z : Int) < (L.length : Int) := by omega
      have HZL := Lib.hid hzl
      clear hzl
      go_wp2_with fail
      go_loopw [9, 10, 11, 12, 14, 95, 119, 143] (fun _ _ _ _ _ vi _ _ wr => ∃ j : Nat, j ≤ L.length ∧ vi = .int .i64 (j : Int) ∧ Below W2.heap.size W2 wr) (fun _ _ _ _ _ vi _ _ _ => L.length - (intOf vi).toNat)
      case atStart => exact ⟨0, by omega, rfl, Below.refl _ _⟩
      case round =>
        obtain ⟨j, hj, rfl, hBr⟩ := hrel
        have HBr := Lib.hid hBr
        clear hBr
        by_cases hlt : j < L.length
        · have hz : (j : Int) < (L.length : Int) := by omega
          have hrl := repOf_length HPP.out j hlt
          obtain ⟨rs, hrs⟩ := repOf_head (c := c) hc0 j hlt
          have hrn := repOf_nodup L c (j : Int)
          have hrm := fun m hm => repOf_mem HPP.out (j : Int) m hm
          have PJ := P1.out j wr HBr.out
          have HJ := fun m W h => H1.out j m W h
          have e1 := (eP_cell PS.out j hlt).2
          rw [Nat.zero_add] at e1
          obtain ⟨y, hy⟩ : ∃ y, L[j].2 = y := ⟨_, rfl⟩
          rw [hy] at e1 hrs
          generalize repOf L c (j : Int) = R at *
          have PJ' := Lib.hid PJ; have HJ' := Lib.hid HJ; have HRN := Lib.hid hrn; have HRM := Lib.hid hrm; have HRS := Lib.hid hrs; have E1 := Lib.hid e1; have HRL := Lib.hid hrl
          clear PJ HJ hrn hrm hrs e1 hy hrl
          go_wp2_with fail
          refine PJ'.out.mono ?_
          rintro e wl ⟨v, rfl, hO, hb⟩
          obtain ⟨gl, cl, rfl, hcl, _⟩ := OwnX.formN hO c HRL.out hc0
          have SL := Lib.hid hO.sl
          have BL := Lib.hid (below_tr HBr.out hb)
          clear hO hb PJ'
          have f0 := eI_cell SL.out 0 (by rw [HRL.out]; exact hc0)
          rw [show R[0]'(by rw [HRL.out]; exact hc0) = y by simp [HRS.out]] at f0
          have f1 := cell_keep BL.out E1.out
          have f2 := cell_keep BL.out YY.out.2.2
          rw [Nat.zero_add] at f0
          go_wp2_with fail
          go_quiet (fail)
          have SN := Lib.hid ((SL.out.below (below_drewN (Below.refl wl.heap.size wl) nq)))
          have BN := Lib.hid (below_tr BL.out (below_drewN (Below.refl wl.heap.size wl) nq))
          clear f0 f1 f2 SL BL
          generalize wl.drewN nq = WL at SN BN ⊢
          have hlow : ∀ B : Nat, True := fun _ => trivial
          clear hlow
          have SG := Lib.hid (show ∀ W, Below WL.heap.size WL W → ∀ a (ha : a < R.length), W.cell? ⟨gl, a, none⟩ = some (.int .i64 R[a]) from fun W hW a ha => by
            have := eI_cell SN.out a ha
            rw [Nat.zero_add] at this
            exact cell_keep hW this)
          clear SN
          go_wp2_with fail
          go_loopw [11, 12, 14, 119, 143] (fun _ _ _ va _ wr => ∃ a : Nat, a ≤ c ∧ va = .int .i64 (a : Int) ∧ Below WL.heap.size WL wr) (fun _ _ _ va _ _ => c - (intOf va).toNat)
          case atStart => exact ⟨0, by omega, rfl, Below.refl _ _⟩
          case round =>
            obtain ⟨a, ha, rfl, hBa⟩ := hrel
            have HBa := Lib.hid hBa
            clear hBa
            by_cases hac : a < c
            · have haz : (a : Int) < (c : Int) := by omega
              have har : a < R.length := by rw [HRL.out]; exact hac
              have ea := SG.out wr HBa.out a har
              have hin := List.getElem_mem har
              obtain ⟨m1, m2⟩ := HRM.out R[a] hin
              have hd : decide (R[a] ∈ R) = true := decide_eq_true hin
              have HH := fun W h => HJ'.out R[a] W h
              rw [hd] at HH
              have hne := Lib.hid (show ∀ b (hb : b < a), (R[b]'(by omega) == R[a]) = false from fun b hb => by
                rw [beq_eq_false_iff_ne]
                have := List.pairwise_iff_getElem.1 (List.nodup_iff_pairwise_ne.1 HRN.out) b a (by omega) har hb
                exact this)
              obtain ⟨x, hx⟩ : ∃ x, R[a] = x := ⟨_, rfl⟩
              rw [hx] at ea m1 m2 HH hne
              have HHx := Lib.hid HH
              have n0 := cell_keep (BN.out.trans (HBa.out.mono BN.out.size)) YY.out.1
              have hsl := hiI_run gl 0 c cl a (by omega) hcl
              have m1' : ¬ x < 1 := by omega
              have m2' : ¬ (n : Int) < x := by omega
              clear hin hd HH hx m1 m2
              go_wp2_with fail
              refine (HHx.out _ (BN.out.trans (HBa.out.mono BN.out.size))).mono ?_
              rintro e wh ⟨rfl, hbh⟩
              have HBh := Lib.hid (below_tr HBa.out hbh)
              clear hbh n0 ea
              go_wp2_with fail
              go_loopw [14, 143] (fun _ vb wr => ∃ b : Nat, b ≤ a ∧ vb = .int .i64 (b : Int) ∧ Below WL.heap.size WL wr) (fun _ vb _ => a - (intOf vb).toNat)
              case atStart => exact ⟨0, by omega, rfl, HBh.out⟩
              case round =>
                obtain ⟨b, hb, rfl, hBb⟩ := hrel
                have HBb := Lib.hid hBb
                clear hBb
                by_cases hba : b < a
                · have hbz : (b : Int) < (a : Int) := by omega
                  have eb := SG.out wr HBb.out b (by omega)
                  have hq2 := hne.out b hba
                  generalize R[b]'(by omega) = z at *
                  go_wp2_with fail
                  go_roundw
                  case rel => exact ⟨b + 1, by omega, by first | rfl | go_num, HBb.out⟩
                  case measure => simp [intOf]; omega
                · have hbz : ¬ (b : Int) < (a : Int) := by omega
                  go_wp2_with fail
                  go_roundw
                  case rel => exact ⟨a + 1, by omega, by first | rfl | go_num, HBb.out⟩
                  case measure => simp [intOf]; omega
            · have haz : ¬ (a : Int) < (c : Int) := by omega
              go_wp2_with fail
              go_roundw
              case rel => exact ⟨j + 1, by omega, by first | rfl | go_num, BN.out.trans (HBa.out.mono BN.out.size)⟩
              case measure => simp [intOf]; omega
        · have hz : ¬ (j : Int) < (L.length : Int) := by omega
          clear P1 H1 PS
          have hheld := held_eq HPP.out L.length (Nat.le_refl _)
          have hhl := Lib.hid hheld
          have hmc : (L.length : Int) * (c : Int) = ((L.length * c : Nat) : Int) := (Int.natCast_mul _ _).symm
          rw [← hheld] at hmc
          have HMC := Lib.hid hmc
          clear hheld hmc hmul
          have hh0 : heldTo L c 0 L.length = 0 := rfl
          have HH0 := Lib.hid hh0; clear hh0
          have HLE := Lib.hid (fun m => heldTo_le L c m L.length)
          have HST := Lib.hid (fun m => show heldTo L c (m + 1) L.length = heldTo L c m L.length + (rangesOf L c ((m : Int) + 1)).length from rfl)
          go_wp2_with fail
          go_loopw [8, 15] (fun vh vm wr => ∃ m : Nat, m ≤ n ∧ vm = .int .i64 ((m : Int) + 1) ∧ vh = .int .i64 (heldTo L c m L.length : Int) ∧ Below W2.heap.size W2 wr) (fun _ vm _ => n + 1 - (intOf vm).toNat)
          case atStart => exact ⟨0, by omega, rfl, by rw [HH0.out]; rfl, HBr.out⟩
          case round =>
            obtain ⟨m, hm, rfl, rfl, hBs⟩ := hrel
            have HBs := Lib.hid hBs
            clear hBs HBr
            have n0 := cell_keep HBs.out YY.out.1
            have n2 := cell_keep HBs.out YY.out.2.2
            by_cases hmn : m < n
            · have hmz : (m : Int) + 1 ≤ (n : Int) := by omega
              have G := G1.out ((m : Int) + 1) wr HBs.out
              have l1 := rangesTo_length_le L c ((m : Int) + 1) L.length
              have l2 := HLE.out m
              have l3 : m * L.length ≤ 5 * 1000 := Nat.mul_le_mul (by omega) hlen
              have hst := HST.out m
              change (rangesOf L c ((m : Int) + 1)).length ≤ L.length at l1
              generalize rangesOf L c ((m : Int) + 1) = rr at *
              generalize heldTo L c m L.length = h0 at *
              have HST2 := Lib.hid hst; have G' := Lib.hid G
              clear hst G
              have hsum : IntKind.i64.wrap ((h0 : Int) + (rr.length : Int)) = (h0 : Int) + (rr.length : Int) := by rw [IntKind.wrap_i64]; omega
              go_wp2_with fail
              refine G'.out.mono ?_
              rintro e wg ⟨v, rfl, hO, hb⟩
              obtain ⟨av, cv, hv, _⟩ := hO.sl.ex
              subst hv
              have HBg := Lib.hid (below_tr HBs.out hb)
              clear hO hb n0 n2
              go_wp2_with fail
              go_roundw
              case rel => exact ⟨m + 1, by omega, by first | rfl | go_num | (congr 1; omega), by rw [HST2.out]; first | rfl | (congr 1; omega) | simp, HBg.out⟩
              case measure => simp [intOf]; omega
            · have hmz : ¬ (m : Int) + 1 ≤ (n : Int) := by omega
              obtain rfl : m = n := by omega
              have hmc := HMC.out
              have hhb := HLE.out m
              have hl3 : m * L.length ≤ 5 * 1000 := Nat.mul_le_mul (by omega) hlen
              generalize heldTo L c m L.length = h0 at *
              have hmw : IntKind.i64.wrap ((L.length : Int) * (c : Int)) = (h0 : Int) := by rw [hmc, IntKind.wrap_i64]; omega
              clear hmc hhb hl3
              go_wp2_with fail
              refine (LV.out _).mono ?_
              rintro e w5 ⟨rfl, hb⟩
              go_wp2_with fail
              go_ret
              exact ⟨rfl, below_tr (below_tr BB.out HBs.out) hb⟩
  · have NB := Lib.hid (fun W => New_bad0 n k c W hbad)
    refine (NB.out _).mono ?_
    rintro e w1 ⟨rfl, rfl⟩
    go_wp2_with fail
    refine (LV.out _).mono ?_
    rintro e w1 ⟨rfl, hb⟩
    go_wp2_with fail
    go_ret
    exact ⟨rfl, below_tr HB0.out hb⟩
end Go.Proofs.YtmjeifbadjdnfaaDoor
