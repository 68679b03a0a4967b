/- Contract of the reference's ring.New. Conditions: none (a ring, or none). -/
import Derived.Test.YtmjeifbadjdnfaaDoorGi
import Derived.Test.YtmjeifbadjdnfaaDoorDg
import Derived.BigQuiet
set_option linter.unusedVariables false
set_option linter.unusedSimpArgs false
set_option maxRecDepth 20000
namespace Go.Proofs.YtmjeifbadjdnfaaDoor
open Go.RowKit Go.Sort

theorem sortP_insS {l S : List Pt} (e : sortP l = S) (p : Pt) (j : Nat) (hj : j ≤ S.length) (hb : ∀ i (h : i < S.length), j ≤ i → ptLe S[i] p = false)
    (hd : ∀ i (h : i < S.length), i + 1 = j → ptLe S[i] p = true) : insM S j p = sortP (l ++ [p]) := by
  subst e; exact sortP_ins l p j hj hb hd
theorem RS.upd {E : El Pt} {T : TypeId} {w W : World} {v : Value} {c : Int} {l : List Pt} (h : RS E T w W v c l) {w6 : World} {l6 : List Pt} (hg6 : W.grownBy w6 v.ownBlock) (hO6 : OwnX E w6 (w.heap.size + 1) v l6) : RS E T w w6 v c l6 := by
  have hb := h.own.base
  exact ⟨Below.grown h.below hg6 h.below.size (fun k hk => by have := hb k hk; omega), h.blk.grown hg6 (fun e => by have := hb _ e.symm; omega), hO6⟩
theorem keep2 {V : World} {g o o' : Nat} {x y : Value} {p : Addr} {u : Value} (h : V.cell? p = some u) (h1 : ¬ (g = p.block ∧ o = p.off)) (h2 : ¬ (g = p.block ∧ o' = p.off)) : ((V.setCell ⟨g, o, none⟩ x).setCell ⟨g, o', none⟩ y).cell? p = some u := by
  have e1 := World.cell?_setCell_other V (a := ⟨g, o, none⟩) (b := p) (v := x) (by intro e; subst e; exact h1 ⟨rfl, rfl⟩)
  have e2 := World.cell?_setCell_other (V.setCell ⟨g, o, none⟩ x) (a := ⟨g, o', none⟩) (b := p) (v := y) (by intro e; subst e; exact h2 ⟨rfl, rfl⟩)
  rw [e2, e1, h]
theorem rNew_bad (n k c : Int) (w : World) (h : n < 1 ∨ 5 < n ∨ k < 1 ∨ 8 < k ∨ c < 1 ∨ n < c) :
    Calls Tryd.prog 21 #[.int .i64 n, .int .i64 k, .int .i64 c] w fun e w' => e = .returned (.pointer none) ∧ w = w' := by
  by_cases h1 : n < 1
  · go_enter Tryd.func21, Tryd.ntmps21
    go_wp2_with fail
    go_ret
    exact ⟨rfl, rfl⟩
  · by_cases h2 : 5 < n
    · go_enter Tryd.func21, Tryd.ntmps21
      go_wp2_with fail
      go_ret
      exact ⟨rfl, rfl⟩
    · by_cases h3 : k < 1
      · go_enter Tryd.func21, Tryd.ntmps21
        go_wp2_with fail
        go_ret
        exact ⟨rfl, rfl⟩
      · by_cases h4 : 8 < k
        · go_enter Tryd.func21, Tryd.ntmps21
          go_wp2_with fail
          go_ret
          exact ⟨rfl, rfl⟩
        · by_cases h5 : c < 1
          · go_enter Tryd.func21, Tryd.ntmps21
            go_wp2_with fail
            go_ret
            exact ⟨rfl, rfl⟩
          · have h6 : n < c := by omega
            go_enter Tryd.func21, Tryd.ntmps21
            go_wp2_with fail
            go_ret
            exact ⟨rfl, rfl⟩

set_option maxHeartbeats 16000000 in
theorem rNew_any (n k c : Nat) (w : World) (hn1 : 1 ≤ n) (hn5 : n ≤ 5) (hk1 : 1 ≤ k) (hk8 : k ≤ 8) (hc1 : 1 ≤ c) (hcn : c ≤ n) :
    Calls Tryd.prog 21 #[.int .i64 (n : Int), .int .i64 (k : Int), .int .i64 (c : Int)] w
      fun e w' => ∃ g gl cl, e = .returned (.pointer (some ⟨g, 0, none⟩)) ∧ RingAt eQ w' g gl 0 cl (ringL tokT n k) (c : Int) ∧ Below w.heap.size w w' := by
  have q1 : ¬ (n : Int) < 1 := by omega
  have q2 : ¬ (5 : Int) < (n : Int) := by omega
  have q3 : ¬ (k : Int) < 1 := by omega
  have q4 : ¬ (8 : Int) < (k : Int) := by omega
  have q5 : ¬ (c : Int) < 1 := by omega
  have q6 : ¬ (n : Int) < (c : Int) := by omega
  have RS0 := Lib.hid (RS.mk (E := eQ) (T := 56) (w := w) (W := w.alloc (.cells #[.slice none 0 0, .int .i64 (c : Int)] 56)) (below_alloc (Below.refl _ w) _) (Blk.new w _ _) (OwnX.nil _ _))
  have DG := Lib.hid (fun (m : Nat) (hm : m < 10) W => Digits_pos m (by omega) W)
  have TK := Lib.hid (fun a b W (ha : a < 5) (hb : b < 8) => rToken_any (nameB a b) W (nameB_size a b ha hb))
  go_enter Tryd.func21, Tryd.ntmps21
  go_wp2_with fail
  generalize w.alloc (.cells #[.slice none 0 0, .int .i64 (c : Int)] 56) = W0 at *
  go_loopw [8, 9, 10, 11] (fun vn _ _ _ wr => ∃ (a : Nat) (v : Value), a ≤ n ∧ vn = .int .i64 ((a : Int) + 1) ∧ RS eQ 56 w wr v (c : Int) (sortP (pts tokT a k))) (fun vn _ _ _ _ => n + 1 - (intOf vn).toNat)
  case atStart => exact ⟨0, _, by omega, rfl, by rw [show sortP (pts tokT 0 k) = [] by simp [pts, sortP]]; exact RS0.out⟩
  case round =>
    obtain ⟨a, v, ha, rfl, hrs⟩ := hrel
    clear RS0
    have HR := Lib.hid hrs; clear hrs
    by_cases hlt : a < n
    · have hz : (a : Int) + 1 ≤ (n : Int) := by omega
      have ea := Lib.hid (show (a : Int) + 1 = ((a + 1 : Nat) : Int) by omega)
      go_wp2_with fail
      go_loopw [9, 10, 11] (fun vi _ _ wr => ∃ (b : Nat) (v : Value), b ≤ k ∧ vi = .int .i64 (b : Int) ∧ RS eQ 56 w wr v (c : Int) (sortP (pts tokT a k ++ ptsRow tokT a b))) (fun vi _ _ _ => k - (intOf vi).toNat)
      case atStart => exact ⟨0, v, by omega, rfl, by rw [show ptsRow tokT a 0 = [] from rfl, List.append_nil]; exact HR.out⟩
      case round =>
        obtain ⟨b, v, hb, rfl, hrs⟩ := hrel
        clear HR
        have HR := Lib.hid hrs; clear hrs
        by_cases hbl : b < k
        · have hbz : (b : Int) < (k : Int) := by omega
          have hnm : nameB a b = ((⟨#[110]⟩ : ByteArray) ++ ⟨[UInt8.ofNat (48 + (a + 1))].toArray⟩ ++ ⟨#[45]⟩) ++ ⟨[UInt8.ofNat (48 + b)].toArray⟩ := by unfold nameB; rw [digits1 _ (by omega), digits1 _ (by omega)]
          have i1 := fun W => DG.out (a + 1) (by omega) W
          have i2 := fun W => DG.out b (by omega) W
          rw [digits1 _ (by omega)] at i1 i2
          generalize UInt8.ofNat (48 + (a + 1)) = d1 at *
          generalize UInt8.ofNat (48 + b) = d2 at *
          have I1 := Lib.hid i1; have I2 := Lib.hid i2
          clear i1 i2
          have HNM := Lib.hid hnm; clear hnm
          have hlen := Lib.hid (show (sortP (pts tokT a k ++ ptsRow tokT a b)).length ≤ 1000 by
            rw [(sortP_perm _).length_eq, List.length_append, pts_length, ptsRow_length]
            have : a * k ≤ 5 * 8 := Nat.mul_le_mul (by omega) (by omega)
            omega)
          have hnext := Lib.hid (show pts tokT a k ++ ptsRow tokT a (b + 1) = (pts tokT a k ++ ptsRow tokT a b) ++ [(tokT a b, (a : Int) + 1)] by rw [ptsRow_succ, List.append_assoc])
          have TKB := Lib.hid (fun W => TK.out a b W (by omega) (by omega))
          have eT := Lib.hid (show tokT a b = tokI (nameB a b).toList from rfl)
          go_wp2_with fail
          rw [ea.out]
          refine (I1.out _).mono ?_
          rintro e w1 ⟨rfl, hb1⟩
          go_wp2_with fail
          refine (I2.out _).mono ?_
          rintro e w2 ⟨rfl, hb2⟩
          go_wp2_with fail
          have hnm2 : nameB a b = ((⟨#[110]⟩ : ByteArray) ++ ⟨#[d1]⟩ ++ ⟨#[45]⟩) ++ ⟨#[d2]⟩ := HNM.out
          rw [← hnm2]
          clear hnm2 HNM I1 I2
          have tk := TKB.out
          rw [← eT.out] at tk
          generalize nameB a b = nm at *
          refine (tk _).mono ?_
          rintro e w3 ⟨rfl, hb3⟩
          generalize tokT a b = tkn at *
          have hbp := below_alloc (below_tr (below_tr hb1 hb2) hb3) (.cells #[.int .i64 tkn, .int .i64 ((a : Int) + 1)] 64)
          have R4 := Lib.hid (HR.out.tail hbp)
          have pb := Blk.new w3 64 #[.int .i64 tkn, .int .i64 ((a : Int) + 1)]
          have PB := Lib.hid pb
          have hwa : IntKind.i64.wrap ((a : Int) + 1) = (a : Int) + 1 := by rw [IntKind.wrap_i64]; omega
          have m0 := R4.out.blk.cell 0 rfl; have f0 := R4.out.blk.frozen 0
          have m1 := R4.out.blk.cell 1 rfl
          obtain ⟨av, cv, hv, _, _⟩ := R4.out.own.sl.ex
          subst hv
          generalize hSS : pts tokT a k ++ ptsRow tokT a b = PP0 at *
          generalize hSd : sortP PP0 = S at *
          have HSD := Lib.hid hSd; have HSS := Lib.hid hSS; clear hSd hSS
          have hvb : ∀ q, (Value.slice av S.length cv).ownBlock = some q → q < w3.heap.size := fun q hq => Nat.lt_of_lt_of_le (World.ownsRow.lt HR.out.own q hq).2 (below_tr (below_tr hb1 hb2) hb3).size
          have hgp : w.heap.size < w3.heap.size := Nat.lt_of_lt_of_le HR.out.blk.lt (below_tr (below_tr hb1 hb2) hb3).size
          have HVB := Lib.hid hvb; have HGP := Lib.hid hgp
          have hlx : S.length + [(tkn, (a : Int) + 1)].length ≤ 9223372036854775807 := by have := hlen.out; simp; omega
          have hly : (S.length + [(tkn, (a : Int) + 1)].length) * eQ.bytes ≤ 140737488355328 := by have := hlen.out; show (_ + _) * 16 ≤ _; simp; omega
          clear hb1 hb2 hb3 hbp tk TKB HR eT hvb hgp
          go_wp2_with fail
          have p0 := PB.out.cell 0 (v := .int .i64 tkn) rfl; have p1 := PB.out.cell 1 (v := .int .i64 ((a : Int) + 1)) rfl
          generalize hWp : w3.alloc (.cells #[.int .i64 tkn, .int .i64 ((a : Int) + 1)] 64) = Wp at *
          generalize w3.heap.size = gp at *
          have R5 := Lib.hid (R4.out.tail (below_al (Below.drew (Below.refl _ Wp)) (.cells #[.int .i64 tkn, .int .i64 ((a : Int) + 1)] 64) (Nat.le_refl _)))
          have PB5 := Lib.hid (PB.out.drew.alloc (.cells #[.int .i64 tkn, .int .i64 ((a : Int) + 1)] 64))
          have hgpW := Lib.hid PB.out.lt
          have m0a := (R4.out.tail (below_alloc (Below.refl _ Wp) (.cells #[.int .i64 tkn, .int .i64 ((a : Int) + 1)] 64))).blk.cell 0 rfl
          apply meet_once
          · intro KK
            go_region_law (first
              | (refine st_x (E := eQ) (by rfl) (.tmp 67) (.tmp 69) (by rfl) (w.heap.size + 1) (.slice av S.length cv) S _ _ [(tkn, (a : Int) + 1)] (by rfl) (by rfl) (SlX.lit (E := eQ) Wp.drew #[.int .i64 tkn, .int .i64 ((a : Int) + 1)] [(tkn, (a : Int) + 1)] 1 1 rfl (by simp) (by rfl)) R5.out.own R5.out.size hlx hly ?_; intro v6 w6 hO6 hg6 hw6; have bk6 := R5.out.blk.grown hg6 (fun e => by have := R5.out.own.base _ e.symm; omega); have m6 := bk6.cell 0 rfl; have f6 := bk6.frozen 0; have R6 := Lib.hid (R5.out.next hg6 hO6); have P6 := Lib.hid (PB5.out.grown hg6 (fun e => by have := HVB.out _ e.symm; omega)); obtain ⟨gx, cx, rfl, hcx, hgx, hgx2, hcellx⟩ := OwnX.formN hO6 (S.length + 1) (by simp) (by omega)))
            all_goals (
              have P7 := Lib.hid (P6.out.far (p := ⟨w.heap.size, 0, none⟩) (by have := HGP.out; simp only; omega) (.slice (some ⟨gx, 0, none⟩) (S.length + 1) cx))
              have hgxp := Lib.hid (show gx ≠ gp by
                rcases hw6 with h | h
                · have := HVB.out gx h.symm; omega
                · injection h with h
                  have h2 : gp < (Wp.alloc (.cells #[.int .i64 tkn, .int .i64 ((a : Int) + 1)] 64)).heap.size := Nat.lt_of_lt_of_le hgpW.out (below_alloc (Below.refl _ Wp) _).size
                  have h3 : gx = (Wp.alloc (.cells #[.int .i64 tkn, .int .i64 ((a : Int) + 1)] 64)).heap.size := h
                  omega)
              have hgxg := Lib.hid hgx
              rw [insM_end] at R6
              clear hg6 hO6 bk6 m6 f6 hcellx hw6 hgx hgx2 P6
              generalize w6.setCell ⟨w.heap.size, 0, none⟩ (.slice (some ⟨gx, 0, none⟩) (S.length + 1) cx) = W7 at R6 P7 ⊢
              have FACT := And.intro R6 (And.intro P7 (And.intro hgxp (And.intro hgxg hcx)))
              clear R6 P7 hgxp hgxg hcx
              revert FACT
              revert W7
              revert cx
              revert gx
              exact KK.out)
          intro gx cx W7 FACT
          obtain ⟨R6, P7, hgxp, hgxg, hcx⟩ := FACT
          clear R5 PB5 R4 PB m0 m1 f0 p0 p1 m0a
          have hsl := hlen.out
          go_wp2_with fail
          go_loopw [11] (fun vk wr => ∃ (j : Nat) (x : Pt), vk = .int .i64 (j : Int) ∧ j ≤ S.length ∧ RS eQ 56 w wr (.slice (some ⟨gx, 0, none⟩) (S.length + 1) cx) (c : Int) (insM S j x) ∧ Blk wr gp 64 #[.int .i64 tkn, .int .i64 ((a : Int) + 1)] ∧ (∀ i (h : i < S.length), j ≤ i → ptLe S[i] (tkn, (a : Int) + 1) = false)) (fun vk _ => (intOf vk).toNat)
          case atStart => exact ⟨S.length, _, rfl, Nat.le_refl _, R6.out, P7.out, fun i h1 h2 => by omega⟩
          case round =>
            obtain ⟨j, x, rfl, hj, hrs, hpb, hgt⟩ := hrel
            clear R6 P7
            have HRS := Lib.hid hrs; have HPB := Lib.hid hpb; have HGT := Lib.hid hgt
            have m0 := hrs.blk.cell 0 rfl; have f0 := hrs.blk.frozen 0
            have p0 := hpb.cell 0 (v := .int .i64 tkn) rfl; have p1 := hpb.cell 1 (v := .int .i64 ((a : Int) + 1)) rfl
            clear hrs hpb hgt
            have hM := insM_length S j x
            have HM := Lib.hid hM
            have hxj : ∀ (h : j < (insM S j x).length), (insM S j x)[j] = x := by
              intro h
              simp only [insM, List.getElem_append_right (show (S.take j).length ≤ j by rw [List.length_take]; omega), List.length_take, Nat.min_eq_left hj, Nat.sub_self, List.getElem_cons_zero]
            have HXJ' := Lib.hid hxj
            clear hM hxj
            by_cases hj0 : j = 0
            · subst hj0
              as_aux_lemma =>
                have HXJ := Lib.hid (HXJ'.out (by have := HM.out; omega))
                go_wp2_with fail
                go_quiet (fail)
                have HV := Lib.hid (HRS.out.tail (below_drewN (Below.refl _ wr) nq))
                have PV := Lib.hid (HPB.out.drewN nq)
                clear m0 f0 p0 p1
                generalize wr.drewN nq = V at HV PV ⊢
                have cj0 : V.cell? ⟨gx, 0 * 2, none⟩ = some (.int .i64 x.1) := HV.out.own.cell 0 0 (by have := HM.out; omega) (u := .int .i64 x.1) (by rw [HXJ.out]; rfl)
                have cj1 : V.cell? ⟨gx, 0 * 2 + 1, none⟩ = some (.int .i64 x.2) := HV.out.own.cell 0 1 (by have := HM.out; omega) (u := .int .i64 x.2) (by rw [HXJ.out]; rfl)
                have fj0 := HV.out.own.frozen (0 * 2); have fj1 := HV.out.own.frozen (0 * 2 + 1)
                have m0 := HV.out.blk.cell 0 rfl; have f0 := HV.out.blk.frozen 0
                have p0 := PV.out.cell 0 (v := .int .i64 tkn) rfl; have p1 := PV.out.cell 1 (v := .int .i64 ((a : Int) + 1)) rfl
                have PUT := OwnX.put (E := eQ) HV.out.own 0 (by have := HM.out; omega) (tkn, (a : Int) + 1)
                rw [insM_put S 0 x (tkn, (a : Int) + 1) hj] at PUT
                have RV := Lib.hid ((HV.out.upd PUT.2 PUT.1).tail (Below.drew (Below.refl _ _)))
                clear PUT
                go_wp2_with fail
                apply meet_once
                · intro KK
                  go_region_law (fail)
                  all_goals exact KK.out
                clear cj0 cj1 fj0 fj1 m0 f0 p0 p1
                have SI := Lib.hid (sortP_insS HSD.out (tkn, (a : Int) + 1) 0 (by omega) (fun i h1 h2 => HGT.out i h1 h2) (fun i h1 h2 => by omega))
                go_wp2_with fail
                go_roundw
                case rel => exact ⟨b + 1, _, by omega, by first | rfl | go_num, by rw [hnext.out, ← SI.out]; exact RV.out⟩
                case measure => simp [intOf]; omega
            · obtain ⟨i, rfl⟩ : ∃ i, j = i + 1 := ⟨j - 1, by omega⟩
              clear hj0
              have HXJ := Lib.hid (HXJ'.out (by have := HM.out; omega))
              have hiN : (i : Int) < (S.length : Int) + 1 := by omega
              have hiN2 : (i : Int) + 1 < (S.length : Int) + 1 := by omega
              have hi0 : (0 : Int) < (i : Int) + 1 := by omega
              have hi01 : (0 : Int) ≤ (i : Int) + 1 := by omega
              have hwi : IntKind.i64.wrap (i : Int) = (i : Int) := by rw [IntKind.wrap_i64]; omega
              have z0 : wr.cell? ⟨gx, i * 2, none⟩ = some (.int .i64 S[i].1) := HRS.out.own.cell i 0 (by have := HM.out; omega) (u := .int .i64 S[i].1) (by rw [insM_get S (i + 1) x i (by omega) hj]; rfl)
              have z1 : wr.cell? ⟨gx, i * 2 + 1, none⟩ = some (.int .i64 S[i].2) := HRS.out.own.cell i 1 (by have := HM.out; omega) (u := .int .i64 S[i].2) (by rw [insM_get S (i + 1) x i (by omega) hj]; rfl)
              obtain ⟨y1, y2, hy⟩ : ∃ y1 y2, S[i] = (y1, y2) := ⟨_, _, rfl⟩
              have HY := Lib.hid hy
              rw [hy] at z0 z1
              clear hy
              by_cases h1 : tkn < y1
              · as_aux_lemma =>
                  go_wp2_with fail
                  go_quiet (fail)
                  have HV := Lib.hid (HRS.out.tail (below_drewN (Below.refl _ wr) nq))
                  have PV := Lib.hid (HPB.out.drewN nq)
                  clear m0 f0 p0 p1 z0 z1
                  generalize wr.drewN nq = V at HV PV ⊢
                  have z0 : V.cell? ⟨gx, i * 2, none⟩ = some (.int .i64 y1) := HV.out.own.cell i 0 (by have := HM.out; omega) (u := .int .i64 y1) (by rw [insM_get S (i + 1) x i (by omega) hj, HY.out]; rfl)
                  have z1 : V.cell? ⟨gx, i * 2 + 1, none⟩ = some (.int .i64 y2) := HV.out.own.cell i 1 (by have := HM.out; omega) (u := .int .i64 y2) (by rw [insM_get S (i + 1) x i (by omega) hj, HY.out]; rfl)
                  have cj0 : V.cell? ⟨gx, (i + 1) * 2, none⟩ = some (.int .i64 x.1) := HV.out.own.cell (i + 1) 0 (by have := HM.out; omega) (u := .int .i64 x.1) (by rw [HXJ.out]; rfl)
                  have cj1 : V.cell? ⟨gx, (i + 1) * 2 + 1, none⟩ = some (.int .i64 x.2) := HV.out.own.cell (i + 1) 1 (by have := HM.out; omega) (u := .int .i64 x.2) (by rw [HXJ.out]; rfl)
                  have fj0 := HV.out.own.frozen ((i + 1) * 2); have fj1 := HV.out.own.frozen ((i + 1) * 2 + 1)
                  have m0 := HV.out.blk.cell 0 rfl; have f0 := HV.out.blk.frozen 0
                  have PUT := OwnX.put (E := eQ) HV.out.own (i + 1) (by have := HM.out; omega) (y1, y2)
                  rw [← HY.out, insM_shift S i x (by omega), HY.out] at PUT
                  have RV := Lib.hid ((HV.out.upd PUT.2 PUT.1).tail (Below.drew (Below.refl _ _)))
                  have PP := Lib.hid ((((PV.out.far (p := ⟨gx, (i + 1) * 2, none⟩) (fun e => hgxp.out e.symm) (.int .i64 y1)).far (p := ⟨gx, (i + 1) * 2 + 1, none⟩) (fun e => hgxp.out e.symm) (.int .i64 y2))).drew)
                  clear PUT
                  go_wp2_with fail
                  have HS : ∀ w', Below V.heap.size V w' → (w'.cell? ⟨w.heap.size, 0, none⟩ = some (.slice (some ⟨gx, 0, none⟩) (S.length + 1) cx) ∧ w'.cell? ⟨gx, i * 2, none⟩ = some (.int .i64 y1) ∧ w'.cell? ⟨gx, i * 2 + 1, none⟩ = some (.int .i64 y2)) := fun w' h => ⟨cell_keep h m0, cell_keep h z0, cell_keep h z1⟩
                  have HS0 := HS _ (Below.drew (Below.refl _ V))
                  have HS1 := Lib.hid HS0
                  have HS2 := Lib.hid (show (((V.drew.setCell ⟨gx, (i + 1) * 2, none⟩ (.int .i64 y1)).setCell ⟨gx, (i + 1) * 2 + 1, none⟩ (.int .i64 y2)).cell? ⟨w.heap.size, 0, none⟩ = some (.slice (some ⟨gx, 0, none⟩) (S.length + 1) cx) ∧ ((V.drew.setCell ⟨gx, (i + 1) * 2, none⟩ (.int .i64 y1)).setCell ⟨gx, (i + 1) * 2 + 1, none⟩ (.int .i64 y2)).cell? ⟨gx, i * 2, none⟩ = some (.int .i64 y1) ∧ ((V.drew.setCell ⟨gx, (i + 1) * 2, none⟩ (.int .i64 y1)).setCell ⟨gx, (i + 1) * 2 + 1, none⟩ (.int .i64 y2)).cell? ⟨gx, i * 2 + 1, none⟩ = some (.int .i64 y2)) from by
                    exact ⟨keep2 HS0.1 (by have := hgxg.out; simp only; omega) (by have := hgxg.out; simp only; omega), keep2 HS0.2.1 (by simp only; omega) (by simp only; omega), keep2 HS0.2.2 (by simp only; omega) (by simp only; omega)⟩)
                  clear HS HS0
                  go_region_held3 (fun w' => w'.cell? ⟨w.heap.size, 0, none⟩ = some (.slice (some ⟨gx, 0, none⟩) (S.length + 1) cx) ∧ w'.cell? ⟨gx, i * 2, none⟩ = some (.int .i64 y1) ∧ w'.cell? ⟨gx, i * 2 + 1, none⟩ = some (.int .i64 y2))
                    (first | assumption | with_reducible exact HS1.out | with_reducible exact HS2.out)
                    (fail)
                  clear HS1 HS2
                  clear z0 z1 cj0 cj1 fj0 fj1 m0 f0
                  go_wp2_with fail
                  go_roundw
                  case rel => exact ⟨i, (y1, y2), by first | rfl | go_num | (congr 1; omega), by omega, RV.out, PP.out, fun i' h1 h2 => by
                    rcases Nat.lt_or_ge i i' with h3 | h3
                    · exact HGT.out i' h1 (by omega)
                    · have : i' = i := by omega
                      subst this
                      rw [HY.out, Bool.eq_false_iff, ne_eq, ptLe_iff]
                      simp only; omega⟩
                  case measure => simp [intOf]
              · by_cases h2 : y1 = tkn
                · subst h2
                  by_cases h3 : (a : Int) + 1 < y2
                  · as_aux_lemma =>
                      go_wp2_with fail
                      go_quiet (fail)
                      have HV := Lib.hid (HRS.out.tail (below_drewN (Below.refl _ wr) nq))
                      have PV := Lib.hid (HPB.out.drewN nq)
                      clear m0 f0 p0 p1 z0 z1
                      generalize wr.drewN nq = V at HV PV ⊢
                      have z0 : V.cell? ⟨gx, i * 2, none⟩ = some (.int .i64 y1) := HV.out.own.cell i 0 (by have := HM.out; omega) (u := .int .i64 y1) (by rw [insM_get S (i + 1) x i (by omega) hj, HY.out]; rfl)
                      have z1 : V.cell? ⟨gx, i * 2 + 1, none⟩ = some (.int .i64 y2) := HV.out.own.cell i 1 (by have := HM.out; omega) (u := .int .i64 y2) (by rw [insM_get S (i + 1) x i (by omega) hj, HY.out]; rfl)
                      have cj0 : V.cell? ⟨gx, (i + 1) * 2, none⟩ = some (.int .i64 x.1) := HV.out.own.cell (i + 1) 0 (by have := HM.out; omega) (u := .int .i64 x.1) (by rw [HXJ.out]; rfl)
                      have cj1 : V.cell? ⟨gx, (i + 1) * 2 + 1, none⟩ = some (.int .i64 x.2) := HV.out.own.cell (i + 1) 1 (by have := HM.out; omega) (u := .int .i64 x.2) (by rw [HXJ.out]; rfl)
                      have fj0 := HV.out.own.frozen ((i + 1) * 2); have fj1 := HV.out.own.frozen ((i + 1) * 2 + 1)
                      have m0 := HV.out.blk.cell 0 rfl; have f0 := HV.out.blk.frozen 0
                      have PUT := OwnX.put (E := eQ) HV.out.own (i + 1) (by have := HM.out; omega) (y1, y2)
                      rw [← HY.out, insM_shift S i x (by omega), HY.out] at PUT
                      have RV := Lib.hid ((HV.out.upd PUT.2 PUT.1).tail (Below.drew (Below.refl _ _)))
                      have PP := Lib.hid ((((PV.out.far (p := ⟨gx, (i + 1) * 2, none⟩) (fun e => hgxp.out e.symm) (.int .i64 y1)).far (p := ⟨gx, (i + 1) * 2 + 1, none⟩) (fun e => hgxp.out e.symm) (.int .i64 y2))).drew)
                      clear PUT
                      go_wp2_with fail
                      have HS : ∀ w', Below V.heap.size V w' → (w'.cell? ⟨w.heap.size, 0, none⟩ = some (.slice (some ⟨gx, 0, none⟩) (S.length + 1) cx) ∧ w'.cell? ⟨gx, i * 2, none⟩ = some (.int .i64 y1) ∧ w'.cell? ⟨gx, i * 2 + 1, none⟩ = some (.int .i64 y2)) := fun w' h => ⟨cell_keep h m0, cell_keep h z0, cell_keep h z1⟩
                      have HS0 := HS _ (Below.drew (Below.refl _ V))
                      have HS1 := Lib.hid HS0
                      have HS2 := Lib.hid (show (((V.drew.setCell ⟨gx, (i + 1) * 2, none⟩ (.int .i64 y1)).setCell ⟨gx, (i + 1) * 2 + 1, none⟩ (.int .i64 y2)).cell? ⟨w.heap.size, 0, none⟩ = some (.slice (some ⟨gx, 0, none⟩) (S.length + 1) cx) ∧ ((V.drew.setCell ⟨gx, (i + 1) * 2, none⟩ (.int .i64 y1)).setCell ⟨gx, (i + 1) * 2 + 1, none⟩ (.int .i64 y2)).cell? ⟨gx, i * 2, none⟩ = some (.int .i64 y1) ∧ ((V.drew.setCell ⟨gx, (i + 1) * 2, none⟩ (.int .i64 y1)).setCell ⟨gx, (i + 1) * 2 + 1, none⟩ (.int .i64 y2)).cell? ⟨gx, i * 2 + 1, none⟩ = some (.int .i64 y2)) from by
                        exact ⟨keep2 HS0.1 (by have := hgxg.out; simp only; omega) (by have := hgxg.out; simp only; omega), keep2 HS0.2.1 (by simp only; omega) (by simp only; omega), keep2 HS0.2.2 (by simp only; omega) (by simp only; omega)⟩)
                      clear HS HS0
                      go_region_held3 (fun w' => w'.cell? ⟨w.heap.size, 0, none⟩ = some (.slice (some ⟨gx, 0, none⟩) (S.length + 1) cx) ∧ w'.cell? ⟨gx, i * 2, none⟩ = some (.int .i64 y1) ∧ w'.cell? ⟨gx, i * 2 + 1, none⟩ = some (.int .i64 y2))
                        (first | assumption | with_reducible exact HS1.out | with_reducible exact HS2.out)
                        (fail)
                      clear HS1 HS2
                      clear z0 z1 cj0 cj1 fj0 fj1 m0 f0
                      go_wp2_with fail
                      go_roundw
                      case rel => exact ⟨i, (y1, y2), by first | rfl | go_num | (congr 1; omega), by omega, RV.out, PP.out, fun i' h1 h2 => by
                        rcases Nat.lt_or_ge i i' with h3 | h3
                        · exact HGT.out i' h1 (by omega)
                        · have : i' = i := by omega
                          subst this
                          rw [HY.out, Bool.eq_false_iff, ne_eq, ptLe_iff]
                          simp only; omega⟩
                      case measure => simp [intOf]
                  · as_aux_lemma =>
                      have HD1 := Lib.hid (show ∀ i' (h : i' < S.length), i' + 1 = i + 1 → ptLe S[i'] (y1, (a : Int) + 1) = true from fun i' h' e' => by
                        have e : i' = i := by omega
                        subst e
                        rw [HY.out, ptLe_iff]
                        exact .inr ⟨rfl, by show y2 ≤ (a : Int) + 1; omega⟩)
                      go_wp2_with fail
                      go_quiet (fail)
                      have HV := Lib.hid (HRS.out.tail (below_drewN (Below.refl _ wr) nq))
                      have PV := Lib.hid (HPB.out.drewN nq)
                      clear m0 f0 p0 p1 z0 z1
                      generalize wr.drewN nq = V at HV PV ⊢
                      have cj0 : V.cell? ⟨gx, (i + 1) * 2, none⟩ = some (.int .i64 x.1) := HV.out.own.cell (i + 1) 0 (by have := HM.out; omega) (u := .int .i64 x.1) (by rw [HXJ.out]; rfl)
                      have cj1 : V.cell? ⟨gx, (i + 1) * 2 + 1, none⟩ = some (.int .i64 x.2) := HV.out.own.cell (i + 1) 1 (by have := HM.out; omega) (u := .int .i64 x.2) (by rw [HXJ.out]; rfl)
                      have fj0 := HV.out.own.frozen ((i + 1) * 2); have fj1 := HV.out.own.frozen ((i + 1) * 2 + 1)
                      have m0 := HV.out.blk.cell 0 rfl; have f0 := HV.out.blk.frozen 0
                      have p0 := PV.out.cell 0 (v := .int .i64 y1) rfl; have p1 := PV.out.cell 1 (v := .int .i64 ((a : Int) + 1)) rfl
                      have PUT := OwnX.put (E := eQ) HV.out.own (i + 1) (by have := HM.out; omega) (y1, (a : Int) + 1)
                      rw [insM_put S (i + 1) x (y1, (a : Int) + 1) hj] at PUT
                      have RV := Lib.hid ((HV.out.upd PUT.2 PUT.1).tail (Below.drew (Below.refl _ _)))
                      clear PUT
                      go_wp2_with fail
                      apply meet_once
                      · intro KK
                        go_region_law (fail)
                        all_goals exact KK.out
                      clear cj0 cj1 fj0 fj1 m0 f0 p0 p1
                      have SI := Lib.hid (sortP_insS HSD.out (y1, (a : Int) + 1) (i + 1) (by omega) (fun i h1 h2 => HGT.out i h1 h2) HD1.out)
                      go_wp2_with fail
                      go_roundw
                      case rel => exact ⟨b + 1, _, by omega, by first | rfl | go_num, by rw [hnext.out, ← SI.out]; exact RV.out⟩
                      case measure => simp [intOf]; omega
                · as_aux_lemma =>
                    have h2' : (y1 == tkn) = false := by simpa using h2
                    have h4 : y1 < tkn := by omega
                    have HD1 := Lib.hid (show ∀ i' (h : i' < S.length), i' + 1 = i + 1 → ptLe S[i'] (tkn, (a : Int) + 1) = true from fun i' h' e' => by
                      have e : i' = i := by omega
                      subst e
                      rw [HY.out, ptLe_iff]
                      exact .inl h4)
                    have H4 := Lib.hid h4; have H5 := Lib.hid h2'
                    clear h4 h2 h2'
                    go_wp2_with fail
                    have h2' := H5.out
                    have h6 : ¬ tkn < y1 := by have := H4.out; omega
                    have h7 : decide (tkn < y1) = false := decide_eq_false h6
                    have h8 : decide (y1 > tkn) = false := decide_eq_false h6
                    go_quiet (fail)
                    have HV := Lib.hid (HRS.out.tail (below_drewN (Below.refl _ wr) nq))
                    have PV := Lib.hid (HPB.out.drewN nq)
                    clear m0 f0 p0 p1 z0 z1
                    generalize wr.drewN nq = V at HV PV ⊢
                    have cj0 : V.cell? ⟨gx, (i + 1) * 2, none⟩ = some (.int .i64 x.1) := HV.out.own.cell (i + 1) 0 (by have := HM.out; omega) (u := .int .i64 x.1) (by rw [HXJ.out]; rfl)
                    have cj1 : V.cell? ⟨gx, (i + 1) * 2 + 1, none⟩ = some (.int .i64 x.2) := HV.out.own.cell (i + 1) 1 (by have := HM.out; omega) (u := .int .i64 x.2) (by rw [HXJ.out]; rfl)
                    have fj0 := HV.out.own.frozen ((i + 1) * 2); have fj1 := HV.out.own.frozen ((i + 1) * 2 + 1)
                    have m0 := HV.out.blk.cell 0 rfl; have f0 := HV.out.blk.frozen 0
                    have p0 := PV.out.cell 0 (v := .int .i64 tkn) rfl; have p1 := PV.out.cell 1 (v := .int .i64 ((a : Int) + 1)) rfl
                    have PUT := OwnX.put (E := eQ) HV.out.own (i + 1) (by have := HM.out; omega) (tkn, (a : Int) + 1)
                    rw [insM_put S (i + 1) x (tkn, (a : Int) + 1) hj] at PUT
                    have RV := Lib.hid ((HV.out.upd PUT.2 PUT.1).tail (Below.drew (Below.refl _ _)))
                    clear PUT
                    go_wp2_with fail
                    apply meet_once
                    · intro KK
                      go_region_law (fail)
                      all_goals exact KK.out
                    clear cj0 cj1 fj0 fj1 m0 f0 p0 p1
                    have SI := Lib.hid (sortP_insS HSD.out (tkn, (a : Int) + 1) (i + 1) (by omega) (fun i h1 h2 => HGT.out i h1 h2) HD1.out)
                    go_wp2_with fail
                    go_roundw
                    case rel => exact ⟨b + 1, _, by omega, by first | rfl | go_num, by rw [hnext.out, ← SI.out]; exact RV.out⟩
                    case measure => simp [intOf]; omega
        · have hbz : ¬ (b : Int) < (k : Int) := by omega
          obtain rfl : b = k := by omega
          have hnx := Lib.hid (pts_succ tokT a b)
          go_wp2_with fail
          go_roundw
          case rel => exact ⟨a + 1, v, by omega, by first | rfl | go_num, by rw [hnx.out]; exact HR.out⟩
          case measure => simp [intOf]; omega
    · have hz : ¬ (a : Int) + 1 ≤ (n : Int) := by omega
      obtain rfl : a = n := by omega
      have hlr : (sortP (pts tokT a k)).length = (ringL tokT a k).length := rfl
      obtain ⟨hB, hblk, hown⟩ := HR.out
      have hp : 0 < (sortP (pts tokT a k)).length := by rw [(sortP_perm _).length_eq, pts_length]; exact Nat.mul_pos (by omega) (by omega)
      obtain ⟨gx, cx, rfl, _, hgx, _⟩ := OwnX.formN hown _ rfl hp
      have HBK := Lib.hid hblk; have HBB := Lib.hid hB; have HOO := Lib.hid hown
      clear hown hblk hB
      go_wp2_with fail
      go_ret
      have RA := RingAt.mk (HBK.out.cell 0 rfl) (HBK.out.cell 1 rfl) HOO.out.sl
      first | exact ⟨w.heap.size, gx, cx, rfl, RA, HBB.out⟩ | exact ⟨w.heap.size, rfl, ⟨gx, cx, RA⟩, HBB.out⟩ | exact ⟨rfl, ⟨gx, cx, RA⟩, HBB.out⟩
end Go.Proofs.YtmjeifbadjdnfaaDoor
