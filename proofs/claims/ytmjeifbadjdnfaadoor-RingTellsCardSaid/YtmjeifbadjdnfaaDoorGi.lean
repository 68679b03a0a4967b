/- Contract of ring.New. Conditions: none (a ring, or none). -/
import Derived.Test.YtmjeifbadjdnfaaDoorGh
import Derived.Lib.ItoaNum
set_option linter.unusedVariables false
set_option linter.unusedSimpArgs false
set_option maxRecDepth 20000
namespace Go.Proofs.YtmjeifbadjdnfaaDoor
open Go.RowKit Go.Sort

theorem digits1 (m : Nat) (h : m < 10) : Lib.decDigits m = [UInt8.ofNat (48 + m)] := by rw [Lib.decDigits, dif_pos h]
def nameB (a b : Nat) : ByteArray := ((⟨#[110]⟩ : ByteArray) ++ ⟨(Lib.decDigits (a + 1)).toArray⟩ ++ ⟨#[45]⟩) ++ ⟨(Lib.decDigits b).toArray⟩
theorem nameB_size (a b : Nat) (ha : a < 5) (hb : b < 8) : (nameB a b).size ≤ 1000000 := by
  unfold nameB
  rw [digits1 _ (by omega), digits1 _ (by omega)]
  simp only [ByteArray.size_append]
  show (1 + 1 + 1) + 1 ≤ 1000000
  decide
def tokT (a b : Nat) : Int := tokI (nameB a b).toList

/-- a ring that New builds, in block w.heap.size -/
structure RS (E : El Pt) (T : TypeId) (w W : World) (v : Value) (c : Int) (l : List Pt) : Prop where
  below : Below w.heap.size w W
  blk : Blk W w.heap.size T #[v, .int .i64 c]
  own : OwnX E W (w.heap.size + 1) v l
section
variable {E : El Pt} {T : TypeId} {w W : World} {v : Value} {c : Int} {l : List Pt}
theorem RS.size (h : RS E T w W v c l) : w.heap.size + 1 ≤ W.heap.size := h.blk.lt
theorem RS.tail (h : RS E T w W v c l) {w1 : World} (hb : Below W.heap.size W w1) : RS E T w w1 v c l := ⟨below_tr h.below hb, h.blk.below hb, h.own.below hb⟩
theorem RS.next (h : RS E T w W v c l) {w6 : World} {v6 : Value} {l6 : List Pt} (hg6 : W.grownBy w6 v.ownBlock) (hO6 : OwnX E w6 (w.heap.size + 1) v6 l6) : RS E T w (w6.setCell ⟨w.heap.size, 0, none⟩ v6) v6 c l6 := by
  have hb := h.own.base
  refine ⟨?_, ?_, ?_⟩
  · exact (Below.grown h.below hg6 h.below.size (fun k hk => by have := hb k hk; omega)).setCell (p := ⟨w.heap.size, 0, none⟩) (Nat.le_refl _) _
  · exact ((h.blk.grown hg6 (fun e => by have := hb _ e.symm; omega)).put 0 v6)
  · exact hO6.but (S := fun q => q = w.heap.size) (But.setCell (S := fun q => q = w.heap.size) (But.refl _ _) (p := ⟨w.heap.size, 0, none⟩) rfl _) (fun k hk e => by omega)
end

theorem New_bad (n k c : Int) (w : World) (h : n < 1 ∨ 5 < n ∨ k < 1 ∨ 8 < k ∨ c < 1 ∨ n < c) :
    Calls Tryd.prog 20 #[.int .i64 n, .int .i64 k, .int .i64 c] w fun e w' => e = .returned (.pointer none) ∧ w = w' := by
  by_cases h1 : n < 1
  · go_enter Tryd.func20, Tryd.ntmps20
    go_wp2_with fail
    go_ret
    exact ⟨rfl, rfl⟩
  · by_cases h2 : 5 < n
    · go_enter Tryd.func20, Tryd.ntmps20
      go_wp2_with fail
      go_ret
      exact ⟨rfl, rfl⟩
    · by_cases h3 : k < 1
      · go_enter Tryd.func20, Tryd.ntmps20
        go_wp2_with fail
        go_ret
        exact ⟨rfl, rfl⟩
      · by_cases h4 : 8 < k
        · go_enter Tryd.func20, Tryd.ntmps20
          go_wp2_with fail
          go_ret
          exact ⟨rfl, rfl⟩
        · by_cases h5 : c < 1
          · go_enter Tryd.func20, Tryd.ntmps20
            go_wp2_with fail
            go_ret
            exact ⟨rfl, rfl⟩
          · have h6 : n < c := by omega
            go_enter Tryd.func20, Tryd.ntmps20
            go_wp2_with fail
            go_ret
            exact ⟨rfl, rfl⟩

set_option maxHeartbeats 4000000 in
theorem New_any (n k c : Nat) (w : World) (hn1 : 1 ≤ n) (hn5 : n ≤ 5) (hk1 : 1 ≤ k) (hk8 : k ≤ 8) (hc1 : 1 ≤ c) (hcn : c ≤ n) :
    Calls Tryd.prog 20 #[.int .i64 (n : Int), .int .i64 (k : Int), .int .i64 (c : Int)] w
      fun e w' => ∃ g gl cl, e = .returned (.pointer (some ⟨g, 0, none⟩)) ∧ RingAt eP w' g gl 0 cl (ringL tokT n k) (c : Int) ∧ Below w.heap.size w w' := by
  have q1 : ¬ (n : Int) < 1 := by omega
  have q2 : ¬ (5 : Int) < (n : Int) := by omega
  have q3 : ¬ (k : Int) < 1 := by omega
  have q4 : ¬ (8 : Int) < (k : Int) := by omega
  have q5 : ¬ (c : Int) < 1 := by omega
  have q6 : ¬ (n : Int) < (c : Int) := by omega
  have RS0 := Lib.hid (RS.mk (E := eP) (T := 69) (w := w) (W := w.alloc (.cells #[.slice none 0 0, .int .i64 (c : Int)] 69)) (below_alloc (Below.refl _ w) _) (Blk.new w _ _) (OwnX.nil _ _))
  have IT := Lib.hid (fun (m : Nat) (hm : m < 10) W => Tryd.strconv_Itoa_small m (by omega) W)
  have TK := Lib.hid (fun a b W (ha : a < 5) (hb : b < 8) => Token_any (nameB a b) W (nameB_size a b ha hb))
  go_enter Tryd.func20, Tryd.ntmps20
  go_wp2_with fail
  generalize w.alloc (.cells #[.slice none 0 0, .int .i64 (c : Int)] 69) = W0 at *
  go_loopw [8, 9, 10, 38, 42] (fun _ _ _ i _ wr => ∃ (a : Nat) (v : Value), a ≤ n ∧ i = .int .i64 (a : Int) ∧ RS eP 69 w wr v (c : Int) (pts tokT a k)) (fun _ _ _ i _ _ => n - (intOf i).toNat)
  case atStart => exact ⟨0, _, by omega, rfl, RS0.out⟩
  case round =>
    obtain ⟨a, v, ha, rfl, hrs⟩ := hrel
    clear RS0
    have HR := Lib.hid hrs; clear hrs
    by_cases hlt : a < n
    · have hz : (a : Int) < (n : Int) := by omega
      have ea := Lib.hid (show (a : Int) + 1 = ((a + 1 : Nat) : Int) by omega)
      go_wp2_with fail
      go_loopw [9, 10, 42] (fun _ _ i wr => ∃ (b : Nat) (v : Value), b ≤ k ∧ i = .int .i64 (b : Int) ∧ RS eP 69 w wr v (c : Int) (pts tokT a k ++ ptsRow tokT a b)) (fun _ _ i _ => k - (intOf i).toNat)
      case atStart => exact ⟨0, v, by omega, rfl, by rw [show ptsRow tokT a 0 = [] from rfl, List.append_nil]; exact HR.out⟩
      case round =>
        obtain ⟨b, v, hb, rfl, hrs⟩ := hrel
        clear HR
        have HR := Lib.hid hrs; clear hrs
        by_cases hbl : b < k
        · have hbz : (b : Int) < (k : Int) := by omega
          have hnm : nameB a b = ((⟨#[110]⟩ : ByteArray) ++ ⟨[UInt8.ofNat (48 + (a + 1))].toArray⟩ ++ ⟨#[45]⟩) ++ ⟨[UInt8.ofNat (48 + b)].toArray⟩ := by unfold nameB; rw [digits1 _ (by omega), digits1 _ (by omega)]
          have i1 := fun W => IT.out (a + 1) (by omega) W
          have i2 := fun W => IT.out b (by omega) W
          rw [digits1 _ (by omega)] at i1 i2
          generalize UInt8.ofNat (48 + (a + 1)) = d1 at *
          generalize UInt8.ofNat (48 + b) = d2 at *
          have I1 := Lib.hid i1; have I2 := Lib.hid i2
          clear i1 i2
          have HNM := Lib.hid hnm; clear hnm
          have hlen := Lib.hid (show (pts tokT a k ++ ptsRow tokT a b).length ≤ 1000 by
            rw [List.length_append, pts_length, ptsRow_length]
            have : a * k ≤ 5 * 8 := Nat.mul_le_mul (by omega) (by omega)
            omega)
          have hnext := Lib.hid (show pts tokT a k ++ ptsRow tokT a (b + 1) = (pts tokT a k ++ ptsRow tokT a b) ++ [(tokT a b, (a : Int) + 1)] by rw [ptsRow_succ, List.append_assoc])
          have TKB := Lib.hid (fun W => TK.out a b W (by omega) (by omega))
          have eT := Lib.hid (show tokT a b = tokI (nameB a b).toList from rfl)
          go_wp2_with fail
          rw [ea.out]
          refine (I1.out _).mono ?_
          rintro e w1 ⟨rfl, rfl⟩
          go_wp2_with fail
          refine (I2.out _).mono ?_
          rintro e w2 ⟨rfl, rfl⟩
          go_wp2_with fail
          have hnm2 : nameB a b = ((⟨#[110]⟩ : ByteArray) ++ ⟨#[d1]⟩ ++ ⟨#[45]⟩) ++ ⟨#[d2]⟩ := HNM.out
          rw [← hnm2]
          clear hnm2 HNM I1 I2
          have tk := TKB.out
          rw [← eT.out] at tk
          generalize nameB a b = nm at *
          have TKC := Lib.hid tk; clear tk TKB eT
          obtain ⟨hB, hblk, hown⟩ := HR.out
          obtain ⟨av, cv, hv, _, _⟩ := hown.sl.ex
          subst hv
          have hl1 := hlen.out
          generalize pts tokT a k ++ ptsRow tokT a b = l at *
          generalize tokT a b = tk at *
          have m0 := hblk.cell 0 rfl; have f0 := hblk.frozen 0
          have HO := Lib.hid hown; have HBK := Lib.hid hblk
          have hlx : l.length + [(tk, (a : Int) + 1)].length ≤ 9223372036854775807 := by simp; omega
          have hly : (l.length + [(tk, (a : Int) + 1)].length) * eP.bytes ≤ 140737488355328 := by show (_ + _) * 16 ≤ _; simp; omega
          have hwa : IntKind.i64.wrap ((a : Int) + 1) = (a : Int) + 1 := by rw [IntKind.wrap_i64]; omega
          clear hown hblk hB
          go_region_law (first
            | (go_simp; go_at_call 45; refine (TKC.out _).mono ?_; rintro e5 w5 ⟨rfl, b5⟩; have R5 := Lib.hid ((HR.out.tail (Below.drew (Below.refl _ _))).tail b5); have m5 := R5.out.blk.cell 0 rfl; have f5 := R5.out.blk.frozen 0; have R5a := Lib.hid (R5.out.tail (below_alloc (Below.refl _ w5) (.cells #[.int .i64 tk, .int .i64 ((a : Int) + 1)] 63))); have m5a := R5a.out.blk.cell 0 rfl; have f5a := R5a.out.blk.frozen 0)
            | (refine st_x (E := eP) (by rfl) (.tmp 57) (.tmp 63) (by rfl) (w.heap.size + 1) (.slice av l.length cv) l _ _ [(tk, (a : Int) + 1)] (by rfl) (by rfl) (SlX.lit (E := eP) w5 #[.int .i64 tk, .int .i64 ((a : Int) + 1)] [(tk, (a : Int) + 1)] 1 1 rfl (by simp) (by rfl)) R5a.out.own R5a.out.size hlx hly ?_; intro v6 w6 hO6 hg6 hw6; have R6 := Lib.hid (R5a.out.next hg6 hO6); have bk6 := R5a.out.blk.grown hg6 (fun e => by have := R5a.out.own.base _ e.symm; omega); have m6 := bk6.cell 0 rfl; have f6 := bk6.frozen 0; obtain ⟨gx, cx, rfl, hcx, hgx, hgx2, hcellx⟩ := OwnX.formN hO6 (l.length + 1) (by simp) (by omega)))
          all_goals (clear b5 m5 f5 m5a f5a hg6 hO6 bk6 m6 f6 hcellx)
          all_goals (go_wp2_with fail)
          all_goals (
            go_roundw
            case rel => exact ⟨b + 1, _, by omega, by first | rfl | go_num, by rw [hnext.out]; exact R6.out⟩
            case measure => simp [intOf]; omega)
        · have hbz : ¬ (b : Int) < (k : Int) := by omega
          obtain rfl : b = k := by omega
          have hnx := Lib.hid (pts_succ tokT a b)
          go_wp2_with fail
          go_roundw
          case rel => exact ⟨a + 1, v, by omega, by first | rfl | go_num, by rw [hnx.out]; exact HR.out⟩
          case measure => simp [intOf]; omega
    · have hz : ¬ (a : Int) < (n : Int) := by omega
      obtain rfl : a = n := by omega
      have hp : 0 < (pts tokT a k).length := by rw [pts_length]; exact Nat.mul_pos (by omega) (by omega)
      have hl : (pts tokT a k).length ≤ 1000 := by
        rw [pts_length]
        have : a * k ≤ 5 * 8 := Nat.mul_le_mul (by omega) (by omega)
        omega
      obtain ⟨hB, hblk, hown⟩ := HR.out
      obtain ⟨gx, cx, rfl, _, hgx, _⟩ := OwnX.formN hown _ rfl hp
      have SO := Lib.hid (sortPt_any gx (pts tokT a k).length cx (w.heap.size + 1) (pts tokT a k) wr hown hl)
      have hlr : (pts tokT a k).length = (ringL tokT a k).length := by rw [ringL_length, pts_length]
      have HLR := Lib.hid hlr
      have hring : ringL tokT a k = sortP (pts tokT a k) := rfl
      rw [← hring] at SO
      have m0 := hblk.cell 0 rfl
      have HBK := Lib.hid hblk; have HBB := Lib.hid hB
      clear hown hblk hB hlr hring
      go_wp2_with fail
      refine SO.out.mono ?_
      rintro e w5 ⟨rfl, hO5, hg5⟩
      have bk5 := HBK.out.grown hg5 (fun e => by injection e with e; omega)
      have hB5 := Below.grown HBB.out hg5 HBB.out.size (fun q hq => by injection hq with hq; omega)
      go_wp2_with fail
      go_ret
      exact ⟨w.heap.size, gx, cx, rfl, ⟨by rw [← HLR.out]; exact bk5.cell 0 rfl, bk5.cell 1 rfl, by rw [← HLR.out]; exact hO5.sl⟩, hB5⟩
end Go.Proofs.YtmjeifbadjdnfaaDoor
