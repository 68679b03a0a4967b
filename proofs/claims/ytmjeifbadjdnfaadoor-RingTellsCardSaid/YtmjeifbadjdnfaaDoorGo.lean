/- The law RingOf; a law's shape as it came in. Condition: the law's bounds. -/
import Derived.Test.YtmjeifbadjdnfaaDoorGk
import Derived.Test.YtmjeifbadjdnfaaDoorGl
import Derived.Test.YtmjeifbadjdnfaaDoorGm
set_option linter.unusedVariables false
set_option linter.unusedSimpArgs false
set_option maxRecDepth 20000
namespace Go.Proofs.YtmjeifbadjdnfaaDoor
open Go.RowKit Go.Sort

/-- What a shape's two rings are. -/
structure Two15 (W : World) (g1 l1 k1 g2 l2 k2 : Nat) (L : List Pt) (c : Int) : Prop where
  a : RingAt eP W g1 l1 0 k1 L c
  b : RingAt eQ W g2 l2 0 k2 L c
theorem Two15.keep {W W' : World} {g1 l1 k1 g2 l2 k2 : Nat} {L : List Pt} {c : Int} (h : Two15 W g1 l1 k1 g2 l2 k2 L c) (hb : Below W.heap.size W W') : Two15 W' g1 l1 k1 g2 l2 k2 L c := ⟨h.a.keep hb, h.b.keep hb⟩
def badS (n k c : Int) : Prop := n < 1 ∨ 5 < n ∨ k < 1 ∨ 8 < k ∨ c < 1 ∨ n < c
theorem ring_len (n k : Nat) (hn5 : n ≤ 5) (hk8 : k ≤ 8) : (ringL tokT n k).length ≤ 1000 := by
  rw [ringL_length]
  have : n * k ≤ 5 * 8 := Nat.mul_le_mul hn5 hk8
  omega
theorem ring_pos (n k : Nat) (hn1 : 1 ≤ n) (hk1 : 1 ≤ k) : 0 < (ringL tokT n k).length := by rw [ringL_length]; exact Nat.mul_pos (by omega) (by omega)
theorem ring_nod (n k : Nat) (hn5 : n ≤ 5) : ∀ p ∈ ringL tokT n k, 1 ≤ p.2 ∧ p.2 ≤ 5 := fun p hp => by have := ringL_mem tokT n k p hp; omega

set_option maxHeartbeats 4000000 in
theorem RingOf_walk (n k c : Int) (s : ByteArray) (w : World) : Calls Tryd.prog 6 #[.agg #[.int .i64 n, .int .i64 k, .int .i64 c], .string s] w fun e w' => e = .returned (.bool true) ∧ Below w.heap.size w w' := by
  have LV := Lib.hid (fun W => lives15 W)
  have HB0 := Lib.hid (below_alloc (Below.refl _ w) (.cells #[.int .i64 n, .int .i64 k, .int .i64 c] 45))
  have b0 := Blk.new w 45 #[.int .i64 n, .int .i64 k, .int .i64 c]
  by_cases hl : (10000 : Int) < (s.size : Int)
  · go_enter Tryd.func6, Tryd.ntmps6
    go_wp2_with fail
    refine (LV.out _).mono ?_
    rintro e w1 ⟨rfl, hb⟩
    go_wp2_with fail
    go_ret
    exact ⟨rfl, below_tr HB0.out hb⟩
  · have hsz : s.size ≤ 1000000 := by omega
    have x0 := b0.cell 0 (v := .int .i64 n) rfl; have x1 := b0.cell 1 (v := .int .i64 k) rfl; have x2 := b0.cell 2 (v := .int .i64 c) rfl
    clear b0
    go_enter Tryd.func6, Tryd.ntmps6
    go_wp2_with fail
    generalize w.alloc (.cells #[.int .i64 n, .int .i64 k, .int .i64 c] 45) = W0 at *
    have HS : ∀ w', Below W0.heap.size W0 w' → (InW W0 w' ∧ w'.cell? ⟨w.heap.size, 0, none⟩ = some (.int .i64 n) ∧ w'.cell? ⟨w.heap.size, 1, none⟩ = some (.int .i64 k) ∧ w'.cell? ⟨w.heap.size, 2, none⟩ = some (.int .i64 c)) :=
      fun w' h => ⟨h, cell_keep h x0, cell_keep h x1, cell_keep h x2⟩
    have HS' := Lib.hid HS; clear HS
    by_cases hbad : badS n k c
    · have NB := Lib.hid (fun W => New_bad n k c W hbad)
      have RB := Lib.hid (fun W => rNew_bad n k c W hbad)
      go_region_held3 (fun w' => InW W0 w' ∧ w'.cell? ⟨w.heap.size, 0, none⟩ = some (.int .i64 n) ∧ w'.cell? ⟨w.heap.size, 1, none⟩ = some (.int .i64 k) ∧ w'.cell? ⟨w.heap.size, 2, none⟩ = some (.int .i64 c))
        (first | assumption | exact HS'.out _ (by repeat (first | exact Below.refl _ _ | exact (show Below W0.heap.size W0 _ from And.left (by assumption)) | exact below_tr (show Below W0.heap.size W0 _ from And.left (by assumption)) (by assumption) | refine Below.drew ?_ | refine below_alloc ?_ _)))
        (first | (go_at_call 20; refine (NB.out _).mono ?_; rintro e w' ⟨rfl, rfl⟩) | (go_at_call 21; refine (RB.out _).mono ?_; rintro e w' ⟨rfl, rfl⟩))
      all_goals have hB := (‹InW W0 _ ∧ _›).1
      all_goals go_wp2_with fail
      all_goals (
        refine (LV.out _).mono ?_
        rintro e w1 ⟨rfl, hb⟩
        go_wp2_with fail
        go_ret
        exact ⟨rfl, below_tr HB0.out (below_tr (show Below W0.heap.size W0 _ from hB) hb)⟩)
    · unfold badS at hbad
      obtain ⟨n, rfl⟩ : ∃ m : Nat, n = m := ⟨n.toNat, by omega⟩
      obtain ⟨k, rfl⟩ : ∃ m : Nat, k = m := ⟨k.toNat, by omega⟩
      obtain ⟨c, rfl⟩ : ∃ m : Nat, c = m := ⟨c.toNat, by omega⟩
      have N1 := Lib.hid (fun W => New_any n k c W (by omega) (by omega) (by omega) (by omega) (by omega) (by omega))
      have N2 := Lib.hid (fun W => rNew_any n k c W (by omega) (by omega) (by omega) (by omega) (by omega) (by omega))
      have hlen := ring_len n k (by omega) (by omega)
      have hpos := ring_pos n k (by omega) (by omega)
      have O1 := Lib.hid (fun g gl cl W (h : RingAt eP W g gl 0 cl (ringL tokT n k) (c : Int)) => Of_any g gl 0 cl (ringL tokT n k) (c : Int) s W h (by omega) hpos hlen (ringL_sorted _ _ _) hsz)
      have O2 := Lib.hid (fun g gl cl W (h : RingAt eQ W g gl 0 cl (ringL tokT n k) (c : Int)) => rOf_any g gl 0 cl (ringL tokT n k) (c : Int) s W h hlen (ringL_sorted _ _ _) hsz)
      generalize ringL tokT n k = L at *
      go_region_held3 (fun w' => InW W0 w' ∧ w'.cell? ⟨w.heap.size, 0, none⟩ = some (.int .i64 (n : Int)) ∧ w'.cell? ⟨w.heap.size, 1, none⟩ = some (.int .i64 (k : Int)) ∧ w'.cell? ⟨w.heap.size, 2, none⟩ = some (.int .i64 (c : Int)))
        (first | assumption | exact HS'.out _ (by repeat (first | exact Below.refl _ _ | exact (show Below W0.heap.size W0 _ from And.left (by assumption)) | exact below_tr (show Below W0.heap.size W0 _ from And.left (by assumption)) (by assumption) | refine Below.drew ?_ | refine below_alloc ?_ _)))
        (first | (go_at_call 20; refine (N1.out _).mono ?_; rintro e w' ⟨g1, l1, k1, rfl, hr1, hb1⟩) | (go_at_call 21; refine (N2.out _).mono ?_; rintro e w' ⟨g2, l2, k2, rfl, hr2, hb2⟩))
      all_goals (
        have hB := (show Below W0.heap.size W0 w' from (‹InW W0 w' ∧ _›).1)
        have t2 : Two15 w' g1 l1 k1 g2 l2 k2 L (c : Int) := by first | exact ⟨hr1.keep hb2, hr2⟩ | exact ⟨hr1, hr2.keep hb1⟩
        have T2 := Lib.hid t2; have B2 := Lib.hid (HB0.out.trans (hB.mono HB0.out.size))
        clear hB t2 hr1 hr2 hb1 hb2 HS' x0 x1 x2
        go_wp2_with fail
        refine (O1.out _ _ _ _ T2.out.a).mono ?_
        rintro e w3 ⟨rfl, hb⟩
        have T3 := Lib.hid (T2.out.keep hb); have B3 := Lib.hid (below_tr B2.out hb)
        clear hb
        go_wp2_with fail
        refine (O2.out _ _ _ _ T3.out.b).mono ?_
        rintro e w4 ⟨rfl, hb⟩
        have T4 := Lib.hid (T3.out.keep hb); have B4 := Lib.hid (below_tr B3.out hb)
        clear hb
        go_wp2_with fail
        refine (LV.out _).mono ?_
        rintro e w5 ⟨rfl, hb⟩
        go_wp2_with fail
        go_ret
        exact ⟨rfl, below_tr B4.out hb⟩)
end Go.Proofs.YtmjeifbadjdnfaaDoor
