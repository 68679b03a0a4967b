/- Contracts of the law's plain and same, of the reference's Ints, File, Begin. Conditions: the numbers are of int64. -/
import Derived.Test.YtefndmjimmbhnaaDoorZ31
import Derived.Deep.QuietTactic
import Derived.BigQuiet
section
set_option linter.unusedVariables false
set_option linter.unusedSimpArgs false
set_option maxRecDepth 20000
namespace Go.Proofs.YtefndmjimmbhnaaDoor
open Go.RowKit

set_option maxHeartbeats 1000000 in
theorem Ints_any (v1 v2 : Value) (l1 l2 : List Int) (w : World) (h1 : SlI w v1 l1) (h2 : SlI w v2 l2) (hl : l1.length ≤ 140737488351232) (hl2 : l2.length ≤ 140737488351232) :
    Calls Tryd.prog 32 #[v1, v2] w fun e w' => e = .returned (.bool (l1 == l2)) ∧ Below w.heap.size w w' := by
  obtain ⟨a1, c1, rfl, hc1, hx1⟩ := h1.ex
  obtain ⟨a2, c2, rfl, hc2, hx2⟩ := h2.ex
  have HX1 := Lib.hid hx1; have HX2 := Lib.hid hx2; clear hx1 hx2 h1 h2
  by_cases hn : l1.length = l2.length
  · have q : ((l1.length : Int) != (l2.length : Int)) = false := by rw [hn]; simp
    have HN := Lib.hid hn; clear hn
    go_enter Tryd.func32, Tryd.ntmps32
    go_wp2_with fail
    go_loopw [13, 5] (fun i y wr => ∃ k : Nat, k ≤ l1.length ∧ i = .int .i64 k ∧ Below w.heap.size w wr ∧ l1.take k = l2.take k) (fun i _ _ => l1.length - (intOf i).toNat)
    case atStart => exact ⟨0, by omega, rfl, Below.refl _ _, rfl⟩
    case round =>
      obtain ⟨k, hk, rfl, hB, he⟩ := hrel
      have HE := Lib.hid he; clear he
      by_cases hlt : k < l1.length
      · have hlt2 : k < l2.length := by have := HN.out; omega
        obtain ⟨g1, o1, rfl, hcell1⟩ := HX1.out (by omega)
        obtain ⟨g2, o2, rfl, hcell2⟩ := HX2.out (by omega)
        have k1 := cell_keep hB (hcell1 k hlt)
        have k2 := cell_keep hB (hcell2 k hlt2)
        have ht : l1.take (k + 1) = l1.take k ++ [l1[k]] := take_snoc _ _ _ (List.getElem?_eq_getElem hlt)
        have ht2 : l2.take (k + 1) = l2.take k ++ [l2[k]] := take_snoc _ _ _ (List.getElem?_eq_getElem hlt2)
        have HBB := Lib.hid hB
        have i1 : (k : Int) < (l1.length : Int) := by omega
        have i2 : (k : Int) < (l2.length : Int) := by omega
        by_cases hq : l1[k] = l2[k]
        · have HT := Lib.hid (show l1.take (k + 1) = l2.take (k + 1) by rw [ht, ht2, HE.out, hq])
          clear ht ht2 hcell1 hcell2 hB
          rw [← hq] at k2
          clear hq
          have hbb := bne_self_eq_false (l1[k])
          go_wp2_with fail
          go_quiet (fail)
          go_wp2_with fail
          go_roundw
          case rel => exact ⟨k + 1, by omega, by go_num, below_drewN HBB.out _, HT.out⟩
          case measure => (first | (simp [intOf]; done) | (simp [intOf]; omega))
        · have HT := Lib.hid (show (l1 == l2) = false by
            rw [beq_eq_false_iff_ne]; intro hh; subst hh; exact hq rfl)
          have hbb : (l1[k] != l2[k]) = true := by rw [bne_iff_ne]; exact hq
          clear ht ht2 hcell1 hcell2 hB hq
          go_wp2_with fail
          go_quiet (fail)
          go_wp2_with fail
          go_ret
          exact ⟨ret_b HT.out.symm, below_drewN HBB.out _⟩
      · have e1 : l1.take k = l1 := List.take_of_length_le (by omega)
        have e2 : l2.take k = l2 := List.take_of_length_le (by have := HN.out; omega)
        have HT := Lib.hid (show (l1 == l2) = true by rw [beq_iff_eq, ← e1, HE.out, e2])
        clear e1 e2
        go_wp2_with fail
        go_ret
        exact ⟨ret_b HT.out.symm, hB⟩
  · have q : ((l1.length : Int) != (l2.length : Int)) = true := by rw [bne_iff_ne]; omega
    have HT := Lib.hid (show (l1 == l2) = false by rw [beq_eq_false_iff_ne]; intro hh; exact hn (by rw [hh]))
    clear hn
    go_enter Tryd.func32, Tryd.ntmps32
    go_wp2_with fail
    go_ret
    exact ⟨ret_b HT.out.symm, Below.refl _ _⟩

theorem plain_any (a : Option Addr) (n c : Nat) (nx fr : Int) (w : World) :
    Calls Tryd.prog 6 #[.agg #[.slice a n c, .int .i64 nx, .int .i64 fr]] w fun e w' => e = .returned (.agg #[.slice a n c, .int .i64 nx, .int .i64 fr]) ∧ Below w.heap.size w w' := by
  go_enter Tryd.func6, Tryd.ntmps6
  go_wp2_with fail
  refine bodyPost_ret (v := .agg #[.slice a n c, .int .i64 nx, .int .i64 fr]) (by simp [results, Tryd.results6, go_sem]) rfl ⟨rfl, ?_⟩
  (repeat (first | exact Below.refl _ _ | assumption | refine below_alloc ?_ _ | refine Below.drew ?_ | refine below_drewN ?_ _ | refine below_tr ?_ (by assumption)))

set_option maxHeartbeats 1000000 in
theorem same_any (v1 v2 : Value) (l1 l2 : List Int) (n1 f1 n2 f2 : Int) (w : World) (h1 : SlI w v1 l1) (h2 : SlI w v2 l2) (hl : l1.length ≤ 140737488351232) (hl2 : l2.length ≤ 140737488351232) :
    Calls Tryd.prog 15 #[.agg #[v1, .int .i64 n1, .int .i64 f1], .agg #[v2, .int .i64 n2, .int .i64 f2]] w fun e w' => e = .returned (.bool ((n1 == n2 && f1 == f2) && l1 == l2)) ∧ Below w.heap.size w w' := by
  have I := Lib.hid (fun W (h : Below w.heap.size w W) => Ints_any v1 v2 l1 l2 W (h1.below h) (h2.below h) hl hl2)
  obtain ⟨a1, c1, rfl, _, _⟩ := h1.ex
  obtain ⟨a2, c2, rfl, _, _⟩ := h2.ex
  clear h1 h2
  generalize (l1 == l2) = bl at *
  have hb0 := below_alloc (Below.refl _ w) (.cells #[.slice a1 l1.length c1, .int .i64 n1, .int .i64 f1] 24)
  have hb1 := Lib.hid (below_alloc hb0 (.cells #[.slice a2 l2.length c2, .int .i64 n2, .int .i64 f2] 30))
  clear hb0
  rcases q1 : (n1 == n2) with _ | _
  · go_enter Tryd.func15, Tryd.ntmps15
    go_wp2_with fail
    go_ret
    exact ⟨rfl, hb1.out⟩
  · rcases q2 : (f1 == f2) with _ | _
    · go_enter Tryd.func15, Tryd.ntmps15
      go_wp2_with fail
      go_ret
      exact ⟨rfl, hb1.out⟩
    · go_enter Tryd.func15, Tryd.ntmps15
      go_wp2_with fail
      refine (I.out _ hb1.out).mono ?_
      rintro e w3 ⟨rfl, hb3⟩
      go_wp2_with fail
      go_ret
      exact ⟨rfl, below_tr hb1.out hb3⟩
/-- .. of the very same ones -/
theorem same_yes (v1 v2 : Value) (l1 : List Int) (n1 f1 : Int) (w : World) (h1 : SlI w v1 l1) (h2 : SlI w v2 l1) (hl : l1.length ≤ 140737488351232) :
    Calls Tryd.prog 15 #[.agg #[v1, .int .i64 n1, .int .i64 f1], .agg #[v2, .int .i64 n1, .int .i64 f1]] w fun e w' => e = .returned (.bool true) ∧ Below w.heap.size w w' := by
  have h := same_any v1 v2 l1 l1 n1 f1 n1 f1 w h1 h2 hl hl
  have e : ((n1 == n1 && f1 == f1) && l1 == l1) = true := by simp
  rw [e] at h
  exact h
end Go.Proofs.YtefndmjimmbhnaaDoor
end
