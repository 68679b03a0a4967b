/- Contracts of the reference's Ints, of ring's lives; the law RingNone. Condition: the law's bounds. -/
import Derived.Test.YtmjeifbadjdnfaaDoorGi
set_option linter.unusedVariables false
set_option linter.unusedSimpArgs false
set_option maxRecDepth 20000
namespace Go.Proofs.YtmjeifbadjdnfaaDoor
open Go.RowKit Go.Sort

set_option maxHeartbeats 1000000 in
theorem Ints_any (v1 v2 : Value) (l1 l2 : List Int) (w : World) (h1 : SlX eI w.heap.size w v1 l1) (h2 : SlX eI w.heap.size w v2 l2) (hl : l1.length ≤ 1000000) (hl2 : l2.length ≤ 1000000) :
    Calls Tryd.prog 28 #[v1, v2] w fun e w' => e = .returned (.bool (decide (l1 = l2))) ∧ Below w.heap.size w w' := by
  have H1 := Lib.hid h1; have H2 := Lib.hid h2
  obtain ⟨a1, c1, rfl, _, hx1⟩ := h1.ex
  obtain ⟨a2, c2, rfl, _, hx2⟩ := h2.ex
  have X1 := Lib.hid hx1; have X2 := Lib.hid hx2
  clear h1 h2 hx1 hx2
  by_cases hne : l1.length = l2.length
  · have hq : ((l1.length : Int) == (l2.length : Int)) = true := by simp [hne]
    have hd : decide (l1 = l2) = decide (l1.drop 0 = l2.drop 0) := by rw [List.drop_zero, List.drop_zero]
    generalize decide (l1 = l2) = b at *
    have HD := Lib.hid hd; clear hd
    have HNE := Lib.hid hne
    go_enter Tryd.func28, Tryd.ntmps28
    go_wp2_with fail
    go_loopw [5, 13] (fun _ i wr => ∃ k : Nat, k ≤ l1.length ∧ i = .int .i64 (k : Int) ∧ b = decide (l1.drop k = l2.drop k) ∧ Below w.heap.size w wr) (fun _ i _ => l1.length - (intOf i).toNat)
    case atStart => exact ⟨0, by omega, rfl, HD.out, Below.refl _ _⟩
    case round =>
      obtain ⟨k, hk, rfl, he, hB⟩ := hrel
      by_cases hlt : k < l1.length
      · have hlt2 : k < l2.length := by have := HNE.out; omega
        rw [List.drop_eq_getElem_cons hlt, List.drop_eq_getElem_cons hlt2] at he
        have HE := Lib.hid he; clear he HD
        obtain ⟨g1, o1, rfl, hg1, _⟩ := X1.out (by omega)
        obtain ⟨g2, o2, rfl, hg2, _⟩ := X2.out (by omega)
        have c1' := eI_cell (H1.out.below hB) k hlt
        have c2' := eI_cell (H2.out.below hB) k hlt2
        have hz : (k : Int) < (l1.length : Int) := by omega
        have hz2 : (k : Int) < (l2.length : Int) := by omega
        have HB := Lib.hid hB; clear hB
        generalize l1[k] = x at *
        generalize l2[k] = y at *
        by_cases hxy : x = y
        · have q : (x != y) = false := by simpa using hxy
          have q' : (x == y) = true := by simpa using hxy
          have HQ := Lib.hid hxy; clear hxy
          go_wp2_with fail
          go_quiet (fail)
          go_wp2_with fail
          go_roundw
          case rel => exact ⟨k + 1, by omega, by first | rfl | go_num, by rw [HE.out, decide_eq_decide, List.cons.injEq]; simp [HQ.out], by exact Below.trans HB.out (by repeat (first | exact Below.refl _ _ | refine below_drewN ?_ _ | refine Below.drew ?_))⟩
          case measure => simp [intOf]; omega
        · have q : (x != y) = true := by simpa using hxy
          have q' : (x == y) = false := by simpa using hxy
          have HQ := Lib.hid hxy; clear hxy
          go_wp2_with fail
          go_quiet (fail)
          go_wp2_with fail
          go_ret
          exact ⟨by rw [HE.out]; simp [HQ.out], by exact Below.trans HB.out (by repeat (first | exact Below.refl _ _ | refine below_drewN ?_ _ | refine Below.drew ?_))⟩
      · have hz : ¬ (k : Int) < (l1.length : Int) := by omega
        have he' : b = true := by rw [he, List.drop_of_length_le (by omega), List.drop_of_length_le (by have := HNE.out; omega)]; simp
        have HE := Lib.hid he'; clear he he' HD
        go_wp2_with fail
        go_ret
        exact ⟨by rw [HE.out]; rfl, hB⟩
  · have hq : ((l1.length : Int) == (l2.length : Int)) = false := by rw [beq_eq_false_iff_ne]; omega
    have hq2 : ((l1.length : Int) != (l2.length : Int)) = true := by simp [bne, hq]
    have hd : decide (l1 = l2) = false := decide_eq_false (fun e => hne (by rw [e]))
    rw [hd]
    clear hd
    go_enter Tryd.func28, Tryd.ntmps28
    go_wp2_with fail
    go_ret
    exact ⟨rfl, Below.refl _ _⟩
end Go.Proofs.YtmjeifbadjdnfaaDoor
