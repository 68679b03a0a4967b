/- The law ManifestFiles, walked: it returns true. Condition: the numbers are of int64. -/
import Derived.Test.YtkmcjainbhmbdaaDoorMe
import Derived.Test.YtkmcjainbhmbdaaDoorPn
set_option linter.unusedVariables false
set_option linter.unusedSimpArgs false
set_option maxRecDepth 20000
namespace Go.Proofs.YtkmcjainbhmbdaaDoor
open Go.RowKit

theorem file_good (a : Int) (h : 1 ≤ a ∧ a ≤ 999999999) : diskNameB ⟨(fileL a).toArray⟩ = true := by
  have e : fileL a = [116, 97, 98, 45] ++ Lib.itoa a := if_pos h
  have hl := Lib.itoa_length_le a (by omega) (by omega)
  have hd : ∀ b ∈ Lib.itoa a, 48 ≤ b.toNat ∧ b.toNat ≤ 57 := by
    intro b hb
    have e2 : Lib.itoa a = Lib.decDigits a.toNat := by
      have := Lib.itoa_nonneg a.toNat
      rwa [Int.toNat_of_nonneg (by omega)] at this
    rw [e2] at hb
    exact digits_range _ _ hb
  rw [e]
  generalize Lib.itoa a = z at *
  have hs : (⟨([116, 97, 98, 45] ++ z).toArray⟩ : ByteArray).size = 4 + z.length := by rw [size_mk]; simp; omega
  unfold diskNameB
  rw [hs, decide_eq_true (by omega : 4 + z.length ≠ 0), decide_eq_true (by omega : 4 + z.length ≤ 40)]
  simp only [Bool.true_and, List.all_eq_true, List.mem_range]
  intro k hk
  have hb : byteI ⟨([116, 97, 98, 45] ++ z).toArray⟩ k = ((([116, 97, 98, 45] ++ z).getD k 0).toNat : Int) := rfl
  unfold placeB
  rw [hb]
  rcases k with _ | _ | _ | _ | k
  · rfl
  · rfl
  · rfl
  · rfl
  · have hz : z[k]? = some (z[k]'(by omega)) := List.getElem?_eq_getElem (by omega)
    have hg : ([116, 97, 98, 45] ++ z).getD (k + 1 + 1 + 1 + 1) 0 = z[k]'(by omega) := by
      rw [List.getD_eq_getElem?_getD]
      show (z[k]?).getD 0 = _
      rw [hz]; rfl
    rw [hg]
    have := hd (z[k]'(by omega)) (List.getElem_mem _)
    unfold otherI
    have h1 : decide ((48 : Int) ≤ ((z[k]'(by omega)).toNat : Int)) = true := by rw [decide_eq_true_eq]; omega
    have h2 : decide (((z[k]'(by omega)).toNat : Int) ≤ 57) = true := by rw [decide_eq_true_eq]; omega
    rw [h1, h2]; simp

set_option maxHeartbeats 2000000 in
theorem ManifestFiles_walk (a b : Int) (w : World) (he : Env w) (a0 : -9223372036854775808 ≤ a) (a1 : a ≤ 9223372036854775807) (b0 : -9223372036854775808 ≤ b) (b1 : b ≤ 9223372036854775807) :
    Calls Tryd.prog 5 #[.int .i64 a, .int .i64 b] w fun e w' => e = .returned (.bool true) ∧ Below w.heap.size w w' := by
  have HA := Lib.hid (fun W hE => File_any a W hE)
  have HB := Lib.hid (fun W hE => File_any b W hE)
  have HL := Lib.hid (fun W hE => lives13 W hE)
  have HE := Lib.hid he; clear he
  by_cases h : 1 ≤ a ∧ a ≤ 999999999
  · have G := Lib.hid (fun W => diskGood_any ⟨(fileL a).toArray⟩ (by
      have e : fileL a = [116, 97, 98, 45] ++ Lib.itoa a := if_pos h
      have hl := Lib.itoa_length_le a (by omega) (by omega)
      rw [size_mk, e]; simp; omega) W)
    rw [file_good a h] at G
    have e : fileL a = [116, 97, 98, 45] ++ Lib.itoa a := if_pos h
    have f1 : (fileL a).isEmpty = false := by rw [e]; rfl
    have f2 : (fileL a == [109, 97, 110, 105, 102, 101, 115, 116]) = false := by rw [e, beq_eq_false_iff_ne]; intro hh; have := congrArg List.head? hh; simp at this
    have f3 : (fileL a == [109, 97, 110, 105, 102, 101, 115, 116, 46, 110, 101, 119]) = false := by rw [e, beq_eq_false_iff_ne]; intro hh; have := congrArg List.head? hh; simp at this
    have f4 : (fileL a == fileL b) = (a == b) := by
      rw [Bool.eq_iff_iff, beq_iff_eq, beq_iff_eq]
      constructor
      · intro hh
        by_cases hb : 1 ≤ b ∧ b ≤ 999999999
        · have e2 : fileL b = [116, 97, 98, 45] ++ Lib.itoa b := if_pos hb
          rw [e, e2] at hh
          exact itoa_inj _ _ (List.append_cancel_left hh)
        · have e2 : fileL b = [] := if_neg hb
          rw [e, e2] at hh
          simp at hh
      · rintro rfl; rfl
    have f5 := beq_self_eq_true (a == b)
    clear e
    have g1 : ¬ a < 1 := by omega
    have g2 : ¬ 999999999 < a := by omega
    generalize fileL a = fa at *
    generalize fileL b = fb at *
    obtain ⟨q1, q2⟩ := h
    go_enter Tryd.func5, Tryd.ntmps5
    go_wp2_with fail
    refine (HA.out _ HE.out).mono ?_
    rintro e w1 ⟨rfl, hb1⟩
    have HE1 := Lib.hid (HE.out.below hb1)
    go_wp2_with fail
    refine (HB.out _ HE1.out).mono ?_
    rintro e w2 ⟨rfl, hb2⟩
    have HE2 := Lib.hid (HE1.out.below hb2)
    go_wp2_with fail
    refine (G.out _).mono ?_
    rintro e w3 ⟨rfl, hb3⟩
    have HE3 := Lib.hid (HE2.out.below hb3)
    go_wp2_with fail
    refine (HL.out _ HE3.out).mono ?_
    rintro e w4 ⟨rfl, hb4⟩
    go_wp2_with fail
    go_ret
    exact ⟨rfl, below_tr hb1 (below_tr hb2 (below_tr hb3 hb4))⟩
  · have e : fileL a = [] := if_neg h
    rw [e] at HA
    have hh : (decide (a < 1) || decide (999999999 < a)) = true := by
      rw [Bool.or_eq_true, decide_eq_true_eq, decide_eq_true_eq]; omega
    clear e
    generalize fileL b = fb at *
    go_enter Tryd.func5, Tryd.ntmps5
    go_wp2_with fail
    refine (HA.out _ HE.out).mono ?_
    rintro e w1 ⟨rfl, hb1⟩
    have HE1 := Lib.hid (HE.out.below hb1)
    go_wp2_with fail
    refine (HB.out _ HE1.out).mono ?_
    rintro e w2 ⟨rfl, hb2⟩
    have HE2 := Lib.hid (HE1.out.below hb2)
    rcases (show a < 1 ∨ (1 ≤ a ∧ 999999999 < a) by omega) with q | ⟨q, q'⟩
    · go_wp2_with fail
      refine (HL.out _ HE2.out).mono ?_
      rintro e w3 ⟨rfl, hb3⟩
      go_wp2_with fail
      go_ret
      exact ⟨rfl, below_tr hb1 (below_tr hb2 hb3)⟩
    · go_wp2_with fail
      refine (HL.out _ HE2.out).mono ?_
      rintro e w3 ⟨rfl, hb3⟩
      go_wp2_with fail
      go_ret
      exact ⟨rfl, below_tr hb1 (below_tr hb2 hb3)⟩
end Go.Proofs.YtkmcjainbhmbdaaDoor
