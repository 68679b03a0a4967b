/- Contracts of manifest's between and File, of the disk's Good and New, and of what is asked of an empty disk. Conditions: as told at each. -/
import Derived.Test.YtefndmjimmbhnaaDoorZ02
import Derived.Test.YtefndmjimmbhnaaDoorZ00
import Derived.Test.YtefndmjimmbhnaaDoorZ03
import Derived.Test.YtefndmjimmbhnaaDoorZ04
import Derived.Lib.ConvBytes
import Derived.Lib.SmallJoins
section
set_option linter.unusedVariables false
set_option linter.unusedSimpArgs false
set_option maxRecDepth 20000
namespace Go.Proofs.YtefndmjimmbhnaaDoor
open Go.RowKit

theorem between_any (n lo hi : Int) (w : World) : Calls Tryd.prog 28 #[.int .i64 n, .int .i64 lo, .int .i64 hi] w fun e w' => e = .returned (.bool (decide (lo ≤ n) && decide (n ≤ hi))) ∧ w = w' := by
  go_enter Tryd.func28, Tryd.ntmps28
  by_cases h : lo ≤ n
  · go_wp2
    go_ret
    exact ⟨ret_b (by simp [h]), rfl⟩
  · have h' : decide (lo ≤ n) = false := decide_eq_false h
    go_wp2
    go_ret
    exact ⟨ret_b (by simp), rfl⟩

/-- a table's file -/
def fileL (n : Int) : List UInt8 := if 1 ≤ n ∧ n ≤ 999999999 then [116, 97, 98, 45] ++ Lib.itoa n else []

theorem itoa_len (n : Int) (h0 : 1 ≤ n) (h1 : n ≤ 999999999) : (Lib.itoa n).length ≤ 1000000 := by
  have := Lib.itoa_length_le n (by omega) (by omega); omega

theorem File_any (n : Int) (w : World) (he : Env w) : Calls Tryd.prog 17 #[.int .i64 n] w fun e w' => e = .returned (sv (fileL n)) ∧ Below w.heap.size w w' := by
  have H1 := fun W => between_any n 1 999999999 W
  by_cases h : 1 ≤ n ∧ n ≤ 999999999
  · have H2 := Lib.hid (fun W hE => itoa_any n (by omega) (by omega) W hE)
    have hl := itoa_len n h.1 h.2
    have e1 : (decide (1 ≤ n) && decide (n ≤ 999999999)) = true := by simp [h]
    rw [e1] at H1
    have e2 : fileL n = [116, 97, 98, 45] ++ Lib.itoa n := if_pos h
    rw [e2]
    generalize Lib.itoa n = z at *
    have hs : ¬ 9223372036854775807 < 4 + z.length := by omega
    have E2 := Lib.hid e2; clear e2 e1
    go_enter Tryd.func17, Tryd.ntmps17
    go_wp2_with fail
    refine (H1 _).mono ?_
    rintro e w1 ⟨rfl, rfl⟩
    go_wp2_with fail
    refine (H2.out _ he).mono ?_
    rintro e w1 ⟨rfl, hb⟩
    go_wp2_with fail
    go_ret
    exact ⟨ret_s (by apply ByteArray.ext; simp), hb⟩
  · have e1 : (decide (1 ≤ n) && decide (n ≤ 999999999)) = false := by
      rw [Bool.eq_false_iff]; intro hh; apply h; simpa using hh
    rw [e1] at H1
    have e2 : fileL n = [] := if_neg h
    rw [e2]
    go_enter Tryd.func17, Tryd.ntmps17
    go_wp2_with fail
    refine (H1 _).mono ?_
    rintro e w1 ⟨rfl, rfl⟩
    go_wp2_with fail
    go_ret
    exact ⟨rfl, Below.refl _ _⟩

end Go.Proofs.YtefndmjimmbhnaaDoor
end
