/- Contract of the reference's Same: two slices of bytes hold the same. No condition. -/
import Derived.Test.YtkmcjainbhmbdaaDoorMem
set_option linter.unusedVariables false
set_option linter.unusedSimpArgs false
set_option maxRecDepth 20000
namespace Go.Proofs.YtkmcjainbhmbdaaDoor
open Go.RowKit

theorem Same_any (x y : Value) (a b : List UInt8) (w : World) (hx : ReadsB w x a) (hy : ReadsB w y b) :
    Calls Tryd.prog 22 #[x, y] w fun e w' => e = .returned (.bool (a == b)) ∧ w = w' := by
  have h1 := hx.out
  have h2 := hy.out
  clear hx hy
  go_enter Tryd.func22, Tryd.ntmps22
  go_wp2
  go_ret
  exact ⟨rfl, rfl⟩

theorem SameT (x y : Value) (a : List UInt8) (w : World) (hx : ReadsB w x a) (hy : ReadsB w y a) :
    Calls Tryd.prog 22 #[x, y] w fun e w' => e = .returned (.bool true) ∧ Below w.heap.size w w' :=
  (Same_any x y a a w hx hy).mono fun e w' h => by obtain ⟨h1, rfl⟩ := h; rw [beq_self_eq_true] at h1; exact ⟨h1, Below.refl _ _⟩

end Go.Proofs.YtkmcjainbhmbdaaDoor
