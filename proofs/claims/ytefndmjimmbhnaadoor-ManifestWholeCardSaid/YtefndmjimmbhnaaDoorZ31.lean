/- Contracts of the reference's Good, Bytes, File, Begin of layer 13, and of the law's plain and same. Conditions: the numbers are of int64. -/
import Derived.Test.YtefndmjimmbhnaaDoorZ30
section
set_option linter.unusedVariables false
set_option linter.unusedSimpArgs false
set_option maxRecDepth 20000
namespace Go.Proofs.YtefndmjimmbhnaaDoor
open Go.RowKit

theorem contains_take (l : List Int) (x : Int) (k : Nat) (h : k < l.length) : (l.take (k + 1)).contains x = ((l.take k).contains x || (x == l[k])) := by
  rw [take_snoc _ _ _ (List.getElem?_eq_getElem h)]
  simp only [List.contains_eq_any_beq, List.any_append, List.any_cons, List.any_nil, Bool.or_false]

end Go.Proofs.YtefndmjimmbhnaaDoor
end
