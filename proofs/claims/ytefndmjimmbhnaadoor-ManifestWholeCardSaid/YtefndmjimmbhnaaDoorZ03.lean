/- Contract of strconv.Itoa. Condition: a number of int64. -/
import Derived.Test.YtefndmjimmbhnaaDoorZ02
import Derived.Test.YtefndmjimmbhnaaDoorZ00
import Derived.Lib.ItoaLen
import Derived.Lib.AppendIntMem
section
set_option linter.unusedVariables false
set_option linter.unusedSimpArgs false
namespace Go.Proofs.YtefndmjimmbhnaaDoor
open Go.RowKit Go.Lib

theorem itoa_any (n : Int) (h0 : -9223372036854775808 ≤ n) (h1 : n ≤ 9223372036854775807) (w : World) (he : Env w) :
    Calls Tryd.prog 35 #[.int .i64 n] w fun e w' => e = .returned (sv (Lib.itoa n)) ∧ Below w.heap.size w w' :=
  (Tryd.strconv_Itoa n h0 h1 w he.tab).mono fun e w' ⟨h, k, os, hw⟩ => ⟨h, by subst hw; exact below_grow _ _ (Nat.le_refl _) k os⟩

end Go.Proofs.YtefndmjimmbhnaaDoor
end
