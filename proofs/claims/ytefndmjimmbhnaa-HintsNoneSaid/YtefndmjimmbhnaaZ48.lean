/- '==' of two keys, as one Bool. No condition. -/
import Derived.Test.YtefndmjimmbhnaaZ00
import Derived.Test.YtefndmjimmbhnaaProg
import Derived.Laws.StructEq
section
set_option linter.unusedVariables false
set_option linter.unusedSimpArgs false
namespace Go.Proofs.Ytefndmjimmbhnaa
open Go.RowKit

section
variable {P : Program} {d : Nat} {xs ys : Array Value} {f : Field} {fs : List Field} {a b : Value} {r s : Bool} {w : World}
/-- one field more -/
theorem eqF (hn : (f.name == "_") = false) (ha : (part f.type xs f.offset).run P w = .ok a w) (hb : (part f.type ys f.offset).run P w = .ok b w) (he : (Op.equalIn d f.type a b).run P w = .ok r w)
    (hr : (Op.eqFields d xs ys fs).run P w = .ok s w) : (Op.eqFields d xs ys (f :: fs)).run P w = .ok (r && s) w := by
  have h1 : f.name ≠ "_" := by simpa using hn
  rw [Op.eqFields, if_pos h1]
  simp only [Sem.run_bind, ha, hb, he, Result.andThen_ok]
  cases r <;> simp [hr]
theorem eqN : (Op.eqFields d xs ys []).run P w = .ok true w := by simp [Op.eqFields]
theorem eqS {t : TypeId} {gs : Array Field} (hu : P.underlying t = some (.struct gs)) (hp : P.stoodInHeld t = false) (h : (Op.eqFields d xs ys gs.toList).run P w = .ok r w) :
    (Op.equalIn (d + 1) t (.agg xs) (.agg ys)).run P w = .ok r w := by
  have e : P.fieldsOf t = gs := by unfold Program.fieldsOf; rw [hu]
  rw [run_equalIn_struct (P := P) w d t xs ys (by rw [e]; exact hu) hp, e]
  exact h
end

/-- '==' of two keys -/
def keyEq (at_ ap : ByteArray) (ar : Int) (ac bt bp : ByteArray) (br : Int) (bc : ByteArray) : Bool := at_.toList == bt.toList && (ap.toList == bp.toList && (ar == br && (ac.toList == bc.toList && true)))
theorem keyIn (d : Nat) (w : World) (at_ ap ac bt bp bc : ByteArray) (ar br : Int) :
    (Op.equalIn (d + 2) 56 (.agg #[.string at_, .string ap, .int .i64 ar, .string ac]) (.agg #[.string bt, .string bp, .int .i64 br, .string bc])).run Try.prog w = .ok (keyEq at_ ap ar ac bt bp br bc) w := by
  refine eqS Try.underlying56 (by kernel_rfl) ?_
  refine eqF (by rfl) (by go_simp; rfl) (by go_simp; rfl) (by go_simp) ?_
  refine eqF (by rfl) (by go_simp; rfl) (by go_simp; rfl) (by go_simp) ?_
  refine eqF (by rfl) (by go_simp; rfl) (by go_simp; rfl) (by go_simp) ?_
  refine eqF (by rfl) (by go_simp; rfl) (by go_simp; rfl) (by go_simp) ?_
  exact eqN
theorem key_eql (w : World) (at_ ap ac bt bp bc : ByteArray) (ar br : Int) :
    (binOp .eql 56 (.agg #[.string at_, .string ap, .int .i64 ar, .string ac]) (.agg #[.string bt, .string bp, .int .i64 br, .string bc])).run Try.prog w = .ok (.bool (keyEq at_ ap ar ac bt bp br bc)) w := by
  rw [run_eql_struct, keyIn 9998]; rfl
theorem key_neq (w : World) (at_ ap ac bt bp bc : ByteArray) (ar br : Int) :
    (binOp .neq 56 (.agg #[.string at_, .string ap, .int .i64 ar, .string ac]) (.agg #[.string bt, .string bp, .int .i64 br, .string bc])).run Try.prog w = .ok (.bool (!keyEq at_ ap ar ac bt bp br bc)) w := by
  rw [run_neq_struct, keyIn 9998]; rfl
end Go.Proofs.Ytefndmjimmbhnaa
end
