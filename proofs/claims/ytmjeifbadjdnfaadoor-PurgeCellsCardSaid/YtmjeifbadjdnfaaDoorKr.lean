/- Contract of the reference's Cmp of keys. No condition. -/
import Derived.Test.YtmjeifbadjdnfaaDoorKa
set_option linter.unusedVariables false
set_option linter.unusedSimpArgs false
set_option maxRecDepth 50000
namespace Go.Proofs.YtmjeifbadjdnfaaDoor
open Go.RowKit Go.Lib

theorem texts_any (a b : ByteArray) (w : World) : Calls Tryd.prog 117 #[.string a, .string b] w fun e w' => e = .returned (.int .i64 (cmpS a b)) ∧ w = w' := by
  go_enter Tryd.func117, Tryd.ntmps117
  go_wp2
  all_goals go_ret
  all_goals exact ⟨ret_i (by unfold cmpS; simp [*]), rfl⟩

def cmpR (at_ ap ac bt bp bc : ByteArray) (ar br : Int) : Int :=
  if (!at_.toList == bt.toList) = true then cmpS at_ bt else if (!ap.toList == bp.toList) = true then cmpS ap bp else if ar < br then -1 else if br < ar then 1 else cmpS ac bc

theorem rCmp_any (at_ ap ac bt bp bc : ByteArray) (ar br : Int) (w : World) :
    Calls Tryd.prog 87 #[.agg #[.string at_, .string ap, .int .i64 ar, .string ac], .agg #[.string bt, .string bp, .int .i64 br, .string bc]] w
      fun e w' => e = .returned (.int .i64 (cmpR at_ ap ac bt bp bc ar br)) ∧ Below w.heap.size w w' := by
  go_enter Tryd.func87, Tryd.ntmps87
  go_wp2_with (first | (go_at_call_of 117 at_; refine (texts_any _ _ _).mono ?_; rintro e w' ⟨rfl, rfl⟩) | (go_at_call_of 117 ap; refine (texts_any _ _ _).mono ?_; rintro e w' ⟨rfl, rfl⟩) | (go_at_call_of 117 ac; refine (texts_any _ _ _).mono ?_; rintro e w' ⟨rfl, rfl⟩))
  all_goals go_ret
  all_goals refine ⟨ret_i ?_, by (repeat (first | exact Below.refl _ _ | assumption | refine below_alloc ?_ _ | refine Below.drew ?_ | refine below_drewN ?_ _ | refine below_tr ?_ (by assumption)))⟩
  all_goals unfold cmpR
  all_goals grind
end Go.Proofs.YtmjeifbadjdnfaaDoor
