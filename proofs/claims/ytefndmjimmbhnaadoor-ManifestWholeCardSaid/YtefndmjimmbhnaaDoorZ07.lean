/- What is asked of an empty disk: New, fault, Read; manifest's Begin and Load. Conditions: as told at each. -/
import Derived.Test.YtefndmjimmbhnaaDoorZ05
import Derived.Test.YtefndmjimmbhnaaDoorZ06
import Derived.WideMake
section
set_option linter.unusedVariables false
set_option linter.unusedSimpArgs false
set_option maxRecDepth 20000
namespace Go.Proofs.YtefndmjimmbhnaaDoor
open Go.RowKit

/-- An empty disk with power. -/
structure ED (W : World) (d mp : Nat) : Prop where
  m : W.heap[mp]? = some (.map #[] 0)
  c1 : W.cell? ⟨d, 1, none⟩ = some (.map (some mp))
  c3 : W.cell? ⟨d, 3, none⟩ = some (.bool false)
theorem ED.below {W W1 : World} {d mp : Nat} (h : ED W d mp) (hb : Below W.heap.size W W1) : ED W1 d mp :=
  ⟨by rw [hb.block mp (Array.getElem?_eq_some_iff.1 h.m).1]; exact h.m, cell_keep hb h.c1, cell_keep hb h.c3⟩

theorem New_any (w : World) : Calls Tryd.prog 4 #[.int .i64 1000] w fun e w' => ∃ d mp, e = .returned (.pointer (some ⟨d, 0, none⟩)) ∧ ED w' d mp ∧ Below w.heap.size w w' := by
  have hmk := run_makeMap_plain (P := Tryd.prog) w 42
  go_enter Tryd.func4, Tryd.ntmps4
  go_wp2_with fail
  go_ret
  refine ⟨_, w.heap.size, rfl, ⟨?_, ?_, ?_⟩, ?_⟩
  · exact ((below_alloc (Below.refl _ (w.alloc (.map #[] 0))) _).block w.heap.size (by show w.heap.size < (w.heap.push _).size; simp)).trans (heap_last w _)
  · go_simp
  · go_simp
  · exact below_alloc (below_alloc (Below.refl _ _) _) _
theorem zeroPage (W : World) : (zeroValue 59).run Tryd.prog W = .ok (.pointer none) W := by simp [go_sem]
theorem lookup_empty {W : World} {mp : Nat} (h : W.heap[mp]? = some (.map #[] 0)) (s : ByteArray) : (Instr.lookup 42 (.map (some mp)) (.string s) false).run Tryd.prog W = .ok (.pointer none) W := by
  have h1 : ∀ n, (Instr.checkKey true (n + 1) 9 (.string s)).run Tryd.prog W = .ok () W := fun n => MapKept.run_checkKey Tryd.underlying9 (by simp [MapKept.IsKey]) true n
  have h2 : (Instr.findKey 9 (.string s) []).run Tryd.prog W = .ok none W := MapKept.run_findKey Tryd.underlying9 rfl
  simp [Instr.lookup, run_underlying Tryd.underlying42, MapKept.run_getObj_map h]
  rw [h1 9999]
  simp only [Result.andThen]
  rw [h2]
  exact zeroPage W
end Go.Proofs.YtefndmjimmbhnaaDoor
end
