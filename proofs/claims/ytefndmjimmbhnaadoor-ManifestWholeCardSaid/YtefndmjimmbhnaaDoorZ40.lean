/- Opening a manifest that came in. No condition. -/
import Derived.Test.YtefndmjimmbhnaaDoorZ39
import Derived.Test.YtefndmjimmbhnaaDoorZ10
section
set_option linter.unusedVariables false
set_option linter.unusedSimpArgs false
set_option maxRecDepth 100000
namespace Go.Proofs.YtefndmjimmbhnaaDoor
open Go.ChangeShapes Go.WideShapes Go.ChangeAt Go.RowKit Go.Joins

theorem cellsInt : Tryd.prog.cellsOf 3 = 1 := by kernel_rfl
theorem bytesInt : Tryd.prog.bytesOf 3 = 8 := by kernel_rfl
/-- Numbers that came in. -/
theorem open_nums {H : Type} {enc : TypeId × Value → H} {W : World} {fuel : Nat} {v : Value} {y : DataW H × List MemPlace}
    (hf : DataW.trod enc Tryd.prog W 0 (fun _ => true) true fuel 22 [v] = some y) (hw : (y.1.weights Tryd.prog 22).all (· ≤ reachBytes) = true) :
    ∃ l, SlI W v l ∧ l.length ≤ 140737488351232 := by
  have hsz : (DataW.weightsEach Tryd.prog [22] [y.1]).all (· ≤ reachBytes) = true := by simpa [DataW.weightsEach] using hw
  rcases open_ints Tryd.underlying22 Tryd.underlying3 cellsInt hf with ⟨hcs, hx⟩ | ⟨a, len, cap, zs, hcs, _, hl, hm, hz, hx, hcell, hwz⟩
  · simp at hcs
    subst hcs
    exact ⟨[], ⟨none, 0, rfl, by simp, fun h => absurd h (by simp)⟩, by simp⟩
  · simp at hcs
    subst hcs
    subst hx
    have hz2 : zs.length = cap := by simpa using hz
    have hlen : (zs.take len).length = len := by simp; omega
    refine ⟨zs.take len, ⟨some a, cap, by rw [hlen], by rw [hlen]; exact hl, fun h0 => ?_⟩, ?_⟩
    · rw [hlen] at h0
      obtain ⟨ab, ao, spot⟩ := a
      have hspot : spot = none := by simpa [Addr.add] using World.cell?_spot (hcell 0 (by omega))
      subst hspot
      refine ⟨ab, ao, rfl, fun j hj => ?_⟩
      rw [hlen] at hj
      have hcj := hcell j (by omega)
      rw [Addr.add_lit] at hcj
      rw [hcj]
      simp [List.getD, List.getElem?_eq_getElem (show j < zs.length by omega)]
    · rw [hlen]
      have z := sized_slice hsz (j := 0) rfl rfl Tryd.underlying22
      rw [bytesInt] at z
      have h1 : (lits (H := H) .i64 (zs.take len)).length + (lits (H := H) .i64 (zs.drop len)).length = zs.length := by simp [lits]; omega
      have er : reachBytes = 140737488351232 := by decide
      omega
theorem cellsMan : Tryd.prog.cellsOf 24 = 3 := by kernel_rfl
theorem open_man {H : Type} {enc : TypeId × Value → H} {W : World} {b0 : Nat} {v : Value} {d : DataW H} {p : List MemPlace} (hv : Value.okWide Tryd.prog W .any b0 24 v)
    (h : DataW.Trod enc Tryd.prog W 0 (fun _ => true) true 24 v d p) (hw : (d.weights Tryd.prog 24).all (· ≤ reachBytes) = true) :
    ∃ (v0 : Value) (l : List Int) (nx fr : Int), v = .agg #[v0, .int .i64 nx, .int .i64 fr] ∧ SlI W v0 l ∧ l.length ≤ 140737488351232 := by
  obtain ⟨v0, v1, v2, y0, y1, y2, n, rfl, rfl, rfl, h0, h1, h2⟩ := open_agg3 Tryd.underlying24 (by kernel_rfl) cellsMan hv h
  obtain ⟨r1, e1, rfl, w1⟩ := DataW.trod_int Tryd.underlying3 h1
  obtain ⟨r2, e2, rfl, w2⟩ := DataW.trod_int Tryd.underlying3 h2
  simp only [List.cons.injEq, and_true] at e1 e2
  subst e1 e2
  simp only [DataW.weights, Tryd.underlying24, DataW.weightsEach, List.map_cons, List.map_nil, List.append_nil, List.nil_append, List.cons_append, List.all_append, List.all_cons, List.all_nil, Bool.and_true, Bool.and_eq_true, decide_eq_true_eq, Array.length_toList] at hw
  obtain ⟨l, hs, hl⟩ := open_nums h0 hw
  exact ⟨v0, l, r1, r2, rfl, hs, hl⟩
end Go.Proofs.YtefndmjimmbhnaaDoor
end
