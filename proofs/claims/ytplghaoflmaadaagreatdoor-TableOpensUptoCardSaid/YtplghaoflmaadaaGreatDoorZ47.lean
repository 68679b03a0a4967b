/- Opening a slice of bytes that came in. No condition. -/
import Derived.Test.YtplghaoflmaadaaGreatDoorZ36
import Derived.Test.YtplghaoflmaadaaGreatDoorZ02
section
set_option linter.unusedVariables false
set_option linter.unusedSimpArgs false
set_option maxRecDepth 100000
namespace Go.Proofs.YtplghaoflmaadaaGreatDoor
open Go.ChangeShapes Go.WideShapes Go.ChangeAt Go.RowKit Go.Joins

theorem cellsByte : Tryz.prog.cellsOf 5 = 1 := by kernel_rfl
theorem bytesByte : Tryz.prog.bytesOf 5 = 1 := by kernel_rfl
/-- Bytes that came in: they lie in old memory; they take at most the form's reach. -/
theorem open_u8 {H : Type} {enc : TypeId × Value → H} {W : World} {b0 : Nat} {v : Value} {d : DataW H} {p : List MemPlace} (hv : Value.okWide Tryz.prog W .any b0 29 v)
    (h : DataW.Trod enc Tryz.prog W 0 (fun _ => true) true 29 v d p) (hw : (d.weights Tryz.prog 29).all (· ≤ reachBytes) = true) (hlt : ∀ x ∈ p, x.block < W.heap.size) :
    ∃ l, SlB W.heap.size W v l ∧ l.length ≤ 140737488351232 := by
  have hsz : (DataW.weightsEach Tryz.prog [29] [d]).all (· ≤ reachBytes) = true := by simpa [DataW.weightsEach] using hw
  obtain ⟨a1, len, cap, rfl⟩ := okWide_slice Tryz.underlying29 hv
  obtain ⟨fuel, hf⟩ := h
  rcases open_ints Tryz.underlying29 Tryz.underlying5 cellsByte hf with ⟨hcs, hx⟩ | ⟨a, len', cap', zs, hcs, _, hl, hm, hz, hx, hcell, hwz⟩
  · simp [Value.cells] at hcs
    obtain ⟨rfl, rfl, rfl⟩ := hcs
    exact ⟨[], SlB.nil _ _ _, by simp⟩
  · simp [Value.cells] at hcs
    obtain ⟨rfl, rfl, rfl⟩ := hcs
    obtain ⟨hx1, hx2⟩ := Prod.mk.inj hx
    have hz2 : zs.length = cap := by simpa using hz
    have hlen : ((zs.take len).map fun n => UInt8.ofNat n.toNat).length = len := by simp; omega
    refine ⟨(zs.take len).map fun n => UInt8.ofNat n.toNat, ⟨some a, cap, by rw [hlen], by rw [hlen]; exact hl, fun h0 => ?_⟩, ?_⟩
    · rw [hlen] at h0
      obtain ⟨ab, ao, spot⟩ := a
      have hspot : spot = none := by simpa [Addr.add] using World.cell?_spot (hcell 0 (by omega))
      subst hspot
      refine ⟨ab, ao, rfl, ?_, fun j hj => ?_⟩
      · have := World.block_lt_of_cell? W _ (hcell 0 (by omega))
        simpa [Addr.add] using this
      · rw [hlen] at hj
        have hcj := hcell j (by omega)
        rw [Addr.add_lit] at hcj
        rw [hcj]
        have hb := range_u8 hwz j
        have e : zs.getD j 0 = zs[j]'(by omega) := by simp [List.getD, List.getElem?_eq_getElem (show j < zs.length by omega)]
        rw [e]
        rw [List.getD_eq_getElem?_getD] at e
        rw [e] at hb
        simp only [List.getElem_map, List.getElem_take]
        congr 2
        simp only [UInt8.toNat_ofNat']
        omega
    · rw [hlen]
      subst hx1
      have z := sized_slice hsz (j := 0) rfl rfl Tryz.underlying29
      rw [bytesByte] at z
      have h1 : (lits (H := H) .u8 (zs.take len)).length + (lits (H := H) .u8 (zs.drop len)).length = zs.length := by simp [lits]; omega
      have er : reachBytes = 140737488351232 := by decide
      omega
end Go.Proofs.YtplghaoflmaadaaGreatDoor
end
