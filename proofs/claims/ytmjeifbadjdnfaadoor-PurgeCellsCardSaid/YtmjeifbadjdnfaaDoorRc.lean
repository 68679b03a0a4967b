/- Opening a slice of cells that came in. No condition. -/
import Derived.Test.YtmjeifbadjdnfaaDoorRv
import Derived.Test.YtmjeifbadjdnfaaDoorWh
import Derived.Deep.Slices
set_option linter.unusedVariables false
set_option linter.unusedSimpArgs false
set_option maxRecDepth 100000
namespace Go.Proofs.YtmjeifbadjdnfaaDoor
open Go.ChangeShapes Go.WideShapes Go.ChangeAt Go.RowKit Go.Joins Go.Deep

section
variable {H : Type} {enc : TypeId × Value → H} {W : World} {b0 : Nat} {sp : Nat → Bool} {held : Bool}
theorem cellsKy : Tryd.prog.cellsOf 29 = 4 := by kernel_rfl
theorem cellsCel : Tryd.prog.cellsOf 35 = 10 := by kernel_rfl
theorem bytesCel : Tryd.prog.bytesOf 35 = 112 := by kernel_rfl
theorem trod_key {fuel : Nat} {cs : List Value} {y : DataW H × List MemPlace} (h : DataW.trod enc Tryd.prog W b0 sp held fuel 29 cs = some y) :
    ∃ k : Ky, cs = kyEnc k ∧ KyOk k := by
  obtain ⟨y0, y1, y2, y3, n, _, hl, h0, h1, h2, h3⟩ := trod_struct4 Tryd.underlying29 h
  obtain ⟨c0, c1, c2, c3, rfl⟩ : ∃ c0 c1 c2 c3, cs = [c0, c1, c2, c3] := by
    have := hl.trans cellsKy
    match cs, this with
    | [c0, c1, c2, c3], _ => exact ⟨c0, c1, c2, c3, rfl⟩
  simp only [cellsI, cellsS, List.drop_zero, List.drop_succ_cons, List.take_succ_cons, List.take_zero] at h0 h1 h2 h3
  obtain ⟨s0, e0, _, w0⟩ := DataW.trod_string Tryd.underlying9 h0
  obtain ⟨s1, e1, _, w1⟩ := DataW.trod_string Tryd.underlying9 h1
  obtain ⟨r2, e2, _, w2⟩ := DataW.trod_int Tryd.underlying3 h2
  obtain ⟨s3, e3, _, w3⟩ := DataW.trod_string Tryd.underlying9 h3
  simp only [List.cons.injEq, and_true] at e0 e1 e2 e3
  subst e0 e1 e2 e3
  have hb := bounds_i64 w2
  unfold maxLen at w0 w1 w3
  exact ⟨⟨s0, s1, r2, s3⟩, rfl, ⟨w0, w1, by unfold In64; simp only; omega, w3⟩⟩
theorem trod_cell {fuel : Nat} {cs : List Value} {y : DataW H × List MemPlace} (h : DataW.trod enc Tryd.prog W b0 sp held fuel 35 cs = some y) :
    ∃ c : Cel, cs = celEnc c ∧ CelOk c := by
  obtain ⟨y0, y1, n, _, hl, h0, h1⟩ := trod_struct2 Tryd.underlying35 h
  obtain ⟨k, e0, hk⟩ := trod_key h0
  obtain ⟨v, e1, hv⟩ := trod_ver h1
  have hl' : cs.length = 10 := hl.trans cellsCel
  refine ⟨⟨k, v⟩, ?_, hk, hv⟩
  simp only [cellsKy, cellsVer, List.drop_zero] at e0 e1
  have e2 : (cs.drop 4).take 6 = cs.drop 4 := List.take_of_length_le (by simp; omega)
  rw [show cs = cs.take 4 ++ cs.drop 4 from (List.take_append_drop 4 cs).symm, e0, ← e2, e1]
  rfl
theorem open_cells_at {a1 : Option Addr} {len cap fuel : Nat} {y : DataW H × List MemPlace} (hf : DataW.trod enc Tryd.prog W 0 (fun _ => true) true fuel 22 [.slice a1 len cap] = some y) (hw : (y.1.weights Tryd.prog 22).all (· ≤ reachBytes) = true) :
    ∃ L, SlX eC W.heap.size W (.slice a1 len cap) L ∧ Room L.length ∧ ∀ c ∈ L, CelOk c := by
  obtain ⟨d, p⟩ := y
  rcases open_slice Tryd.underlying22 hf with ⟨hcs, hx⟩ | ⟨a, len', cap', m, n, D, Pl, hcs, _, hl, hm, hmm, hx, hel⟩
  · simp [Value.cells] at hcs
    obtain ⟨rfl, rfl, rfl⟩ := hcs
    exact ⟨[], SlX.nil _ _ _, by unfold Room; simp, by simp⟩
  · simp [Value.cells] at hcs
    obtain ⟨rfl, rfl, rfl⟩ := hcs
    simp only [if_true] at hmm
    subst hmm
    have hx1 : d = .slice ((List.range len).map D) ((List.range (m - len)).map fun j => D (len + j)) := (Prod.mk.inj hx).1
    obtain ⟨X, hX⟩ := choose_lt (α := Cel) (p := fun i x => W.cells? 0 (a.add (i * 10)) 10 = some (celEnc x) ∧ CelOk x) (n := m) (fun i hi => by
      obtain ⟨cs', h1, h2⟩ := hel i hi
      rw [cellsCel] at h1
      obtain ⟨x, rfl, hx⟩ := trod_cell h2
      exact ⟨x, h1, hx⟩)
    have hlen : ((List.range len).map X).length = len := by simp
    refine ⟨(List.range len).map X, ⟨some a, m, by rw [hlen], by rw [hlen]; exact hl, fun h0 => ?_⟩, ?_, ?_⟩
    · rw [hlen] at h0
      have c00 : W.cell? (a.add (0 * 10 + 0)) = some (.string (X 0).k.t) := by
        have := (World.cells?_some (hX 0 (by omega)).1).2.2 0 (by decide)
        rw [add_add] at this
        exact this
      obtain ⟨ab, ao, spot⟩ := a
      have hspot : spot = none := by
        have := World.cell?_spot c00
        simpa [Addr.add] using this
      subst hspot
      refine ⟨ab, ao, rfl, ?_, fun j u hj => ?_⟩
      · have := World.block_lt_of_cell? W _ c00
        simpa [Addr.add] using this
      · have hjl : j < len * 10 := by
          have := (List.getElem?_eq_some_iff.1 hj).1
          rw [El.cells_len, hlen] at this
          exact this
        have hi : j / 10 < len := by omega
        have h1 := (World.cells?_some (hX (j / 10) (by omega)).1).2.2 (j % 10) (Nat.mod_lt _ (by decide))
        rw [add_add, Addr.add_lit, show j / 10 * 10 + j % 10 = j by omega] at h1
        rw [h1]
        have h2 := El.cells_get eC ((List.range len).map X) (j / 10) (j % 10) (by rw [hlen]; exact hi) (Nat.mod_lt _ (by decide))
        rw [show j / 10 * eC.size + j % 10 = j by show j / 10 * 10 + j % 10 = j; omega] at h2
        rw [h2] at hj
        rw [List.getElem_map, List.getElem_range] at hj
        exact hj
    · rw [hlen]
      subst hx1
      have hsz : (DataW.weightsEach Tryd.prog [22] [(DataW.slice ((List.range len).map D) ((List.range (m - len)).map fun j => D (len + j)))]).all (· ≤ reachBytes) = true := by simpa [DataW.weightsEach] using hw
      have z := sized_slice hsz (j := 0) rfl rfl Tryd.underlying22
      rw [bytesCel] at z
      have er : reachBytes = 140737488351232 := by decide
      simp only [List.length_map, List.length_range] at z
      unfold Room
      omega
    · intro c hc
      obtain ⟨i, hi, rfl⟩ := List.mem_map.1 hc
      exact (hX i (by have := List.mem_range.1 hi; omega)).2
theorem open_cells {v : Value} {d : DataW H} {p : List MemPlace} (hv : Value.okWide Tryd.prog W .any b0 22 v)
    (h : DataW.Trod enc Tryd.prog W 0 (fun _ => true) true 22 v d p) (hw : (d.weights Tryd.prog 22).all (· ≤ reachBytes) = true) :
    ∃ L, SlX eC W.heap.size W v L ∧ Room L.length ∧ ∀ c ∈ L, CelOk c := by
  obtain ⟨a1, len, cap, rfl⟩ := okWide_slice Tryd.underlying22 hv
  obtain ⟨fuel, hf⟩ := h
  exact open_cells_at (by simpa [Value.cells] using hf) hw
end
end Go.Proofs.YtmjeifbadjdnfaaDoor
