/- Opening a slice of slices of cells that came in. No condition. -/
import Derived.Test.YtmjeifbadjdnfaaDoorRc
import Derived.Test.YtmjeifbadjdnfaaDoorWi
set_option linter.unusedVariables false
set_option linter.unusedSimpArgs false
set_option maxRecDepth 100000
namespace Go.Proofs.YtmjeifbadjdnfaaDoor
open Go.ChangeShapes Go.WideShapes Go.ChangeAt Go.RowKit Go.Joins Go.Deep

section
variable {H : Type} {enc : TypeId × Value → H} {W : World} {b0 : Nat}
/-- the cells of a slice, once opened -/
theorem trod_cells {v : Value} {fuel : Nat} {y : DataW H × List MemPlace} (hf : DataW.trod enc Tryd.prog W 0 (fun _ => true) true fuel 22 [v] = some y) (hw : (y.1.weights Tryd.prog 22).all (· ≤ reachBytes) = true) :
    ∃ (hd : Hd) (L : List Cel), v = hd.val ∧ SlX eC W.heap.size W v L ∧ Room L.length ∧ ∀ c ∈ L, CelOk c := by
  have hv : ∃ a len cap, v = .slice a len cap := by
    rcases open_slice Tryd.underlying22 hf with ⟨hcs, _⟩ | ⟨a, len', cap', m, n, D, Pl, hcs, _⟩
    · exact ⟨none, 0, 0, (List.cons.inj hcs).1⟩
    · exact ⟨some a, len', cap', (List.cons.inj hcs).1⟩
  obtain ⟨a, len, cap, rfl⟩ := hv
  obtain ⟨L, h1, h2, h3⟩ := open_cells_at (a1 := a) (len := len) (cap := cap) hf hw
  exact ⟨⟨a, len, cap⟩, L, rfl, h1, h2, h3⟩
theorem bytesHd : Tryd.prog.bytesOf 22 = 24 := by kernel_rfl
theorem cellsHd : Tryd.prog.cellsOf 22 = 1 := by kernel_rfl
theorem open_lists {v : Value} {d : DataW H} {p : List MemPlace} (hv : Value.okWide Tryd.prog W .any b0 23 v)
    (h : DataW.Trod enc Tryd.prog W 0 (fun _ => true) true 23 v d p) (hw : (d.weights Tryd.prog 23).all (· ≤ reachBytes) = true) :
    ∃ (hs : List Hd) (ls : List (List Cel)), SlX eH W.heap.size W v hs ∧ Lists W hs ls ∧ hs.length * 24 ≤ 140737488351232 ∧ ∀ l ∈ ls, ∀ c ∈ l, CelOk c := by
  obtain ⟨a1, len, cap, rfl⟩ := okWide_slice Tryd.underlying23 hv
  obtain ⟨fuel, hf⟩ := h
  rcases open_slice1 Tryd.underlying23 cellsHd hf with ⟨hcs, hx⟩ | ⟨a, len', cap', m, n, V, D, Pl, hcs, _, hl, hm, hmm, hx, hel⟩
  · simp [Value.cells] at hcs
    obtain ⟨rfl, rfl, rfl⟩ := hcs
    exact ⟨[], [], SlX.nil _ _ _, ⟨rfl, fun i h1 => by simp at h1⟩, by simp, by simp⟩
  · simp [Value.cells] at hcs
    obtain ⟨rfl, rfl, rfl⟩ := hcs
    simp only [if_true] at hmm
    subst hmm
    have hx1 : d = .slice ((List.range len).map D) ((List.range (m - len)).map fun j => D (len + j)) := (Prod.mk.inj hx).1
    subst hx1
    simp only [DataW.weights, Tryd.underlying23, List.all_cons, List.all_append, Bool.and_eq_true, decide_eq_true_eq, bytesHd, List.length_map, List.length_range] at hw
    obtain ⟨hw0, hw1, _⟩ := hw
    have hwi : ∀ i, i < len → ((D i).weights Tryd.prog 22).all (· ≤ reachBytes) = true := by
      intro i hi
      have : ∀ (l : List (DataW H)), (DataW.weightsAll Tryd.prog 22 l).all (· ≤ reachBytes) = true → ∀ x ∈ l, (x.weights Tryd.prog 22).all (· ≤ reachBytes) = true := by
        intro l
        induction l with
        | nil => intro _ x hx; cases hx
        | cons y l ih =>
          intro h x hx
          simp only [DataW.weightsAll, List.all_append, Bool.and_eq_true] at h
          rcases List.mem_cons.1 hx with rfl | hx
          · exact h.1
          · exact ih h.2 x hx
      exact this _ hw1 (D i) (List.mem_map.2 ⟨i, List.mem_range.2 hi, rfl⟩)
    haveI : Inhabited Hd := ⟨⟨none, 0, 0⟩⟩
    obtain ⟨X, hX⟩ := choose_lt (α := Hd × List Cel) (p := fun i x => V i = x.1.val ∧ SlX eC W.heap.size W (V i) x.2 ∧ Room x.2.length ∧ ∀ c ∈ x.2, CelOk c) (n := len) (fun i hi => by
      obtain ⟨hd, L, h1, h2⟩ := trod_cells (hel i (by omega)).2 (hwi i hi)
      exact ⟨(hd, L), h1, h2⟩)
    have hlen : ((List.range len).map fun i => (X i).1).length = len := by simp
    have er : reachBytes = 140737488351232 := by decide
    refine ⟨(List.range len).map fun i => (X i).1, (List.range len).map fun i => (X i).2, ⟨some a, m, by rw [hlen], by rw [hlen]; exact hl, fun h0 => ?_⟩, ⟨by simp, fun i h1 h2 => ?_⟩, ?_, ?_⟩
    · rw [hlen] at h0
      have c00 := (hel 0 (by omega)).1
      obtain ⟨ab, ao, spot⟩ := a
      have hspot : spot = none := by
        have := World.cell?_spot c00
        simpa [Addr.add] using this
      subst hspot
      refine ⟨ab, ao, rfl, ?_, fun j u hj => ?_⟩
      · have := World.block_lt_of_cell? W _ c00
        simpa [Addr.add] using this
      · have hjl : j < len := by
          have := (List.getElem?_eq_some_iff.1 hj).1
          rw [El.cells_len, hlen] at this
          have e1 : eH.size = 1 := rfl
          rw [e1] at this; omega
        have h1 := (hel j (by omega)).1
        rw [Addr.add_lit] at h1
        rw [h1]
        have h2 := El.cells_get eH ((List.range len).map fun i => (X i).1) j 0 (by rw [hlen]; exact hjl) (by decide)
        rw [show j * eH.size + 0 = j by show j * 1 + 0 = j; omega] at h2
        rw [h2, List.getElem_map, List.getElem_range] at hj
        have h3 : (eH.enc (X j).1)[0]? = some (X j).1.val := rfl
        rw [h3] at hj
        rw [(hX j hjl).1]; exact hj
    · rw [hlen] at h1
      simp only [List.getElem_map, List.getElem_range]
      have := hX i h1
      exact ⟨by rw [← this.1]; exact this.2.1, this.2.2.1⟩
    · rw [hlen]; omega
    · intro l hl' c hc
      obtain ⟨i, hi, rfl⟩ := List.mem_map.1 hl'
      exact (hX i (List.mem_range.1 hi)).2.2.2 c hc
end
end Go.Proofs.YtmjeifbadjdnfaaDoor
