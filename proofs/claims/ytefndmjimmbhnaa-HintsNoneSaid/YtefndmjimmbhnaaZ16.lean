/- Slices that a call owns: what the library's sort leaves. No condition. -/
import Derived.Test.YtefndmjimmbhnaaZ15
import Derived.Shelf.SlSortCmp.NoneTotal
section
set_option linter.unusedVariables false
set_option linter.unusedSimpArgs false
set_option maxRecDepth 20000
namespace Go.Proofs.Ytefndmjimmbhnaa
open Go.RowKit

section
variable {α : Type} {E : El α}
/-! the sort's -/
theorem flat_toList [Inhabited α] (l : List α) : (Sort.flatK E.enc E.size l.toArray).toList = E.cells l := by
  apply List.ext_getElem?
  intro t
  rcases Nat.lt_or_ge t (l.length * E.size) with h | h
  · have hs : t < (Sort.flatK E.enc E.size l.toArray).size := by rw [Sort.size_flatK]; simpa using h
    have h1 : t / E.size < l.length := (Nat.div_lt_iff_lt_mul E.pos).2 h
    rw [El.cells_at l t h, Array.getElem?_toList, Array.getElem?_eq_getElem hs]
    have := Sort.get_flatK E.enc E.size l.toArray t (by simpa using h)
    rw [getElem!_pos _ t hs, getElem!_pos l.toArray (t / E.size) (by simpa using h1)] at this
    rw [this, List.getElem_toArray, getElem!_pos _ _ (by rw [E.len]; exact Nat.mod_lt _ E.pos), List.getElem?_eq_getElem (by rw [E.len]; exact Nat.mod_lt _ E.pos)]
  · rw [List.getElem?_eq_none (by rw [Array.length_toList, Sort.size_flatK]; simpa using h), List.getElem?_eq_none (by rw [E.cells_len]; exact h)]
theorem OwnX.holdsK [Inhabited α] {w : World} {base g n c : Nat} {l : List α} (h : OwnX E w base (.slice (some ⟨g, 0, none⟩) n c) l) : Sort.HoldsK E.enc E.size w g 0 l.toArray := by
  intro t ht
  have hn : n = l.length := by
    rcases h.2 with ⟨h', _⟩ | ⟨g', cap', cur, h', _⟩
    · simp at h'
    · simp only [Value.slice.injEq] at h'; exact h'.2.1
  subst hn
  rw [Sort.size_flatK] at ht
  have ht' : t < l.length * E.size := by simpa using ht
  refine ⟨?_, ?_⟩
  · rw [Nat.zero_add, World.ownsRow.cellAt h t ht', ← flat_toList (E := E) l, Array.getElem?_toList, getElem!_pos _ t (by rw [Sort.size_flatK]; exact ht), Array.getElem?_eq_getElem (by rw [Sort.size_flatK]; exact ht)]
    rfl
  · rw [Nat.zero_add]; exact World.ownsRow.frozenAt h t
theorem OwnX.sorted [Inhabited α] {w : World} {base g n c : Nat} {l : List α} (h : OwnX E w base (.slice (some ⟨g, 0, none⟩) n c) l) (l' : List α) (hl : l'.length = l.length) (m : Nat) (os : Array Obj) :
    OwnX E (sortWorldK E.enc E.size w g 0 m l'.toArray os) base (.slice (some ⟨g, 0, none⟩) n c) l' ∧ w.grownBy (sortWorldK E.enc E.size w g 0 m l'.toArray os) (some g) := by
  obtain ⟨hlen, hx⟩ := h
  have hlt := World.ownsRow.lt ⟨hlen, hx⟩
  rcases hx with ⟨h', _⟩ | ⟨g', cap', cur, h', hb, hg, hnc, hcm, hcs, htake⟩
  · simp at h'
  · simp only [Value.slice.injEq, Option.some.injEq, Addr.mk.injEq, and_true, true_and] at h'
    obtain ⟨rfl, rfl, rfl⟩ := h'
    have hgl := (hlt g rfl).2
    have hF : ∀ t, t < l'.length * E.size → (Sort.flatK E.enc E.size l'.toArray)[t]? = (E.cells l')[t]? := fun t ht => by rw [← flat_toList (E := E) l', Array.getElem?_toList]
    have hsz : (Sort.flatK E.enc E.size l'.toArray).size = l'.length * E.size := by rw [Sort.size_flatK]; simp
    have hheap : (sortWorldK E.enc E.size w g 0 m l'.toArray os).heap[g]? = some (.cells (Sort.putCells id 0 (Sort.flatK E.enc E.size l'.toArray) cur) E.t (0, 0)) := by
      show (Sort.grow (Sort.mapBlock (Sort.ahead w m) g _) os).heap[g]? = _
      rw [Sort.heap_grow_old _ _ (by show g < (Array.modify _ _ _).size; rw [Array.size_modify]; exact hgl)]
      show (Array.modify w.heap g _)[g]? = _
      rw [Array.getElem?_modify, if_pos rfl, hg]; rfl
    refine ⟨⟨by rw [E.cells_len], .inr ⟨g, c, _, by rw [hl], hb, hheap, by omega, hcm, by simp only [Sort.putCells, Array.size_mapIdx]; exact hcs, ?_⟩⟩, ?_⟩
    · apply List.ext_getElem?
      intro t
      rw [List.getElem?_take]
      by_cases ht : t < l'.length * E.size
      · rw [if_pos ht, Array.getElem?_toList]
        have htc : t < cur.size := by
          rw [hcs]
          have : l'.length * E.size ≤ c * E.size := Nat.mul_le_mul_right _ (by omega)
          omega
        simp only [Sort.putCells, Array.getElem?_mapIdx, Array.getElem?_eq_getElem htc, Option.map_some]
        rw [if_pos ⟨Nat.zero_le _, by rw [hsz]; omega⟩, ← hF t ht, Nat.sub_zero, getElem!_pos _ t (by rw [hsz]; exact ht), Array.getElem?_eq_getElem (by rw [hsz]; exact ht)]
        rfl
      · rw [if_neg ht, List.getElem?_eq_none (by rw [E.cells_len]; omega)]
    · refine ⟨rfl, rfl, rfl, ?_, fun k hk hne => ?_⟩
      · show w.heap.size ≤ (Array.modify _ _ _ ++ os).size
        rw [Array.size_append, Array.size_modify]; exact Nat.le_add_right _ _
      · show (Sort.grow (Sort.mapBlock (Sort.ahead w m) g _) os).heap[k]? = _
        rw [Sort.heap_grow_old _ _ (by show k < (Array.modify _ _ _).size; rw [Array.size_modify]; exact hk)]
        show (Array.modify w.heap g _)[k]? = _
        rw [Array.getElem?_modify, if_neg (fun e => hne (by rw [e]))]
end
end Go.Proofs.Ytefndmjimmbhnaa
end
