/- Slices that a call owns: stores of whole elements, and what the library's sort leaves. No condition. -/
import Derived.Test.YtmjeifbadjdnfaaDoorEl
import Derived.Shelf.SlSortCmp.NoneTotal
set_option linter.unusedVariables false
set_option linter.unusedSimpArgs false
set_option maxRecDepth 20000
namespace Go.Proofs.YtmjeifbadjdnfaaDoor
open Go.RowKit

/-! stores of whole elements -/
def setW (g : Nat) : World → Nat → List Value → World
  | w, _, [] => w
  | w, s, u :: us => setW g (w.setCell ⟨g, s, none⟩ u) (s + 1) us
def setL : List Value → Nat → List Value → List Value
  | c, _, [] => c
  | c, s, u :: us => setL (c.set s u) (s + 1) us
theorem setL_length (us : List Value) : ∀ (c : List Value) (s : Nat), (setL c s us).length = c.length := by
  induction us with
  | nil => intro c s; rfl
  | cons u us ih => intro c s; rw [setL, ih, List.length_set]
theorem setL_get (us : List Value) : ∀ (c : List Value) (s t : Nat), (setL c s us)[t]? = if s ≤ t ∧ t < s + us.length ∧ t < c.length then us[t - s]? else c[t]? := by
  induction us with
  | nil => intro c s t; rw [if_neg (by simp only [List.length_nil]; omega)]; rfl
  | cons u us ih =>
    intro c s t
    rw [setL, ih, List.length_set, List.length_cons]
    by_cases h : s + 1 ≤ t ∧ t < s + 1 + us.length ∧ t < c.length
    · rw [if_pos h, if_pos (by omega)]
      obtain ⟨d, rfl⟩ : ∃ d, t = s + 1 + d := ⟨t - (s + 1), by omega⟩
      rw [show s + 1 + d - (s + 1) = d by omega, show s + 1 + d - s = d + 1 by omega]; rfl
    · rw [if_neg h, List.getElem?_set]
      by_cases e : s = t
      · subst e
        rw [if_pos rfl]
        by_cases h2 : s < c.length
        · rw [if_pos h2, if_pos (by omega), Nat.sub_self]; rfl
        · rw [if_neg h2, if_neg (by omega), List.getElem?_eq_none (by omega)]
      · rw [if_neg e, if_neg (by omega)]
section
variable {α : Type} {E : El α}
theorem El.cells_at (l : List α) (t : Nat) (h : t < l.length * E.size) : (E.cells l)[t]? = (E.enc (l[t / E.size]'((Nat.div_lt_iff_lt_mul E.pos).2 h)))[t % E.size]? := by
  have h1 : t / E.size < l.length := (Nat.div_lt_iff_lt_mul E.pos).2 h
  have := E.cells_get l (t / E.size) (t % E.size) h1 (Nat.mod_lt _ E.pos)
  rwa [Nat.mul_comm, Nat.div_add_mod] at this
theorem El.cells_set (l : List α) (k : Nat) (x : α) (hk : k < l.length) : setL (E.cells l) (k * E.size) (E.enc x) = E.cells (l.set k x) := by
  apply List.ext_getElem?
  intro t
  rw [setL_get, E.cells_len, E.len]
  rcases Nat.lt_or_ge t (l.length * E.size) with h | h
  · have hq : t / E.size < l.length := (Nat.div_lt_iff_lt_mul E.pos).2 h
    rw [El.cells_at l t h, El.cells_at (l.set k x) t (by rw [List.length_set]; exact h), List.getElem_set]
    have hd := Nat.div_add_mod t E.size
    have hm := Nat.mod_lt t E.pos
    by_cases e : k = t / E.size
    · rw [if_pos e]
      have e2 : k * E.size = E.size * (t / E.size) := by rw [e, Nat.mul_comm]
      rw [if_pos (by omega), show t - k * E.size = t % E.size by omega]
    · rw [if_neg e, if_neg]
      rintro ⟨a, b, _⟩
      apply e
      have h1 : k ≤ t / E.size := (Nat.le_div_iff_mul_le E.pos).2 a
      have h2 : t / E.size < k + 1 := (Nat.div_lt_iff_lt_mul E.pos).2 (by rw [Nat.succ_mul]; exact b)
      omega
  · rw [if_neg (by omega), List.getElem?_eq_none (by rw [E.cells_len]; exact h), List.getElem?_eq_none (by rw [E.cells_len, List.length_set]; exact h)]
theorem row_setW {w0 : World} {base g n c : Nat} {e : TypeId} {size : Nat} (us : List Value) : ∀ (w : World) (s : Nat) (xs : List Value), w.ownsRow base e size (.slice (some ⟨g, 0, none⟩) n c) n xs → w0.grownBy w (some g) →
    (setW g w s us).ownsRow base e size (.slice (some ⟨g, 0, none⟩) n c) n (setL xs s us) ∧ w0.grownBy (setW g w s us) (some g) := by
  induction us with
  | nil => intro w s xs h k; exact ⟨h, k⟩
  | cons u us ih =>
    intro w s xs h k
    obtain ⟨h1, k1⟩ := World.ownsRow.stored h s u
    exact ih _ _ _ h1 ⟨k1.os.trans k.os, k1.tape.trans k.tape, k1.output.trans k.output, Nat.le_trans k.size k1.size, fun i hi hne => (k1.block i (Nat.lt_of_lt_of_le hi k.size) hne).trans (k.block i hi hne)⟩
/-- An element is stored. -/
theorem OwnX.put {w : World} {base g n c : Nat} {l : List α} (h : OwnX E w base (.slice (some ⟨g, 0, none⟩) n c) l) (k : Nat) (hk : k < l.length) (x : α) :
    OwnX E (setW g w (k * E.size) (E.enc x)) base (.slice (some ⟨g, 0, none⟩) n c) (l.set k x) ∧ w.grownBy (setW g w (k * E.size) (E.enc x)) (some g) := by
  have hn : n = l.length := by
    rcases h.2 with ⟨h', _⟩ | ⟨g', cap', cur, h', _⟩
    · simp at h'
    · simp only [Value.slice.injEq] at h'; exact h'.2.1
  subst hn
  have := row_setW (w0 := w) (E.enc x) w (k * E.size) _ h (World.grownBy.refl w _)
  unfold OwnX
  rw [List.length_set, ← El.cells_set l k x hk]
  exact this
theorem OwnX.frozen {w : World} {base g n c : Nat} {l : List α} (h : OwnX E w base (.slice (some ⟨g, 0, none⟩) n c) l) (j : Nat) : w.frozen? ⟨g, j, none⟩ = false := by
  have hn : n = l.length := by
    rcases h.2 with ⟨h', _⟩ | ⟨g', cap', cur, h', _⟩
    · simp at h'
    · simp only [Value.slice.injEq] at h'; exact h'.2.1
  subst hn
  exact World.ownsRow.frozenAt h j
theorem OwnX.cell {w : World} {base g n c : Nat} {l : List α} (h : OwnX E w base (.slice (some ⟨g, 0, none⟩) n c) l) (j i : Nat) (hj : j < l.length) {u : Value} (hu : (E.enc l[j])[i]? = some u) : w.cell? ⟨g, j * E.size + i, none⟩ = some u := by
  have := (h.sl).cell j i hj hu
  rwa [Nat.zero_add] at this

/-! the sort's -/
theorem flat_toList [Inhabited α] (l : List α) : (Sort.flatK E.enc E.size l.toArray).toList = E.cells l := by
  apply List.ext_getElem?
  intro t
  rcases Nat.lt_or_ge t (l.length * E.size) with h | h
  · have hs : t < (Sort.flatK E.enc E.size l.toArray).size := by rw [Sort.size_flatK]; simpa using h
    have h1 : t / E.size < l.length := (Nat.div_lt_iff_lt_mul E.pos).2 h
    rw [El.cells_at l t h, Array.getElem?_toList, Array.getElem?_eq_getElem hs]
    have := Sort.get_flatK E.enc E.size l.toArray t (by simpa using h)
    rw [getElem!_pos _ t hs, getElem!_pos l.toArray (t / E.size) (by simpa using h1)] at this
    rw [this, List.getElem_toArray, getElem!_pos _ _ (by rw [E.len]; exact Nat.mod_lt _ E.pos), List.getElem?_eq_getElem (by rw [E.len]; exact Nat.mod_lt _ E.pos)]
  · rw [List.getElem?_eq_none (by rw [Array.length_toList, Sort.size_flatK]; simpa using h), List.getElem?_eq_none (by rw [E.cells_len]; exact h)]
theorem OwnX.holdsK [Inhabited α] {w : World} {base g n c : Nat} {l : List α} (h : OwnX E w base (.slice (some ⟨g, 0, none⟩) n c) l) : Sort.HoldsK E.enc E.size w g 0 l.toArray := by
  intro t ht
  have hn : n = l.length := by
    rcases h.2 with ⟨h', _⟩ | ⟨g', cap', cur, h', _⟩
    · simp at h'
    · simp only [Value.slice.injEq] at h'; exact h'.2.1
  subst hn
  rw [Sort.size_flatK] at ht
  have ht' : t < l.length * E.size := by simpa using ht
  refine ⟨?_, ?_⟩
  · rw [Nat.zero_add, World.ownsRow.cellAt h t ht', ← flat_toList (E := E) l, Array.getElem?_toList, getElem!_pos _ t (by rw [Sort.size_flatK]; exact ht), Array.getElem?_eq_getElem (by rw [Sort.size_flatK]; exact ht)]
    rfl
  · rw [Nat.zero_add]; exact World.ownsRow.frozenAt h t
theorem OwnX.sorted [Inhabited α] {w : World} {base g n c : Nat} {l : List α} (h : OwnX E w base (.slice (some ⟨g, 0, none⟩) n c) l) (l' : List α) (hl : l'.length = l.length) (m : Nat) (os : Array Obj) :
    OwnX E (sortWorldK E.enc E.size w g 0 m l'.toArray os) base (.slice (some ⟨g, 0, none⟩) n c) l' ∧ w.grownBy (sortWorldK E.enc E.size w g 0 m l'.toArray os) (some g) := by
  obtain ⟨hlen, hx⟩ := h
  have hlt := World.ownsRow.lt ⟨hlen, hx⟩
  rcases hx with ⟨h', _⟩ | ⟨g', cap', cur, h', hb, hg, hnc, hcm, hcs, htake⟩
  · simp at h'
  · simp only [Value.slice.injEq, Option.some.injEq, Addr.mk.injEq, and_true, true_and] at h'
    obtain ⟨rfl, rfl, rfl⟩ := h'
    have hgl := (hlt g rfl).2
    have hF : ∀ t, t < l'.length * E.size → (Sort.flatK E.enc E.size l'.toArray)[t]? = (E.cells l')[t]? := fun t ht => by rw [← flat_toList (E := E) l', Array.getElem?_toList]
    have hsz : (Sort.flatK E.enc E.size l'.toArray).size = l'.length * E.size := by rw [Sort.size_flatK]; simp
    have hheap : (sortWorldK E.enc E.size w g 0 m l'.toArray os).heap[g]? = some (.cells (Sort.putCells id 0 (Sort.flatK E.enc E.size l'.toArray) cur) E.t (0, 0)) := by
      show (Sort.grow (Sort.mapBlock (Sort.ahead w m) g _) os).heap[g]? = _
      rw [Sort.heap_grow_old _ _ (by show g < (Array.modify _ _ _).size; rw [Array.size_modify]; exact hgl)]
      show (Array.modify w.heap g _)[g]? = _
      rw [Array.getElem?_modify, if_pos rfl, hg]; rfl
    refine ⟨⟨by rw [E.cells_len], .inr ⟨g, c, _, by rw [hl], hb, hheap, by omega, hcm, by simp only [Sort.putCells, Array.size_mapIdx]; exact hcs, ?_⟩⟩, ?_⟩
    · apply List.ext_getElem?
      intro t
      rw [List.getElem?_take]
      by_cases ht : t < l'.length * E.size
      · rw [if_pos ht, Array.getElem?_toList]
        have htc : t < cur.size := by
          rw [hcs]
          have : l'.length * E.size ≤ c * E.size := Nat.mul_le_mul_right _ (by omega)
          omega
        simp only [Sort.putCells, Array.getElem?_mapIdx, Array.getElem?_eq_getElem htc, Option.map_some]
        rw [if_pos ⟨Nat.zero_le _, by rw [hsz]; omega⟩, ← hF t ht, Nat.sub_zero, getElem!_pos _ t (by rw [hsz]; exact ht), Array.getElem?_eq_getElem (by rw [hsz]; exact ht)]
        rfl
      · rw [if_neg ht, List.getElem?_eq_none (by rw [E.cells_len]; omega)]
    · refine ⟨rfl, rfl, rfl, ?_, fun k hk hne => ?_⟩
      · show w.heap.size ≤ (Array.modify _ _ _ ++ os).size
        rw [Array.size_append, Array.size_modify]; exact Nat.le_add_right _ _
      · show (Sort.grow (Sort.mapBlock (Sort.ahead w m) g _) os).heap[k]? = _
        rw [Sort.heap_grow_old _ _ (by show k < (Array.modify _ _ _).size; rw [Array.size_modify]; exact hk)]
        show (Array.modify w.heap g _)[k]? = _
        rw [Array.getElem?_modify, if_neg (fun e => hne (by rw [e]))]
end
end Go.Proofs.YtmjeifbadjdnfaaDoor
