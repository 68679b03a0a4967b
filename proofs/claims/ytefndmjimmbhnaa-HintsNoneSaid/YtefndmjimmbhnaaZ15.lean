/- Slices that a call owns: stores of whole elements. No condition. -/
import Derived.Test.YtefndmjimmbhnaaZ01
section
set_option linter.unusedVariables false
set_option linter.unusedSimpArgs false
set_option maxRecDepth 20000
namespace Go.Proofs.Ytefndmjimmbhnaa
open Go.RowKit

/-! stores of whole elements -/
def setW (g : Nat) : World → Nat → List Value → World
  | w, _, [] => w
  | w, s, u :: us => setW g (w.setCell ⟨g, s, none⟩ u) (s + 1) us
def setL : List Value → Nat → List Value → List Value
  | c, _, [] => c
  | c, s, u :: us => setL (c.set s u) (s + 1) us
theorem setL_length (us : List Value) : ∀ (c : List Value) (s : Nat), (setL c s us).length = c.length := by
  induction us with
  | nil => intro c s; rfl
  | cons u us ih => intro c s; rw [setL, ih, List.length_set]
theorem setL_get (us : List Value) : ∀ (c : List Value) (s t : Nat), (setL c s us)[t]? = if s ≤ t ∧ t < s + us.length ∧ t < c.length then us[t - s]? else c[t]? := by
  induction us with
  | nil => intro c s t; rw [if_neg (by simp only [List.length_nil]; omega)]; rfl
  | cons u us ih =>
    intro c s t
    rw [setL, ih, List.length_set, List.length_cons]
    by_cases h : s + 1 ≤ t ∧ t < s + 1 + us.length ∧ t < c.length
    · rw [if_pos h, if_pos (by omega)]
      obtain ⟨d, rfl⟩ : ∃ d, t = s + 1 + d := ⟨t - (s + 1), by omega⟩
      rw [show s + 1 + d - (s + 1) = d by omega, show s + 1 + d - s = d + 1 by omega]; rfl
    · rw [if_neg h, List.getElem?_set]
      by_cases e : s = t
      · subst e
        rw [if_pos rfl]
        by_cases h2 : s < c.length
        · rw [if_pos h2, if_pos (by omega), Nat.sub_self]; rfl
        · rw [if_neg h2, if_neg (by omega), List.getElem?_eq_none (by omega)]
      · rw [if_neg e, if_neg (by omega)]
section
variable {α : Type} {E : El α}
theorem El.cells_at (l : List α) (t : Nat) (h : t < l.length * E.size) : (E.cells l)[t]? = (E.enc (l[t / E.size]'((Nat.div_lt_iff_lt_mul E.pos).2 h)))[t % E.size]? := by
  have h1 : t / E.size < l.length := (Nat.div_lt_iff_lt_mul E.pos).2 h
  have := E.cells_get l (t / E.size) (t % E.size) h1 (Nat.mod_lt _ E.pos)
  rwa [Nat.mul_comm, Nat.div_add_mod] at this
theorem El.cells_set (l : List α) (k : Nat) (x : α) (hk : k < l.length) : setL (E.cells l) (k * E.size) (E.enc x) = E.cells (l.set k x) := by
  apply List.ext_getElem?
  intro t
  rw [setL_get, E.cells_len, E.len]
  rcases Nat.lt_or_ge t (l.length * E.size) with h | h
  · have hq : t / E.size < l.length := (Nat.div_lt_iff_lt_mul E.pos).2 h
    rw [El.cells_at l t h, El.cells_at (l.set k x) t (by rw [List.length_set]; exact h), List.getElem_set]
    have hd := Nat.div_add_mod t E.size
    have hm := Nat.mod_lt t E.pos
    by_cases e : k = t / E.size
    · rw [if_pos e]
      have e2 : k * E.size = E.size * (t / E.size) := by rw [e, Nat.mul_comm]
      rw [if_pos (by omega), show t - k * E.size = t % E.size by omega]
    · rw [if_neg e, if_neg]
      rintro ⟨a, b, _⟩
      apply e
      have h1 : k ≤ t / E.size := (Nat.le_div_iff_mul_le E.pos).2 a
      have h2 : t / E.size < k + 1 := (Nat.div_lt_iff_lt_mul E.pos).2 (by rw [Nat.succ_mul]; exact b)
      omega
  · rw [if_neg (by omega), List.getElem?_eq_none (by rw [E.cells_len]; exact h), List.getElem?_eq_none (by rw [E.cells_len, List.length_set]; exact h)]
theorem row_setW {w0 : World} {base g n c : Nat} {e : TypeId} {size : Nat} (us : List Value) : ∀ (w : World) (s : Nat) (xs : List Value), w.ownsRow base e size (.slice (some ⟨g, 0, none⟩) n c) n xs → w0.grownBy w (some g) →
    (setW g w s us).ownsRow base e size (.slice (some ⟨g, 0, none⟩) n c) n (setL xs s us) ∧ w0.grownBy (setW g w s us) (some g) := by
  induction us with
  | nil => intro w s xs h k; exact ⟨h, k⟩
  | cons u us ih =>
    intro w s xs h k
    obtain ⟨h1, k1⟩ := World.ownsRow.stored h s u
    exact ih _ _ _ h1 ⟨k1.os.trans k.os, k1.tape.trans k.tape, k1.output.trans k.output, Nat.le_trans k.size k1.size, fun i hi hne => (k1.block i (Nat.lt_of_lt_of_le hi k.size) hne).trans (k.block i hi hne)⟩
/-- An element is stored. -/
theorem OwnX.put {w : World} {base g n c : Nat} {l : List α} (h : OwnX E w base (.slice (some ⟨g, 0, none⟩) n c) l) (k : Nat) (hk : k < l.length) (x : α) :
    OwnX E (setW g w (k * E.size) (E.enc x)) base (.slice (some ⟨g, 0, none⟩) n c) (l.set k x) ∧ w.grownBy (setW g w (k * E.size) (E.enc x)) (some g) := by
  have hn : n = l.length := by
    rcases h.2 with ⟨h', _⟩ | ⟨g', cap', cur, h', _⟩
    · simp at h'
    · simp only [Value.slice.injEq] at h'; exact h'.2.1
  subst hn
  have := row_setW (w0 := w) (E.enc x) w (k * E.size) _ h (World.grownBy.refl w _)
  unfold OwnX
  rw [List.length_set, ← El.cells_set l k x hk]
  exact this
theorem OwnX.frozen {w : World} {base g n c : Nat} {l : List α} (h : OwnX E w base (.slice (some ⟨g, 0, none⟩) n c) l) (j : Nat) : w.frozen? ⟨g, j, none⟩ = false := by
  have hn : n = l.length := by
    rcases h.2 with ⟨h', _⟩ | ⟨g', cap', cur, h', _⟩
    · simp at h'
    · simp only [Value.slice.injEq] at h'; exact h'.2.1
  subst hn
  exact World.ownsRow.frozenAt h j
theorem OwnX.cell {w : World} {base g n c : Nat} {l : List α} (h : OwnX E w base (.slice (some ⟨g, 0, none⟩) n c) l) (j i : Nat) (hj : j < l.length) {u : Value} (hu : (E.enc l[j])[i]? = some u) : w.cell? ⟨g, j * E.size + i, none⟩ = some u := by
  have := (h.sl).cell j i hj hu
  rwa [Nat.zero_add] at this
end
end Go.Proofs.Ytefndmjimmbhnaa
end
