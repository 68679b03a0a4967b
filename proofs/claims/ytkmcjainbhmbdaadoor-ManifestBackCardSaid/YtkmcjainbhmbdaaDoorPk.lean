/- Plain laws on texts: what the library's ReplaceAll of one byte is; what a name is. No program in sight; no condition. -/
import Derived.Lib.Replace
import Derived.Lib.ReplaceLaws
import Derived.Lib.CountLaws
import Derived.Lib.IndexBytes
import Derived.Shelf.GgClosure.StringsIndexFunc
set_option linter.unusedVariables false
set_option linter.unusedSimpArgs false
namespace Go.Proofs.YtkmcjainbhmbdaaDoor
open Go.Lib

/-- each byte c becomes new -/
def sub1 (c : UInt8) (new : List UInt8) (s : List UInt8) : List UInt8 := s.flatMap fun b => if b = c then new else [b]

theorem replaceK_one (c : UInt8) (new : List UInt8) : ∀ s : List UInt8, replaceK [c] new (count s [c]) s = sub1 c new s
  | [] => by
    rw [count_miss (by simp [index])]; rfl
  | b :: l => by
    have ih := replaceK_one c new l
    have hne : ([c] : List UInt8) ≠ [] := by simp
    by_cases hb : b = c
    · subst hb
      have hi : index (b :: l) [b] = (0 : Nat) := by simp [index]
      rw [count_hit hne hi, Nat.add_comm, replaceK_hit _ _ _ _ _ hi]
      simp only [List.take_zero, List.nil_append, List.length_cons, List.length_nil, Nat.zero_add, List.drop_succ_cons, List.drop_zero]
      rw [ih]; simp [sub1]
    · have hp : ([c] : List UInt8).isPrefixOf (b :: l) = false := by simp [List.isPrefixOf]; exact fun h => (hb h.symm).elim
      rcases Int.lt_or_le (index l [c]) 0 with hlt | hge
      · have h1 : index l [c] = -1 := by have := index_ge l [c]; omega
        have hi : index (b :: l) [c] = -1 := by simp [index, hp, h1]
        rw [count_miss h1] at ih
        rw [count_miss hi]
        simp only [replaceK] at ih ⊢
        have e : sub1 c new (b :: l) = b :: sub1 c new l := by simp [sub1, hb]
        rw [e, ← ih]
      · obtain ⟨i, hi⟩ := Int.eq_ofNat_of_zero_le hge
        have hi2 : index (b :: l) [c] = ((i + 1 : Nat) : Int) := by
          simp only [index, hp, hi]
          rw [if_neg (by simp), if_neg (by first | (simp; done) | (simp; omega))]; simp
        rw [count_hit hne hi, Nat.add_comm, replaceK_hit _ _ _ _ _ hi] at ih
        rw [count_hit hne hi2, Nat.add_comm, replaceK_hit _ _ _ _ _ hi2]
        have e : sub1 c new (b :: l) = b :: sub1 c new l := by simp [sub1, hb]
        rw [e, ← ih]
        simp [Nat.add_right_comm]

theorem replaceAll_one (c : UInt8) (new : List UInt8) (h : new ≠ [c]) (s : List UInt8) : replaceAll s [c] new = sub1 c new s := by
  unfold replaceAll replace replaceNum
  rw [if_neg (by simpa using fun e => h e.symm), if_pos (by left; decide)]
  exact replaceK_one c new s

theorem sub1_length_le (c : UInt8) (new : List UInt8) (n : Nat) (h : new.length ≤ n) (h1 : 1 ≤ n) (s : List UInt8) : (sub1 c new s).length ≤ n * s.length := by
  induction s with
  | nil => simp [sub1]
  | cons b l ih =>
    have e : sub1 c new (b :: l) = (if b = c then new else [b]) ++ sub1 c new l := by simp [sub1]
    rw [e, List.length_append, List.length_cons, Nat.mul_add, Nat.mul_one]
    split
    · omega
    · simp; omega
theorem countB_one_le (s : ByteArray) (old : ByteArray) (h : old.size = 1) : countB s old ≤ s.size := by
  have := countB_mul_le old (by omega) s.size s (Nat.le_refl _)
  rw [h] at this; omega
end Go.Proofs.YtkmcjainbhmbdaaDoor
