/- Plain laws: which texts are names (the program's way and the reference's are one); a key's text leads back to it. No program in sight; no condition. -/
import Derived.Test.YtkmcjainbhmbdaaDoorKg
set_option linter.unusedVariables false
set_option linter.unusedSimpArgs false
set_option maxRecDepth 20000
namespace Go.Proofs.YtkmcjainbhmbdaaDoor
open Go.Lib

theorem decode_high (s : ByteArray) (pos : Nat) (h : pos < s.size) (ha : ¬ (s[pos]'h).toNat < 128) : 128 ≤ (Utf8.decode s pos).1 := by
  have e : (s.get! pos) = s[pos]'h := getElem!_pos s.data pos h
  unfold Utf8.decode
  simp only [Nat.add_zero, e]
  rw [if_neg ha]
  repeat' split
  all_goals simp [Utf8.runeError] at *
  all_goals omega
theorem badR_ok (b : UInt8) : badR b.toNat = !okC b := by
  unfold badR okC
  rw [Bool.eq_iff_iff]
  simp only [Bool.and_eq_true, Bool.or_eq_true, Bool.not_eq_true', Bool.or_eq_false_iff, Bool.and_eq_false_iff, decide_eq_true_eq, decide_eq_false_iff_not, bne_iff_ne, beq_eq_false_iff_ne, ne_eq]
  omega
theorem badR_high (r : Nat) (h : 128 ≤ r) : badR r = true := by
  unfold badR
  simp only [Bool.and_eq_true, Bool.or_eq_true, decide_eq_true_eq, bne_iff_ne, ne_eq]
  omega
theorem okC_low (b : UInt8) (h : okC b = true) : b.toNat < 128 := by
  unfold okC at h
  simp only [Bool.and_eq_true, Bool.or_eq_true, decide_eq_true_eq, beq_iff_eq] at h
  omega
theorem names_one (s : ByteArray) : ∀ (f pos : Nat), s.size - pos ≤ f → (!decide (0 ≤ idxFuncFrom badR true s f pos)) = okFrom s pos
  | 0, pos, h => by
    rw [idxFuncFrom, okFrom, dif_neg (by omega)]; rfl
  | f + 1, pos, h => by
    rw [idxFuncFrom]
    by_cases hp : pos < s.size
    · rw [if_pos hp, okFrom, dif_pos hp]
      cases ho : okC s[pos]
      · have hb : badR (Utf8.decode s pos).1 = true := by
          by_cases ha : (s[pos]).toNat < 128
          · rw [decode_ascii s pos hp ha, badR_ok, ho]; rfl
          · exact badR_high _ (decode_high s pos hp ha)
        rw [if_pos hb, if_neg (by decide)]; simp
      · have ha := okC_low _ ho
        rw [decode_ascii s pos hp ha]
        rw [if_neg (by rw [badR_ok, ho]; decide), if_pos rfl]
        exact names_one s f (pos + 1) (by omega)
    · rw [if_neg hp, okFrom, dif_neg hp]; rfl
theorem name_ref (s : ByteArray) : nameB s = nameR s := by
  unfold nameB nameR idxFunc
  rw [names_one s s.size 0 (by omega)]
theorem good_ref (t p c : ByteArray) : goodB t p c = goodR t p c := by
  unfold goodB goodR strE
  rw [name_ref, name_ref]
  have : (!p.toList.isEmpty) = decide (1 ≤ p.size) := by
    rw [Bool.eq_iff_iff]; simp only [Bool.not_eq_true', decide_eq_true_eq]
    constructor
    · intro h; rcases Nat.eq_zero_or_pos p.size with h0 | h0
      · rw [toList_nil h0] at h; simp at h
      · exact h0
    · intro h; have := toList_ne (s := p) h; simpa using this
  rw [this]

/-! a key's text -/
def g1 (b : UInt8) : List UInt8 := if b = 47 then [37, 50, 102] else if b = 37 then [37, 50, 53] else [b]
theorem maskL_cons (b : UInt8) (l : List UInt8) : maskL (b :: l) = g1 b ++ maskL l := by
  unfold maskL g1
  by_cases h : b = 37
  · subst h; simp [sub1]
  · by_cases h2 : b = 47
    · subst h2; simp [sub1]
    · simp [sub1, h, h2]
theorem maskL_no (l : List UInt8) : ∀ b ∈ maskL l, b ≠ 47 := by
  induction l with
  | nil => simp [maskL, sub1]
  | cons b l ih =>
    rw [maskL_cons]
    intro x hx
    rcases List.mem_append.1 hx with h | h
    · unfold g1 at h
      split at h
      · simp at h; rcases h with rfl | rfl | rfl <;> decide
      · split at h
        · simp at h; rcases h with rfl | rfl | rfl <;> decide
        · simp at h; subst h; assumption
    · exact ih x h
theorem maskL_inj : ∀ (a b : List UInt8), maskL a = maskL b → a = b
  | [], [], _ => rfl
  | [], y :: b, h => by
    rw [maskL_cons] at h
    have : (maskL ([] : List UInt8)) = [] := by simp [maskL, sub1]
    rw [this] at h
    unfold g1 at h; split at h
    · simp at h
    · split at h <;> simp at h
  | x :: a, [], h => by
    rw [maskL_cons] at h
    have : (maskL ([] : List UInt8)) = [] := by simp [maskL, sub1]
    rw [this] at h
    unfold g1 at h; split at h
    · simp at h
    · split at h <;> simp at h
  | x :: a, y :: b, h => by
    rw [maskL_cons, maskL_cons] at h
    have key : x = y ∧ maskL a = maskL b := by
      unfold g1 at h
      by_cases x1 : x = 47 <;> by_cases y1 : y = 47 <;> by_cases x2 : x = 37 <;> by_cases y2 : y = 37 <;> simp_all
      all_goals grind
    rw [key.1, maskL_inj a b key.2]

def valD (l : List UInt8) : Nat := l.foldl (fun n b => n * 10 + (b.toNat - 48)) 0
theorem valD_snoc (l : List UInt8) (b : UInt8) : valD (l ++ [b]) = valD l * 10 + (b.toNat - 48) := by simp [valD]
theorem valD_digits (n : Nat) : valD (decDigits n) = n := by
  induction n using Nat.strongRecOn with
  | _ n ih =>
    rw [decDigits]
    split
    · simp [valD, UInt8.toNat_ofNat']; omega
    · rw [valD_snoc, ih (n / 10) (by omega), UInt8.toNat_ofNat']; omega
theorem digits_range (n : Nat) : ∀ b ∈ decDigits n, 48 ≤ b.toNat ∧ b.toNat ≤ 57 := by
  induction n using Nat.strongRecOn with
  | _ n ih =>
    rw [decDigits]
    split
    · intro b hb; rw [List.mem_singleton.1 hb, UInt8.toNat_ofNat']; omega
    · intro b hb
      rcases List.mem_append.1 hb with h | h
      · exact ih (n / 10) (by omega) b h
      · rw [List.mem_singleton.1 h, UInt8.toNat_ofNat']; omega
theorem digits_ne (n : Nat) : decDigits n ≠ [] := by rw [decDigits]; split <;> simp
theorem itoa_inj (a b : Int) (h : itoa a = itoa b) : a = b := by
  unfold itoa at h
  have key : ∀ m n : Nat, 45 :: decDigits m ≠ decDigits n := by
    intro m n e
    have := digits_range n 45 (by rw [← e]; exact List.mem_cons_self)
    revert this; decide
  split at h <;> split at h
  · have := congrArg valD (List.cons.inj h).2; rw [valD_digits, valD_digits] at this; omega
  · exact absurd h (key _ _)
  · exact absurd h.symm (key _ _)
  · have := congrArg valD h; rw [valD_digits, valD_digits] at this; omega
theorem itoa_no (n : Int) : ∀ b ∈ itoa n, b ≠ 47 := by
  unfold itoa
  intro b hb e
  subst e
  split at hb
  · rcases List.mem_cons.1 hb with h | h
    · revert h; decide
    · have := digits_range _ _ h; revert this; decide
  · have := digits_range _ _ hb; revert this; decide
theorem split_at (a b c d : List UInt8) (ha : ∀ x ∈ a, x ≠ 47) (hb : ∀ x ∈ b, x ≠ 47) (h : a ++ 47 :: c = b ++ 47 :: d) : a = b ∧ c = d := by
  induction a generalizing b with
  | nil =>
    cases b with
    | nil => simpa using h
    | cons y b => simp at h; exact absurd h.1.symm (hb y List.mem_cons_self)
  | cons x a ih =>
    cases b with
    | nil => simp at h; exact absurd h.1 (ha x List.mem_cons_self)
    | cons y b =>
      simp only [List.cons_append, List.cons.injEq] at h
      obtain ⟨e1, e2⟩ := ih b (fun z hz => ha z (List.mem_cons_of_mem _ hz)) (fun z hz => hb z (List.mem_cons_of_mem _ hz)) h.2
      exact ⟨by rw [h.1, e1], e2⟩
theorem printL_inj (t p : List UInt8) (r : Int) (c t' p' : List UInt8) (r' : Int) (c' : List UInt8) (h : printL t p r c = printL t' p' r' c') : t = t' ∧ p = p' ∧ r = r' ∧ c = c' := by
  rw [printL_eq, printL_eq] at h
  obtain ⟨h1, h⟩ := split_at _ _ _ _ (maskL_no t) (maskL_no t') h
  obtain ⟨h2, h⟩ := split_at _ _ _ _ (maskL_no p) (maskL_no p') h
  obtain ⟨h3, h⟩ := split_at _ _ _ _ (itoa_no r) (itoa_no r') h
  exact ⟨maskL_inj _ _ h1, maskL_inj _ _ h2, itoa_inj _ _ h3, maskL_inj _ _ h⟩
end Go.Proofs.YtkmcjainbhmbdaaDoor
