/- Plain laws on the order of keys: it is an order, and the same as the reference's. No program in sight; no condition. -/
import Derived.Test.YtmjeifbadjdnfaaDoorKr
import Derived.Sort.Walk0
set_option linter.unusedVariables false
set_option linter.unusedSimpArgs false
namespace Go.Proofs.YtmjeifbadjdnfaaDoor

theorem cmpS_eq (a b : ByteArray) : cmpS a b = if a.toList < b.toList then -1 else if a.toList = b.toList then 0 else 1 := by
  unfold cmpS
  rw [bytesLess_eq]
  by_cases h : a.toList < b.toList
  · simp [h]
  · by_cases h2 : a.toList = b.toList
    · simp [h2]
    · simp [h, h2]
theorem lt_irr (l : List UInt8) : ¬ l < l := List.lt_irrefl l
theorem cmpS_three (a b : ByteArray) : cmpS a b = -1 ∨ cmpS a b = 0 ∨ cmpS a b = 1 := by
  rw [cmpS_eq]; split
  · exact .inl rfl
  · split
    · exact .inr (.inl rfl)
    · exact .inr (.inr rfl)
theorem cmpS_neg (a b : ByteArray) : cmpS b a = -cmpS a b := by
  rw [cmpS_eq, cmpS_eq]
  by_cases h : a.toList < b.toList
  · have h1 : ¬ b.toList < a.toList := fun h2 => List.lt_asymm h h2
    have h2 : ¬ b.toList = a.toList := fun e => lt_irr a.toList (by rw [e] at h; exact h)
    rw [if_pos h, if_neg h1, if_neg h2]; rfl
  · by_cases h2 : a.toList = b.toList
    · rw [h2, if_neg (lt_irr _)]; simp
    · have h3 : b.toList < a.toList := by
        rcases List.le_iff_lt_or_eq.1 (List.not_lt.1 h) with h4 | h4
        · exact h4
        · exact absurd h4.symm h2
      rw [if_pos h3, if_neg h, if_neg h2]
theorem toList_inj {a b : ByteArray} (h : a.toList = b.toList) : a = b := by
  rw [ByteArray.toList_eq, ByteArray.toList_eq] at h
  exact ByteArray.ext (Array.toList_inj.1 h)
theorem cmpS_zero (a b : ByteArray) : cmpS a b = 0 ↔ a.toList = b.toList := by
  rw [cmpS_eq]
  constructor
  · intro h; split at h
    · cases h
    · split at h
      · assumption
      · cases h
  · intro h; rw [h]; simp
theorem cmpS_trans (a b c : ByteArray) (h1 : cmpS a b ≤ 0) (h2 : cmpS b c ≤ 0) : cmpS a c ≤ 0 ∧ (cmpS a c = 0 → cmpS a b = 0 ∧ cmpS b c = 0) := by
  have e1 : a.toList ≤ b.toList := by
    intro h; have := cmpS_neg b a; rw [cmpS_eq b a, if_pos h] at this; omega
  have e2 : b.toList ≤ c.toList := by
    intro h; have := cmpS_neg c b; rw [cmpS_eq c b, if_pos h] at this; omega
  have e3 : a.toList ≤ c.toList := List.le_trans e1 e2
  refine ⟨?_, fun h => ?_⟩
  · rw [cmpS_eq]; split
    · omega
    · rename_i h; split
      · omega
      · rename_i h'; rcases List.le_iff_lt_or_eq.1 e3 with h4 | h4
        · exact absurd h4 h
        · exact absurd h4 h'
  · have h := (cmpS_zero a c).1 h
    have e4 : b.toList ≤ a.toList := by rw [h]; exact e2
    have e5 : a.toList = b.toList := List.le_antisymm e1 e4
    exact ⟨(cmpS_zero a b).2 e5, (cmpS_zero b c).2 (e5.symm.trans h)⟩
theorem cmpI_three (a b : Int) : (cmpI a b = -1 ∧ a < b) ∨ (cmpI a b = 0 ∧ a = b) ∨ (cmpI a b = 1 ∧ b < a) := by
  unfold cmpI; split
  · exact .inl ⟨rfl, by assumption⟩
  · split
    · exact .inr (.inr ⟨rfl, by assumption⟩)
    · exact .inr (.inl ⟨rfl, by omega⟩)
theorem firstOf4 (a b c d : Int) : firstOf [a, b, c, d] = if a ≠ 0 then a else if b ≠ 0 then b else if c ≠ 0 then c else d := by
  unfold firstOf
  by_cases h1 : a = 0 <;> by_cases h2 : b = 0 <;> by_cases h3 : c = 0 <;> by_cases h4 : d = 0 <;> simp [nz, h1, h2, h3, h4]

/-- the order of keys -/
def kcmp (at_ ap : ByteArray) (ar : Int) (ac bt bp : ByteArray) (br : Int) (bc : ByteArray) : Int := firstOf [cmpS at_ bt, cmpS ap bp, cmpI ar br, cmpS ac bc]
theorem kcmp_ref (at_ ap : ByteArray) (ar : Int) (ac bt bp : ByteArray) (br : Int) (bc : ByteArray) : cmpR at_ ap ac bt bp bc ar br = kcmp at_ ap ar ac bt bp br bc := by
  unfold kcmp cmpR
  rw [firstOf4]
  have z1 := cmpS_zero at_ bt
  have z2 := cmpS_zero ap bp
  rcases cmpI_three ar br with ⟨e, h⟩ | ⟨e, h⟩ | ⟨e, h⟩ <;> by_cases h1 : at_.toList = bt.toList <;> by_cases h2 : ap.toList = bp.toList <;> simp [h1, h2, e] at * <;> simp_all <;> grind
theorem kcmp_neg (at_ ap : ByteArray) (ar : Int) (ac bt bp : ByteArray) (br : Int) (bc : ByteArray) : kcmp bt bp br bc at_ ap ar ac = -kcmp at_ ap ar ac bt bp br bc := by
  unfold kcmp
  rw [firstOf4, firstOf4, cmpS_neg at_ bt, cmpS_neg ap bp, cmpS_neg ac bc]
  have h1 := cmpI_three ar br; have h2 := cmpI_three br ar
  grind
theorem kcmp_zero (at_ ap : ByteArray) (ar : Int) (ac bt bp : ByteArray) (br : Int) (bc : ByteArray) : kcmp at_ ap ar ac bt bp br bc = 0 ↔ (at_.toList = bt.toList ∧ ap.toList = bp.toList ∧ ar = br ∧ ac.toList = bc.toList) := by
  unfold kcmp
  rw [firstOf4]
  have z1 := cmpS_zero at_ bt; have z2 := cmpS_zero ap bp; have z3 := cmpS_zero ac bc; have z4 := cmpI_three ar br
  grind
theorem kcmp_three (at_ ap : ByteArray) (ar : Int) (ac bt bp : ByteArray) (br : Int) (bc : ByteArray) : kcmp at_ ap ar ac bt bp br bc = -1 ∨ kcmp at_ ap ar ac bt bp br bc = 0 ∨ kcmp at_ ap ar ac bt bp br bc = 1 := by
  unfold kcmp
  rw [firstOf4]
  have z1 := cmpS_three at_ bt; have z2 := cmpS_three ap bp; have z3 := cmpS_three ac bc; have z4 := cmpI_three ar br
  grind
theorem kcmp_trans (at_ ap : ByteArray) (ar : Int) (ac bt bp : ByteArray) (br : Int) (bc ct cp : ByteArray) (cr : Int) (cc : ByteArray)
    (h1 : kcmp at_ ap ar ac bt bp br bc ≤ 0) (h2 : kcmp bt bp br bc ct cp cr cc ≤ 0) : kcmp at_ ap ar ac ct cp cr cc ≤ 0 := by
  unfold kcmp at *
  rw [firstOf4] at *
  have t1 := cmpS_trans at_ bt ct; have t2 := cmpS_trans ap bp cp; have t3 := cmpS_trans ac bc cc
  have a1 := cmpI_three ar br; have a2 := cmpI_three br cr; have a3 := cmpI_three ar cr
  generalize cmpS at_ bt = x1 at *; generalize cmpS bt ct = x2 at *; generalize cmpS at_ ct = x3 at *
  generalize cmpS ap bp = y1 at *; generalize cmpS bp cp = y2 at *; generalize cmpS ap cp = y3 at *
  generalize cmpS ac bc = z1 at *; generalize cmpS bc cc = z2 at *; generalize cmpS ac cc = z3 at *
  generalize cmpI ar br = w1 at *; generalize cmpI br cr = w2 at *; generalize cmpI ar cr = w3 at *
  grind (splits := 40)
theorem kcmp_between (t p : ByteArray) (ar : Int) (ac : ByteArray) (br : Int) (bc ct cp : ByteArray) (cr : Int) (cc : ByteArray)
    (h1 : kcmp t p ar ac ct cp cr cc ≤ 0) (h2 : kcmp ct cp cr cc t p br bc ≤ 0) : ct.toList = t.toList ∧ cp.toList = p.toList ∧ ar ≤ cr ∧ cr ≤ br := by
  unfold kcmp at *
  rw [firstOf4] at *
  have z1 := cmpS_zero t ct; have z2 := cmpS_zero p cp
  rw [cmpS_neg t ct, cmpS_neg p cp] at h2
  have a1 := cmpI_three ar cr; have a2 := cmpI_three cr br
  grind (splits := 40)
/-- the row's mark -/
theorem kcmp_mark (t p : ByteArray) (r : Int) (c : ByteArray) : kcmp t p r ⟨#[]⟩ t p r c ≤ 0 ∧ (kcmp t p r ⟨#[]⟩ t p r c = 0 ↔ c.toList = []) := by
  have h0 := kcmp_zero t p r ⟨#[]⟩ t p r c
  have e : (⟨#[]⟩ : ByteArray).toList = [] := by rw [ByteArray.toList_eq]
  rw [e] at h0
  constructor
  · unfold kcmp; rw [firstOf4]
    have z1 := (cmpS_zero t t).2 rfl; have z2 := (cmpS_zero p p).2 rfl; have z3 : cmpI r r = 0 := by unfold cmpI; simp
    rw [z1, z2, z3]
    simp only [ne_eq, not_true_eq_false, if_false]
    rw [cmpS_eq, e]
    cases h : c.toList <;> simp
  · rw [h0]; simp [eq_comm]
theorem kcmp_rows (t p : ByteArray) (ar : Int) (ac : ByteArray) (br : Int) (bc : ByteArray) : (ar < br → kcmp t p ar ac t p br bc < 0) := by
  intro h
  unfold kcmp; rw [firstOf4]
  have z1 := (cmpS_zero t t).2 rfl; have z2 := (cmpS_zero p p).2 rfl
  have z3 : cmpI ar br = -1 := by unfold cmpI; rw [if_pos h]
  rw [z1, z2, z3]; simp
end Go.Proofs.YtmjeifbadjdnfaaDoor
