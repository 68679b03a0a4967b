/- Plain laws of stable sorting: what one stable order is, what swaps, rotations and merges keep. They speak of no program; no condition. -/
set_option linter.unusedVariables false
set_option linter.unusedSimpArgs false
namespace Go.Proofs.YtmjeifbadjdnfaaDoor

/-- 'less' is a strict weak order. -/
structure LtOk {α : Type} (lt : α → α → Bool) : Prop where
  irr : ∀ x, lt x x = false
  tr : ∀ x y z, lt x y = true → lt y z = true → lt x z = true
  ntr : ∀ x y z, lt x y = false → lt y z = false → lt x z = false
section
variable {α : Type} {lt : α → α → Bool}
theorem LtOk.asym (h : LtOk lt) {x y : α} (k : lt x y = true) : lt y x = false := by
  cases e : lt y x
  · rfl
  · have := h.tr x y x k e
    rw [h.irr] at this; cases this
/-- x < y, y <= z : x < z -/
theorem LtOk.lt_le (h : LtOk lt) {x y z : α} (h1 : lt x y = true) (h2 : lt z y = false) : lt x z = true := by
  cases e : lt x z
  · have := h.ntr x z y e h2
    rw [h1] at this; cases this
  · rfl
theorem LtOk.le_lt (h : LtOk lt) {x y z : α} (h1 : lt y x = false) (h2 : lt y z = true) : lt x z = true := by
  cases e : lt x z
  · have := h.ntr y x z h1 e
    rw [h2] at this; cases this
  · rfl
/-- x <= y, y <= z : x <= z -/
theorem LtOk.le_le (h : LtOk lt) {x y z : α} (h1 : lt y x = false) (h2 : lt z y = false) : lt z x = false := h.ntr z y x h2 h1

def eqv (lt : α → α → Bool) (x y : α) : Bool := !lt x y && !lt y x
theorem eqv_iff (lt : α → α → Bool) (x y : α) : eqv lt x y = true ↔ lt x y = false ∧ lt y x = false := by simp [eqv]
theorem eqv_self (h : LtOk lt) (x : α) : eqv lt x x = true := by rw [eqv_iff]; exact ⟨h.irr x, h.irr x⟩
/-- Sorted. -/
def Srt (lt : α → α → Bool) (l : List α) : Prop := l.Pairwise fun a b => lt b a = false
/-- The same elements, and those that are alike in the same order. -/
structure Stb (lt : α → α → Bool) (l m : List α) : Prop where
  perm : l.Perm m
  same : ∀ x, l.filter (eqv lt x) = m.filter (eqv lt x)
theorem Stb.refl (lt : α → α → Bool) (l : List α) : Stb lt l l := ⟨List.Perm.refl _, fun _ => rfl⟩
theorem Stb.trans {l m n : List α} (h : Stb lt l m) (k : Stb lt m n) : Stb lt l n := ⟨h.perm.trans k.perm, fun x => (h.same x).trans (k.same x)⟩
theorem Stb.app {l m l' m' : List α} (h : Stb lt l m) (k : Stb lt l' m') : Stb lt (l ++ l') (m ++ m') :=
  ⟨h.perm.append k.perm, fun x => by rw [List.filter_append, List.filter_append, h.same, k.same]⟩
theorem Stb.len {l m : List α} (h : Stb lt l m) : l.length = m.length := h.perm.length_eq
theorem stb_swap (h : LtOk lt) (X Y : List α) (hxy : ∀ x ∈ X, ∀ y ∈ Y, lt y x = true) : Stb lt (X ++ Y) (Y ++ X) := by
  refine ⟨List.perm_append_comm, fun z => ?_⟩
  rw [List.filter_append, List.filter_append]
  by_cases hx : X.filter (eqv lt z) = []
  · rw [hx, List.nil_append, List.append_nil]
  · by_cases hy : Y.filter (eqv lt z) = []
    · rw [hy, List.nil_append, List.append_nil]
    · obtain ⟨x, hx⟩ := List.exists_mem_of_ne_nil _ hx
      obtain ⟨y, hy⟩ := List.exists_mem_of_ne_nil _ hy
      rw [List.mem_filter, eqv_iff] at hx hy
      have h1 := hxy x hx.1 y hy.1
      have h2 := h.ntr y z x hy.2.2 hx.2.1
      rw [h1] at h2; cases h2
theorem stb_one (h : LtOk lt) (x y : α) (hxy : lt y x = true) : Stb lt [x, y] [y, x] := stb_swap h [x] [y] (by simpa using hxy)
theorem Stb.mid {l m : List α} (P S : List α) (h : Stb lt l m) : Stb lt (P ++ l ++ S) (P ++ m ++ S) := ((Stb.refl lt P).app h).app (Stb.refl lt S)
theorem stb_unique (h : LtOk lt) : ∀ (l m : List α), Srt lt l → Srt lt m → Stb lt l m → l = m
  | [], m, _, _, hs => by
    have := hs.perm.length_eq
    exact (List.eq_nil_of_length_eq_zero this.symm).symm
  | a :: l, [], _, _, hs => by have := hs.perm.length_eq; simp at this
  | a :: l, b :: m, hl, hm, hs => by
    obtain ⟨hl1, hl2⟩ := List.pairwise_cons.1 hl
    obtain ⟨hm1, hm2⟩ := List.pairwise_cons.1 hm
    have hab : lt b a = false := by
      rcases List.mem_cons.1 (hs.perm.mem_iff.2 (List.mem_cons_self (a := b) (l := m))) with rfl | hb
      · exact h.irr _
      · exact hl1 b hb
    have hba : lt a b = false := by
      rcases List.mem_cons.1 (hs.perm.mem_iff.1 (List.mem_cons_self (a := a) (l := l))) with rfl | ha
      · exact h.irr _
      · exact hm1 a ha
    have he := hs.same a
    rw [List.filter_cons_of_pos (eqv_self h a), List.filter_cons_of_pos ((eqv_iff lt a b).2 ⟨hba, hab⟩)] at he
    injection he with e1 e2
    subst e1
    have ht : Stb lt l m := by
      refine ⟨(List.perm_cons a).1 hs.perm, fun x => ?_⟩
      have := hs.same x
      by_cases hx : eqv lt x a = true
      · rw [List.filter_cons_of_pos hx, List.filter_cons_of_pos hx] at this
        injection this
      · rw [List.filter_cons_of_neg hx, List.filter_cons_of_neg hx] at this
        exact this
    rw [stb_unique h l m hl2 hm2 ht]
theorem Srt.app {l m : List α} (h : Srt lt l) (k : Srt lt m) (hlm : ∀ x ∈ l, ∀ y ∈ m, lt y x = false) : Srt lt (l ++ m) := List.pairwise_append.2 ⟨h, k, hlm⟩
theorem Srt.left {l m : List α} (h : Srt lt (l ++ m)) : Srt lt l := (List.pairwise_append.1 h).1
theorem Srt.right {l m : List α} (h : Srt lt (l ++ m)) : Srt lt m := (List.pairwise_append.1 h).2.1
theorem Srt.cross {l m : List α} (h : Srt lt (l ++ m)) : ∀ x ∈ l, ∀ y ∈ m, lt y x = false := (List.pairwise_append.1 h).2.2
theorem Srt.get {l : List α} (h : Srt lt l) (i j : Nat) (hij : i ≤ j) (hj : j < l.length) (ho : LtOk lt) : lt l[j] (l[i]'(by omega)) = false := by
  rcases Nat.lt_or_ge i j with h1 | h1
  · exact List.pairwise_iff_getElem.1 h i j (by omega) hj h1
  · have : i = j := by omega
    subst this; exact ho.irr _
/-- What a merge of A1 A2 and B1 B2 is, when B1 is less than A2, and A1 not behind B2. -/
theorem merge_parts (h : LtOk lt) {A1 A2 B1 B2 Z1 Z2 : List α} (hA : Srt lt (A1 ++ A2)) (hB : Srt lt (B1 ++ B2)) (hlt : ∀ x ∈ A2, ∀ y ∈ B1, lt y x = true) (hle : ∀ x ∈ A1, ∀ y ∈ B2, lt y x = false)
    (s1 : Srt lt Z1) (s2 : Srt lt Z2) (t1 : Stb lt (A1 ++ B1) Z1) (t2 : Stb lt (A2 ++ B2) Z2) : Srt lt (Z1 ++ Z2) ∧ Stb lt ((A1 ++ A2) ++ (B1 ++ B2)) (Z1 ++ Z2) := by
  refine ⟨s1.app s2 fun x hx y hy => ?_, ?_⟩
  · rw [← t1.perm.mem_iff, List.mem_append] at hx
    rw [← t2.perm.mem_iff, List.mem_append] at hy
    rcases hx with hx | hx <;> rcases hy with hy | hy
    · exact hA.cross x hx y hy
    · exact hle x hx y hy
    · exact h.asym (hlt y hy x hx)
    · exact hB.cross x hx y hy
  · have e : (A1 ++ A2) ++ (B1 ++ B2) = A1 ++ (A2 ++ B1) ++ B2 := by simp
    have e2 : A1 ++ (B1 ++ A2) ++ B2 = (A1 ++ B1) ++ (A2 ++ B2) := by simp
    have := (stb_swap h A2 B1 hlt).mid A1 B2
    rw [← e, e2] at this
    exact this.trans (t1.app t2)
/-- One element is laid into a sorted list, ahead of what is not less. -/
theorem merge_one_left (h : LtOk lt) {x : α} {Y1 Y2 : List α} (hY : Srt lt (Y1 ++ Y2)) (h1 : ∀ y ∈ Y1, lt y x = true) (h2 : ∀ y ∈ Y2, lt y x = false) : Srt lt (Y1 ++ x :: Y2) ∧ Stb lt (x :: (Y1 ++ Y2)) (Y1 ++ x :: Y2) := by
  refine ⟨hY.left.app (List.pairwise_cons.2 ⟨h2, hY.right⟩) fun a ha b hb => ?_, ?_⟩
  · rcases List.mem_cons.1 hb with rfl | hb
    · exact h.asym (h1 a ha)
    · exact hY.cross a ha b hb
  · have := (stb_swap h [x] Y1 (by simpa using h1)).app (Stb.refl lt Y2)
    simpa using this
theorem merge_one_right (h : LtOk lt) {y : α} {X1 X2 : List α} (hX : Srt lt (X1 ++ X2)) (h1 : ∀ x ∈ X1, lt y x = false) (h2 : ∀ x ∈ X2, lt y x = true) : Srt lt (X1 ++ y :: X2) ∧ Stb lt (X1 ++ X2 ++ [y]) (X1 ++ y :: X2) := by
  refine ⟨hX.left.app (List.pairwise_cons.2 ⟨fun x hx => h.asym (h2 x hx), hX.right⟩) fun a ha b hb => ?_, ?_⟩
  · rcases List.mem_cons.1 hb with rfl | hb
    · exact h1 a ha
    · exact hX.cross a ha b hb
  · have := (Stb.refl lt X1).app (stb_swap h X2 [y] (by simpa using h2))
    simpa using this
theorem Srt.nil (lt : α → α → Bool) : Srt lt ([] : List α) := List.Pairwise.nil
theorem Srt.one (lt : α → α → Bool) (x : α) : Srt lt [x] := List.pairwise_singleton _ x
end
end Go.Proofs.YtmjeifbadjdnfaaDoor
