/- Plain laws of stable sorting: what one stable order is, what swaps, rotations and merges keep. They speak of no program; no condition. Plain laws of the library's stable sort: blocks that change places, a rotation, a merge in place, blocks that are sorted. They speak of no program; no condition. -/
import Derived.Sort.LotA
section
set_option linter.unusedVariables false
set_option linter.unusedSimpArgs false
namespace Go.Proofs.Ytefndmjimmbhnaa

/-- 'less' is a strict weak order. -/
structure LtOk {α : Type} (lt : α → α → Bool) : Prop where
  irr : ∀ x, lt x x = false
  tr : ∀ x y z, lt x y = true → lt y z = true → lt x z = true
  ntr : ∀ x y z, lt x y = false → lt y z = false → lt x z = false
section
variable {α : Type} {lt : α → α → Bool}
theorem LtOk.asym (h : LtOk lt) {x y : α} (k : lt x y = true) : lt y x = false := by
  cases e : lt y x
  · rfl
  · have := h.tr x y x k e
    rw [h.irr] at this; cases this
/-- x < y, y <= z : x < z -/
theorem LtOk.lt_le (h : LtOk lt) {x y z : α} (h1 : lt x y = true) (h2 : lt z y = false) : lt x z = true := by
  cases e : lt x z
  · have := h.ntr x z y e h2
    rw [h1] at this; cases this
  · rfl
theorem LtOk.le_lt (h : LtOk lt) {x y z : α} (h1 : lt y x = false) (h2 : lt y z = true) : lt x z = true := by
  cases e : lt x z
  · have := h.ntr y x z h1 e
    rw [h2] at this; cases this
  · rfl
/-- x <= y, y <= z : x <= z -/
theorem LtOk.le_le (h : LtOk lt) {x y z : α} (h1 : lt y x = false) (h2 : lt z y = false) : lt z x = false := h.ntr z y x h2 h1

def eqv (lt : α → α → Bool) (x y : α) : Bool := !lt x y && !lt y x
theorem eqv_iff (lt : α → α → Bool) (x y : α) : eqv lt x y = true ↔ lt x y = false ∧ lt y x = false := by simp [eqv]
theorem eqv_self (h : LtOk lt) (x : α) : eqv lt x x = true := by rw [eqv_iff]; exact ⟨h.irr x, h.irr x⟩
/-- Sorted. -/
def Srt (lt : α → α → Bool) (l : List α) : Prop := l.Pairwise fun a b => lt b a = false
/-- The same elements, and those that are alike in the same order. -/
structure Stb (lt : α → α → Bool) (l m : List α) : Prop where
  perm : l.Perm m
  same : ∀ x, l.filter (eqv lt x) = m.filter (eqv lt x)
theorem Stb.refl (lt : α → α → Bool) (l : List α) : Stb lt l l := ⟨List.Perm.refl _, fun _ => rfl⟩
theorem Stb.trans {l m n : List α} (h : Stb lt l m) (k : Stb lt m n) : Stb lt l n := ⟨h.perm.trans k.perm, fun x => (h.same x).trans (k.same x)⟩
theorem Stb.app {l m l' m' : List α} (h : Stb lt l m) (k : Stb lt l' m') : Stb lt (l ++ l') (m ++ m') :=
  ⟨h.perm.append k.perm, fun x => by rw [List.filter_append, List.filter_append, h.same, k.same]⟩
theorem Stb.len {l m : List α} (h : Stb lt l m) : l.length = m.length := h.perm.length_eq
theorem stb_swap (h : LtOk lt) (X Y : List α) (hxy : ∀ x ∈ X, ∀ y ∈ Y, lt y x = true) : Stb lt (X ++ Y) (Y ++ X) := by
  refine ⟨List.perm_append_comm, fun z => ?_⟩
  rw [List.filter_append, List.filter_append]
  by_cases hx : X.filter (eqv lt z) = []
  · rw [hx, List.nil_append, List.append_nil]
  · by_cases hy : Y.filter (eqv lt z) = []
    · rw [hy, List.nil_append, List.append_nil]
    · obtain ⟨x, hx⟩ := List.exists_mem_of_ne_nil _ hx
      obtain ⟨y, hy⟩ := List.exists_mem_of_ne_nil _ hy
      rw [List.mem_filter, eqv_iff] at hx hy
      have h1 := hxy x hx.1 y hy.1
      have h2 := h.ntr y z x hy.2.2 hx.2.1
      rw [h1] at h2; cases h2
theorem stb_one (h : LtOk lt) (x y : α) (hxy : lt y x = true) : Stb lt [x, y] [y, x] := stb_swap h [x] [y] (by simpa using hxy)
theorem Stb.mid {l m : List α} (P S : List α) (h : Stb lt l m) : Stb lt (P ++ l ++ S) (P ++ m ++ S) := ((Stb.refl lt P).app h).app (Stb.refl lt S)
theorem stb_unique (h : LtOk lt) : ∀ (l m : List α), Srt lt l → Srt lt m → Stb lt l m → l = m
  | [], m, _, _, hs => by
    have := hs.perm.length_eq
    exact (List.eq_nil_of_length_eq_zero this.symm).symm
  | a :: l, [], _, _, hs => by have := hs.perm.length_eq; simp at this
  | a :: l, b :: m, hl, hm, hs => by
    obtain ⟨hl1, hl2⟩ := List.pairwise_cons.1 hl
    obtain ⟨hm1, hm2⟩ := List.pairwise_cons.1 hm
    have hab : lt b a = false := by
      rcases List.mem_cons.1 (hs.perm.mem_iff.2 (List.mem_cons_self (a := b) (l := m))) with rfl | hb
      · exact h.irr _
      · exact hl1 b hb
    have hba : lt a b = false := by
      rcases List.mem_cons.1 (hs.perm.mem_iff.1 (List.mem_cons_self (a := a) (l := l))) with rfl | ha
      · exact h.irr _
      · exact hm1 a ha
    have he := hs.same a
    rw [List.filter_cons_of_pos (eqv_self h a), List.filter_cons_of_pos ((eqv_iff lt a b).2 ⟨hba, hab⟩)] at he
    injection he with e1 e2
    subst e1
    have ht : Stb lt l m := by
      refine ⟨(List.perm_cons a).1 hs.perm, fun x => ?_⟩
      have := hs.same x
      by_cases hx : eqv lt x a = true
      · rw [List.filter_cons_of_pos hx, List.filter_cons_of_pos hx] at this
        injection this
      · rw [List.filter_cons_of_neg hx, List.filter_cons_of_neg hx] at this
        exact this
    rw [stb_unique h l m hl2 hm2 ht]
theorem Srt.app {l m : List α} (h : Srt lt l) (k : Srt lt m) (hlm : ∀ x ∈ l, ∀ y ∈ m, lt y x = false) : Srt lt (l ++ m) := List.pairwise_append.2 ⟨h, k, hlm⟩
theorem Srt.left {l m : List α} (h : Srt lt (l ++ m)) : Srt lt l := (List.pairwise_append.1 h).1
theorem Srt.right {l m : List α} (h : Srt lt (l ++ m)) : Srt lt m := (List.pairwise_append.1 h).2.1
theorem Srt.cross {l m : List α} (h : Srt lt (l ++ m)) : ∀ x ∈ l, ∀ y ∈ m, lt y x = false := (List.pairwise_append.1 h).2.2
theorem Srt.get {l : List α} (h : Srt lt l) (i j : Nat) (hij : i ≤ j) (hj : j < l.length) (ho : LtOk lt) : lt l[j] (l[i]'(by omega)) = false := by
  rcases Nat.lt_or_ge i j with h1 | h1
  · exact List.pairwise_iff_getElem.1 h i j (by omega) hj h1
  · have : i = j := by omega
    subst this; exact ho.irr _
/-- What a merge of A1 A2 and B1 B2 is, when B1 is less than A2, and A1 not behind B2. -/
theorem merge_parts (h : LtOk lt) {A1 A2 B1 B2 Z1 Z2 : List α} (hA : Srt lt (A1 ++ A2)) (hB : Srt lt (B1 ++ B2)) (hlt : ∀ x ∈ A2, ∀ y ∈ B1, lt y x = true) (hle : ∀ x ∈ A1, ∀ y ∈ B2, lt y x = false)
    (s1 : Srt lt Z1) (s2 : Srt lt Z2) (t1 : Stb lt (A1 ++ B1) Z1) (t2 : Stb lt (A2 ++ B2) Z2) : Srt lt (Z1 ++ Z2) ∧ Stb lt ((A1 ++ A2) ++ (B1 ++ B2)) (Z1 ++ Z2) := by
  refine ⟨s1.app s2 fun x hx y hy => ?_, ?_⟩
  · rw [← t1.perm.mem_iff, List.mem_append] at hx
    rw [← t2.perm.mem_iff, List.mem_append] at hy
    rcases hx with hx | hx <;> rcases hy with hy | hy
    · exact hA.cross x hx y hy
    · exact hle x hx y hy
    · exact h.asym (hlt y hy x hx)
    · exact hB.cross x hx y hy
  · have e : (A1 ++ A2) ++ (B1 ++ B2) = A1 ++ (A2 ++ B1) ++ B2 := by simp
    have e2 : A1 ++ (B1 ++ A2) ++ B2 = (A1 ++ B1) ++ (A2 ++ B2) := by simp
    have := (stb_swap h A2 B1 hlt).mid A1 B2
    rw [← e, e2] at this
    exact this.trans (t1.app t2)
/-- One element is laid into a sorted list, ahead of what is not less. -/
theorem merge_one_left (h : LtOk lt) {x : α} {Y1 Y2 : List α} (hY : Srt lt (Y1 ++ Y2)) (h1 : ∀ y ∈ Y1, lt y x = true) (h2 : ∀ y ∈ Y2, lt y x = false) : Srt lt (Y1 ++ x :: Y2) ∧ Stb lt (x :: (Y1 ++ Y2)) (Y1 ++ x :: Y2) := by
  refine ⟨hY.left.app (List.pairwise_cons.2 ⟨h2, hY.right⟩) fun a ha b hb => ?_, ?_⟩
  · rcases List.mem_cons.1 hb with rfl | hb
    · exact h.asym (h1 a ha)
    · exact hY.cross a ha b hb
  · have := (stb_swap h [x] Y1 (by simpa using h1)).app (Stb.refl lt Y2)
    simpa using this
theorem merge_one_right (h : LtOk lt) {y : α} {X1 X2 : List α} (hX : Srt lt (X1 ++ X2)) (h1 : ∀ x ∈ X1, lt y x = false) (h2 : ∀ x ∈ X2, lt y x = true) : Srt lt (X1 ++ y :: X2) ∧ Stb lt (X1 ++ X2 ++ [y]) (X1 ++ y :: X2) := by
  refine ⟨hX.left.app (List.pairwise_cons.2 ⟨fun x hx => h.asym (h2 x hx), hX.right⟩) fun a ha b hb => ?_, ?_⟩
  · rcases List.mem_cons.1 hb with rfl | hb
    · exact h1 a ha
    · exact hX.cross a ha b hb
  · have := (Stb.refl lt X1).app (stb_swap h X2 [y] (by simpa using h2))
    simpa using this
theorem Srt.nil (lt : α → α → Bool) : Srt lt ([] : List α) := List.Pairwise.nil
theorem Srt.one (lt : α → α → Bool) (x : α) : Srt lt [x] := List.pairwise_singleton _ x
end
end Go.Proofs.Ytefndmjimmbhnaa
end

section
set_option linter.unusedVariables false
set_option linter.unusedSimpArgs false
namespace Go.Proofs.Ytefndmjimmbhnaa
section
variable {α : Type} {lt : α → α → Bool}

def SrtOn (lt : α → α → Bool) (l : List α) (a b : Nat) : Prop := ∀ i j x y, a ≤ i → i ≤ j → j < b → l[i]? = some x → l[j]? = some y → lt y x = false
theorem SrtOn.sub {l : List α} {a b a' b' : Nat} (h : SrtOn lt l a b) (ha : a ≤ a') (hb : b' ≤ b) : SrtOn lt l a' b' := fun i j x y h1 h2 h3 => h i j x y (by omega) h2 (by omega)
theorem SrtOn.same {l l' : List α} {a b : Nat} (h : SrtOn lt l a b) (he : ∀ k, a ≤ k → k < b → l'[k]? = l[k]?) : SrtOn lt l' a b := fun i j x y h1 h2 h3 hx hy =>
  h i j x y h1 h2 h3 (by rw [← he i h1 (by omega)]; exact hx) (by rw [← he j (by omega) h3]; exact hy)
theorem SrtOn.all {l : List α} (h : SrtOn lt l 0 l.length) : Srt lt l := List.pairwise_iff_getElem.2 fun i j hi hj hij => h i j _ _ (by omega) (by omega) hj (List.getElem?_eq_getElem hi) (List.getElem?_eq_getElem hj)
theorem SrtOn.one (ho : LtOk lt) (l : List α) (a : Nat) : SrtOn lt l a (a + 1) := fun i j x y h1 h2 h3 hx hy => by
  obtain rfl : i = j := by omega
  rw [hx] at hy; injection hy with e; subst e; exact ho.irr _
theorem set2_get {m : List α} {i j : Nat} {x y : α} (hi : i < m.length) (hj : j < m.length) (k : Nat) : ((m.set i y).set j x)[k]? = if k = j then some x else if k = i then some y else m[k]? := by
  rw [List.getElem?_set, List.getElem?_set, List.length_set]
  by_cases h1 : k = j
  · rw [if_pos h1.symm, if_pos hj, if_pos h1]
  · rw [if_neg (fun e => h1 e.symm), if_neg h1]
    by_cases h2 : k = i
    · rw [if_pos h2.symm, if_pos hi, if_pos h2]
    · rw [if_neg (fun e => h2 e.symm), if_neg h2]
theorem lt_of_some {l : List α} {k : Nat} {x : α} (h : l[k]? = some x) : k < l.length := (List.getElem?_eq_some_iff.1 h).1
/-- Neighbours that stand wrong change places. -/
theorem stb_adj (ho : LtOk lt) {l : List α} {k : Nat} {x y : α} (hx : l[k]? = some x) (hy : l[k + 1]? = some y) (h : lt y x = true) : Stb lt l ((l.set k y).set (k + 1) x) := by
  have hk := lt_of_some hy
  have e : l = l.take k ++ [x, y] ++ l.drop (k + 2) := by
    apply List.ext_getElem?; intro t
    rw [List.append_assoc, List.getElem?_append, List.getElem?_append, List.length_take]
    rcases Nat.lt_or_ge t k with h1 | h1
    · rw [if_pos (by omega), List.getElem?_take, if_pos h1]
    · rw [if_neg (by omega), show min k l.length = k by omega]
      rcases Nat.lt_or_ge t (k + 2) with h2 | h2
      · rw [if_pos (by simp; omega)]
        rcases (by omega : t = k ∨ t = k + 1) with rfl | rfl
        · simp [hx]
        · simp [hy]
      · rw [if_neg (by simp; omega), List.getElem?_drop]; congr 1; simp; omega
  have e2 : (l.set k y).set (k + 1) x = l.take k ++ [y, x] ++ l.drop (k + 2) := by
    apply List.ext_getElem?; intro t
    rw [set2_get (by omega) hk, List.append_assoc, List.getElem?_append, List.getElem?_append, List.length_take]
    rcases Nat.lt_or_ge t k with h1 | h1
    · rw [if_neg (by omega), if_neg (by omega), if_pos (by omega), List.getElem?_take, if_pos h1]
    · rw [show min k l.length = k by omega, if_neg (show ¬ t < k by omega)]
      rcases Nat.lt_or_ge t (k + 2) with h2 | h2
      · rw [if_pos (show t - k < [y, x].length by simp; omega)]
        rcases (by omega : t = k ∨ t = k + 1) with rfl | rfl
        · simp
        · simp
      · rw [if_neg (by omega), if_neg (by omega), if_neg (by simp; omega), List.getElem?_drop]; congr 1; simp; omega
  rw [e2]
  conv => lhs; rw [e]
  exact (stb_one ho x y h).mid _ _

/-! parts that change places -/
structure SwapR (a b n : Nat) (l l' : List α) : Prop where
  len : l'.length = l.length
  get : ∀ k, l'[k]? = if a ≤ k ∧ k < a + n then l[b + (k - a)]? else if b ≤ k ∧ k < b + n then l[a + (k - b)]? else l[k]?
theorem SwapR.zero (a b : Nat) (l : List α) : SwapR a b 0 l l := ⟨rfl, fun k => by rw [if_neg (by omega), if_neg (by omega)]⟩
theorem SwapR.step {a b i : Nat} {l m : List α} {x y : α} (h : SwapR a b i l m) (hab : a + i < b) (hx : m[a + i]? = some x) (hy : m[b + i]? = some y) : SwapR a b (i + 1) l ((m.set (a + i) y).set (b + i) x) := by
  have hx' := hx; have hy' := hy
  rw [h.get, if_neg (by omega), if_neg (by omega)] at hx'
  rw [h.get, if_neg (by omega), if_neg (by omega)] at hy'
  refine ⟨by rw [List.length_set, List.length_set, h.len], fun k => ?_⟩
  rw [set2_get (lt_of_some hx) (lt_of_some hy), h.get]
  by_cases h1 : k = b + i
  · subst h1; rw [if_pos rfl, if_neg (by omega), if_pos (by omega), ← hx']; congr 1; omega
  · rw [if_neg h1]
    by_cases h2 : k = a + i
    · subst h2; rw [if_pos rfl, if_pos (by omega), ← hy']; congr 1; omega
    · rw [if_neg h2]
      by_cases h3 : a ≤ k ∧ k < a + i
      · rw [if_pos h3, if_pos (by omega)]
      · rw [if_neg h3, if_neg (show ¬ (a ≤ k ∧ k < a + (i + 1)) by omega)]
        by_cases h4 : b ≤ k ∧ k < b + i
        · rw [if_pos h4, if_pos (by omega)]
        · rw [if_neg h4, if_neg (by omega)]
theorem SwapR.parts {P X M Y S l' : List α} (hxy : X.length = Y.length) (h : SwapR P.length (P.length + X.length + M.length) X.length (P ++ X ++ M ++ Y ++ S) l') : l' = P ++ Y ++ M ++ X ++ S := by
  apply List.ext_getElem?; intro k
  rw [h.get]
  simp only [List.getElem?_append, List.length_append]
  by_cases h1 : k < P.length
  · rw [if_neg (by omega), if_neg (by omega)]; simp only [show k < P.length + X.length + M.length + Y.length by omega, show k < P.length + X.length + M.length by omega, show k < P.length + X.length by omega, h1, show k < P.length + Y.length + M.length + X.length by omega, show k < P.length + Y.length + M.length by omega, show k < P.length + Y.length by omega, if_true]
  · by_cases h2 : k < P.length + X.length
    · rw [if_pos (by omega)]
      rw [if_pos (by omega), if_neg (by omega), if_pos (by omega), if_pos (by omega), if_pos (by omega), if_neg h1]; congr 1; omega
    · by_cases h3 : k < P.length + X.length + M.length
      · rw [if_neg (by omega), if_neg (by omega), if_pos (by omega), if_pos (by omega), if_neg (by omega), if_pos (by omega), if_pos (by omega), if_neg (by omega)]; congr 1; omega
      · by_cases h4 : k < P.length + X.length + M.length + Y.length
        · rw [if_neg (by omega), if_pos (by omega), if_pos (by omega), if_pos (by omega), if_pos (by omega), if_neg (by omega), if_pos (by omega), if_neg (by omega)]; congr 1; omega
        · rw [if_neg (by omega), if_neg (by omega), if_neg (by omega), if_neg (by omega)]; congr 1; omega

/-! a rotation -/
def rotL (a m b : Nat) (l : List α) : List α := l.take a ++ (l.drop m).take (b - m) ++ (l.drop a).take (m - a) ++ l.drop b
theorem cut4 (l : List α) {a m b : Nat} (h1 : a ≤ m) (h2 : m ≤ b) (h3 : b ≤ l.length) : l = l.take a ++ (l.drop a).take (m - a) ++ (l.drop m).take (b - m) ++ l.drop b := by
  conv => lhs; rw [← List.take_append_drop b l]
  congr 1
  conv => lhs; rw [← List.take_append_drop m (l.take b)]
  congr 1
  · rw [List.take_take, show min m b = m by omega]
    conv => lhs; rw [← List.take_append_drop a (l.take m)]
    rw [List.take_take, show min a m = a by omega, List.drop_take]
  · rw [List.drop_take]
structure RotSt (m : Nat) (R : List α) (i j : Nat) (cur : List α) : Prop where
  ex : ∃ A X Y B, cur = A ++ X ++ Y ++ B ∧ R = A ++ Y ++ X ++ B ∧ X.length = i ∧ Y.length = j ∧ A.length + i = m
theorem RotSt.start (l : List α) {a m b : Nat} (h1 : a ≤ m) (h2 : m ≤ b) (h3 : b ≤ l.length) : RotSt m (rotL a m b l) (m - a) (b - m) l :=
  ⟨l.take a, (l.drop a).take (m - a), (l.drop m).take (b - m), l.drop b, cut4 l h1 h2 h3, rfl, by simp; omega, by simp; omega, by simp; omega⟩
theorem RotSt.left {m : Nat} {R cur cur' : List α} {i j : Nat} (h : RotSt m R i j cur) (hji : j < i) (hs : SwapR (m - i) m j cur cur') : RotSt m R (i - j) j cur' := by
  obtain ⟨A, X, Y, B, rfl, rfl, rfl, rfl, rfl⟩ := h.ex
  obtain ⟨X1, X2, rfl, h1⟩ : ∃ X1 X2, X = X1 ++ X2 ∧ X1.length = Y.length := ⟨X.take Y.length, X.drop Y.length, (List.take_append_drop _ _).symm, by simp; omega⟩
  have e : cur' = A ++ Y ++ X2 ++ X1 ++ B := by
    refine SwapR.parts h1 ?_
    rw [List.length_append] at hs
    rw [show A.length + (X1.length + X2.length) - (X1.length + X2.length) = A.length by omega] at hs
    have e2 : A ++ (X1 ++ X2) ++ Y ++ B = A ++ X1 ++ X2 ++ Y ++ B := by simp
    rw [e2, ← Nat.add_assoc, ← h1] at hs
    exact hs
  exact ⟨A ++ Y, X2, X1, B, by rw [e], by simp, by simp; omega, h1, by simp; omega⟩
theorem RotSt.right {m : Nat} {R cur cur' : List α} {i j : Nat} (h : RotSt m R i j cur) (hji : i < j) (hs : SwapR (m - i) (m + j - i) i cur cur') : RotSt m R i (j - i) cur' := by
  obtain ⟨A, X, Y, B, rfl, rfl, rfl, rfl, rfl⟩ := h.ex
  obtain ⟨Y1, Y2, rfl, h1⟩ : ∃ Y1 Y2, Y = Y1 ++ Y2 ∧ Y2.length = X.length := ⟨Y.take (Y.length - X.length), Y.drop (Y.length - X.length), (List.take_append_drop _ _).symm, by simp; omega⟩
  have e : cur' = A ++ Y2 ++ Y1 ++ X ++ B := by
    refine SwapR.parts h1.symm ?_
    rw [List.length_append] at hs
    rw [show A.length + X.length - X.length = A.length by omega, show A.length + X.length + (Y1.length + Y2.length) - X.length = A.length + X.length + Y1.length by omega] at hs
    have e2 : A ++ X ++ (Y1 ++ Y2) ++ B = A ++ X ++ Y1 ++ Y2 ++ B := by simp
    rw [e2] at hs
    exact hs
  exact ⟨A, Y2, Y1, X ++ B, by rw [e]; simp, by simp, h1, by simp; omega, by omega⟩
theorem RotSt.done {m : Nat} {R cur cur' : List α} {i : Nat} (h : RotSt m R i i cur) (hs : SwapR (m - i) m i cur cur') : cur' = R := by
  obtain ⟨A, X, Y, B, rfl, rfl, rfl, hy, rfl⟩ := h.ex
  have e : cur' = A ++ Y ++ [] ++ X ++ B := by
    refine SwapR.parts hy.symm ?_
    rw [show A.length + X.length - X.length = A.length by omega] at hs
    have e2 : A ++ X ++ Y ++ B = A ++ X ++ [] ++ Y ++ B := by simp
    rw [e2] at hs
    exact hs
  rw [e]; simp
theorem rotL_len (l : List α) {a m b : Nat} (h1 : a ≤ m) (h2 : m ≤ b) (h3 : b ≤ l.length) : (rotL a m b l).length = l.length := by unfold rotL; simp; omega
theorem rotL_get (l : List α) {a m b : Nat} (h1 : a ≤ m) (h2 : m ≤ b) (h3 : b ≤ l.length) (k : Nat) : (rotL a m b l)[k]? = if a ≤ k ∧ k < a + (b - m) then l[m + (k - a)]? else if a + (b - m) ≤ k ∧ k < b then l[k - (b - m)]? else l[k]? := by
  unfold rotL
  have l1 : (l.take a).length = a := by simp; omega
  have l2 : ((l.drop m).take (b - m)).length = b - m := by simp; omega
  have l3 : ((l.drop a).take (m - a)).length = m - a := by simp; omega
  rw [List.getElem?_append, List.length_append, List.length_append, l1, l2, l3, List.getElem?_append, List.length_append, l1, l2, List.getElem?_append, l1]
  by_cases c1 : k < a
  · rw [if_pos (by omega), if_pos (by omega), if_pos c1, if_neg (by omega), if_neg (by omega), List.getElem?_take, if_pos c1]
  · by_cases c2 : k < a + (b - m)
    · rw [if_pos (by omega), if_pos c2, if_neg c1, if_pos (by omega), List.getElem?_take, if_pos (by omega), List.getElem?_drop]
    · by_cases c3 : k < b
      · rw [if_pos (by omega), if_neg c2, if_neg (by omega), if_pos (by omega), List.getElem?_take, if_pos (by omega), List.getElem?_drop]; congr 1; omega
      · rw [if_neg (by omega), if_neg (by omega), if_neg (by omega), List.getElem?_drop]; congr 1; omega
theorem rotL_stb (ho : LtOk lt) (l : List α) {a m b : Nat} (h1 : a ≤ m) (h2 : m ≤ b) (h3 : b ≤ l.length) (h : ∀ i j x y, a ≤ i → i < m → m ≤ j → j < b → l[i]? = some x → l[j]? = some y → lt y x = true) : Stb lt l (rotL a m b l) := by
  conv => lhs; rw [cut4 l h1 h2 h3]
  unfold rotL
  have := (stb_swap ho ((l.drop a).take (m - a)) ((l.drop m).take (b - m)) (fun x hx y hy => by
    obtain ⟨i, hi⟩ := List.mem_iff_getElem?.1 hx
    obtain ⟨j, hj⟩ := List.mem_iff_getElem?.1 hy
    rw [List.getElem?_take] at hi hj
    by_cases q1 : i < m - a
    case neg => rw [if_neg q1] at hi; cases hi
    by_cases q2 : j < b - m
    case neg => rw [if_neg q2] at hj; cases hj
    rw [if_pos q1] at hi
    rw [if_pos q2] at hj
    rw [List.getElem?_drop] at hi hj
    exact h _ _ x y (by omega) (by omega) (by omega) (by omega) hi hj)).mid (l.take a) (l.drop b)
  simpa [List.append_assoc] using this

/-! a merge in place -/
structure MG (lt : α → α → Bool) (a b : Nat) (l l' : List α) : Prop where
  len : l'.length = l.length
  out : ∀ k, k < a ∨ b ≤ k → l'[k]? = l[k]?
  orig : ∀ k x, a ≤ k → k < b → l'[k]? = some x → ∃ j, a ≤ j ∧ j < b ∧ l[j]? = some x
  srt : SrtOn lt l' a b
  stb : Stb lt l l'
theorem MG.same {l : List α} {a b : Nat} (h : SrtOn lt l a b) : MG lt a b l l := ⟨rfl, fun _ _ => rfl, fun k x h1 h2 h3 => ⟨k, h1, h2, h3⟩, h, Stb.refl _ _⟩
/-- the search of the place where a merge parts -/
structure SymSt (lt : α → α → Bool) (l : List α) (p s0 r0 s r : Nat) : Prop where
  b1 : s0 ≤ s
  b2 : s ≤ r
  b3 : r ≤ r0
  lo : ∀ c x y, s0 ≤ c → c < s → l[c]? = some x → l[p - c]? = some y → lt y x = false
  hi : ∀ c x y, r ≤ c → c < r0 → l[c]? = some x → l[p - c]? = some y → lt y x = true
theorem SymSt.up (ho : LtOk lt) {l : List α} {a m b p s0 r0 s r c : Nat} {x y : α} (hA : SrtOn lt l a m) (hB : SrtOn lt l m b) (h : SymSt lt l p s0 r0 s r) (ha : a ≤ s0) (hr : r0 ≤ m) (hp : m + r0 ≤ p + 1) (hb : p < b + s0)
    (h1 : s ≤ c) (h2 : c < r) (hx : l[c]? = some x) (hy : l[p - c]? = some y) (hlt : lt y x = false) : SymSt lt l p s0 r0 (c + 1) r := by
  obtain ⟨b1, b2, b3, lo, hi⟩ := h
  refine ⟨by omega, by omega, b3, fun c' x' y' k1 k2 hx' hy' => ?_, hi⟩
  rcases Nat.lt_or_ge c' s with k3 | k3
  · exact lo c' x' y' k1 k3 hx' hy'
  · have e1 := hA c' c x' x (by omega) (by omega) (by omega) hx' hx
    have e2 := hB (p - c) (p - c') y y' (by omega) (by omega) (by omega) hy hy'
    exact ho.le_le (ho.le_le e1 hlt) e2
theorem SymSt.down (ho : LtOk lt) {l : List α} {a m b p s0 r0 s r c : Nat} {x y : α} (hA : SrtOn lt l a m) (hB : SrtOn lt l m b) (h : SymSt lt l p s0 r0 s r) (ha : a ≤ s0) (hr : r0 ≤ m) (hp : m + r0 ≤ p + 1) (hb : p < b + s0)
    (h1 : s ≤ c) (h2 : c < r) (hx : l[c]? = some x) (hy : l[p - c]? = some y) (hlt : lt y x = true) : SymSt lt l p s0 r0 s c := by
  obtain ⟨b1, b2, b3, lo, hi⟩ := h
  refine ⟨by omega, by omega, by omega, lo, fun c' x' y' k1 k2 hx' hy' => ?_⟩
  rcases Nat.lt_or_ge c' r with k3 | k3
  · have e1 := hA c c' x x' (by omega) (by omega) (by omega) hx hx'
    have e2 := hB (p - c') (p - c) y' y (by omega) (by omega) (by omega) hy' hy
    exact ho.lt_le (ho.le_lt e2 hlt) e1
  · exact hi c' x' y' k3 k2 hx' hy'
/-- where the search ends -/
structure Parted (lt : α → α → Bool) (l : List α) (a m b s e : Nat) : Prop where
  as : a ≤ s
  sm : s ≤ m
  me : m ≤ e
  eb : e ≤ b
  f1 : ∀ i j x y, s ≤ i → i < m → m ≤ j → j < e → l[i]? = some x → l[j]? = some y → lt y x = true
  f2 : ∀ i j x y, a ≤ i → i < s → e ≤ j → j < b → l[i]? = some x → l[j]? = some y → lt y x = false
theorem SymSt.done (ho : LtOk lt) {l : List α} {a m b mid s0 r0 s : Nat} (hA : SrtOn lt l a m) (hB : SrtOn lt l m b) (ham : a < m) (hmb : m < b) (hbl : b ≤ l.length) (hmid : mid = (a + b) / 2)
    (h0 : (mid < m ∧ s0 = mid + m - b ∧ r0 = mid) ∨ (m ≤ mid ∧ s0 = a ∧ r0 = m)) (h : SymSt lt l (mid + m - 1) s0 r0 s s) : Parted lt l a m b s (mid + m - s) := by
  obtain ⟨b1, b2, b3, lo, hi⟩ := h
  have g1 : a ≤ s := by omega
  have g2 : s ≤ m := by omega
  have g3 : m ≤ mid + m - s := by omega
  have g4 : mid + m - s ≤ b := by omega
  refine ⟨g1, g2, g3, g4, fun i j x y k1 k2 k3 k4 hx hy => ?_, fun i j x y k1 k2 k3 k4 hx hy => ?_⟩
  · have hs : s < r0 := by omega
    obtain ⟨x', hx'⟩ : ∃ x', l[s]? = some x' := ⟨l[s], List.getElem?_eq_getElem (by omega)⟩
    obtain ⟨y', hy'⟩ : ∃ y', l[mid + m - 1 - s]? = some y' := ⟨l[mid + m - 1 - s], List.getElem?_eq_getElem (by omega)⟩
    have e := hi s x' y' (Nat.le_refl _) hs hx' hy'
    have e1 := hA s i x' x g1 k1 k2 hx' hx
    have e2 := hB j (mid + m - 1 - s) y y' k3 (by omega) (by omega) hy hy'
    exact ho.lt_le (ho.le_lt e2 e) e1
  · have hs : s0 < s := by omega
    obtain ⟨x', hx'⟩ : ∃ x', l[s - 1]? = some x' := ⟨l[s - 1], List.getElem?_eq_getElem (by omega)⟩
    obtain ⟨y', hy'⟩ : ∃ y', l[mid + m - 1 - (s - 1)]? = some y' := ⟨l[mid + m - 1 - (s - 1)], List.getElem?_eq_getElem (by omega)⟩
    have e := lo (s - 1) x' y' (by omega) (by omega) hx' hy'
    have e1 := hA i (s - 1) x x' k1 (by omega) (by omega) hx hx'
    have e2 := hB (mid + m - 1 - (s - 1)) j y' y (by omega) (by omega) k4 hy' hy
    exact ho.le_le (ho.le_le e1 e) e2
theorem rotL_none (l : List α) {s m e : Nat} (h1 : s ≤ m) (h2 : m ≤ e) (h3 : e ≤ l.length) (h : ¬ (s < m ∧ m < e)) : rotL s m e l = l := by
  apply List.ext_getElem?; intro k
  rw [rotL_get l h1 h2 h3]
  by_cases c1 : s ≤ k ∧ k < s + (e - m)
  · rw [if_pos c1]; congr 1; omega
  · rw [if_neg c1]
    by_cases c2 : s + (e - m) ≤ k ∧ k < e
    · rw [if_pos c2]; congr 1; omega
    · rw [if_neg c2]
section
variable {l : List α} {a m b s e : Nat}
theorem Parted.s1 (h : Parted lt l a m b s e) (hb : b ≤ l.length) (hA : SrtOn lt l a m) : SrtOn lt (rotL s m e l) a s := by
  obtain ⟨h1, h2, h3, h4, _, _⟩ := h
  exact (hA.sub (Nat.le_refl _) h2).same fun k k1 k2 => by rw [rotL_get l h2 h3 (by omega), if_neg (by omega), if_neg (by omega)]
theorem Parted.s2 (h : Parted lt l a m b s e) (hb : b ≤ l.length) (hB : SrtOn lt l m b) : SrtOn lt (rotL s m e l) s (s + (e - m)) := by
  obtain ⟨h1, h2, h3, h4, _, _⟩ := h
  intro i j x y k1 k2 k3 hx hy
  rw [rotL_get l h2 h3 (by omega), if_pos (by omega)] at hx hy
  exact hB _ _ x y (by omega) (by omega) (by omega) hx hy
theorem Parted.s3 (h : Parted lt l a m b s e) (hb : b ≤ l.length) (hA : SrtOn lt l a m) : SrtOn lt (rotL s m e l) (s + (e - m)) e := by
  obtain ⟨h1, h2, h3, h4, _, _⟩ := h
  intro i j x y k1 k2 k3 hx hy
  rw [rotL_get l h2 h3 (by omega), if_neg (by omega), if_pos (by omega)] at hx hy
  exact hA _ _ x y (by omega) (by omega) (by omega) hx hy
theorem Parted.s4 (h : Parted lt l a m b s e) (hb : b ≤ l.length) (hB : SrtOn lt l m b) : SrtOn lt (rotL s m e l) e b := by
  obtain ⟨h1, h2, h3, h4, _, _⟩ := h
  exact (hB.sub h3 (Nat.le_refl _)).same fun k k1 k2 => by rw [rotL_get l h2 h3 (by omega), if_neg (by omega), if_neg (by omega)]
theorem Parted.orig (h : Parted lt l a m b s e) (hb : b ≤ l.length) (k : Nat) (x : α) (k1 : a ≤ k) (k2 : k < b) (hx : (rotL s m e l)[k]? = some x) :
    ∃ j, a ≤ j ∧ j < b ∧ l[j]? = some x ∧ ((k < s + (e - m) ∧ (j < s ∨ (m ≤ j ∧ j < e))) ∨ (s + (e - m) ≤ k ∧ ((s ≤ j ∧ j < m) ∨ e ≤ j))) := by
  obtain ⟨h1, h2, h3, h4, _, _⟩ := h
  rw [rotL_get l h2 h3 (by omega)] at hx
  split at hx
  · exact ⟨_, by omega, by omega, hx, by omega⟩
  · split at hx
    · exact ⟨_, by omega, by omega, hx, by omega⟩
    · exact ⟨_, by omega, by omega, hx, by omega⟩
theorem Parted.out (h : Parted lt l a m b s e) (hb : b ≤ l.length) (k : Nat) (hk : k < a ∨ b ≤ k) : (rotL s m e l)[k]? = l[k]? := by
  obtain ⟨h1, h2, h3, h4, _, _⟩ := h
  rw [rotL_get l h2 h3 (by omega), if_neg (by omega), if_neg (by omega)]
theorem Parted.stb (ho : LtOk lt) (h : Parted lt l a m b s e) (hb : b ≤ l.length) : Stb lt l (rotL s m e l) :=
  rotL_stb ho l h.sm h.me (by have := h.eb; omega) h.f1
theorem Parted.len (h : Parted lt l a m b s e) (hb : b ≤ l.length) : (rotL s m e l).length = l.length := rotL_len l h.sm h.me (by have := h.eb; omega)
/-- Both halves are merged: all is. -/
theorem Parted.done (ho : LtOk lt) {l2 l3 : List α} (h : Parted lt l a m b s e) (hb : b ≤ l.length) (hA : SrtOn lt l a m) (hB : SrtOn lt l m b) (h2 : MG lt a (s + (e - m)) (rotL s m e l) l2) (h3 : MG lt (s + (e - m)) b l2 l3) : MG lt a b l l3 := by
  have g1 := h.as; have g2 := h.sm; have g3 := h.me; have g4 := h.eb
  have o2 : ∀ k x, a ≤ k → k < s + (e - m) → l3[k]? = some x → ∃ j, a ≤ j ∧ j < s + (e - m) ∧ (rotL s m e l)[j]? = some x := fun k x k1 k2 hx => h2.orig k x k1 k2 (by rw [← h3.out k (by omega)]; exact hx)
  have o3 : ∀ k x, s + (e - m) ≤ k → k < b → l3[k]? = some x → ∃ j, s + (e - m) ≤ j ∧ j < b ∧ (rotL s m e l)[j]? = some x := fun k x k1 k2 hx => by
    obtain ⟨j, j1, j2, j3⟩ := h3.orig k x k1 k2 hx
    exact ⟨j, j1, j2, by rw [← h2.out j (by omega)]; exact j3⟩
  refine ⟨by rw [h3.len, h2.len, h.len hb], fun k hk => by rw [h3.out k (by omega), h2.out k (by omega), h.out hb k hk], fun k x k1 k2 hx => ?_, ?_, (h.stb ho hb).trans (h2.stb.trans h3.stb)⟩
  · rcases Nat.lt_or_ge k (s + (e - m)) with c | c
    · obtain ⟨j, j1, j2, j3⟩ := o2 k x k1 c hx
      obtain ⟨i, i1, i2, i3, _⟩ := h.orig hb j x j1 (by omega) j3
      exact ⟨i, i1, i2, i3⟩
    · obtain ⟨j, j1, j2, j3⟩ := o3 k x c k2 hx
      obtain ⟨i, i1, i2, i3, _⟩ := h.orig hb j x (by omega) j2 j3
      exact ⟨i, i1, i2, i3⟩
  · intro i j x y k1 k2 k3 hx hy
    rcases Nat.lt_or_ge j (s + (e - m)) with c | c
    · exact h2.srt i j x y k1 k2 c (by rw [← h3.out i (by omega)]; exact hx) (by rw [← h3.out j (by omega)]; exact hy)
    · rcases Nat.lt_or_ge i (s + (e - m)) with c2 | c2
      · obtain ⟨i', i1, i2, i3⟩ := o2 i x k1 c2 hx
        obtain ⟨j', j1, j2, j3⟩ := o3 j y c k3 hy
        obtain ⟨p, p1, p2, p3, p4⟩ := h.orig hb i' x i1 (by omega) i3
        obtain ⟨q, q1, q2, q3, q4⟩ := h.orig hb j' y (by omega) j2 j3
        rcases (by omega : p < s ∨ (m ≤ p ∧ p < e)) with c3 | c3 <;> rcases (by omega : (s ≤ q ∧ q < m) ∨ e ≤ q) with c4 | c4
        · exact hA p q x y p1 (by omega) c4.2 p3 q3
        · exact h.f2 p q x y p1 c3 c4 q2 p3 q3
        · exact ho.asym (h.f1 q p y x c4.1 c4.2 c3.1 c3.2 q3 p3)
        · exact hB p q x y c3.1 (by omega) q2 p3 q3
      · exact h3.srt i j x y c2 k2 k3 hx hy
end
/-- one element ahead of a sorted part -/
structure One1 (lt : α → α → Bool) (l : List α) (a b i j : Nat) : Prop where
  b1 : a + 1 ≤ i
  b2 : i ≤ j
  b3 : j ≤ b
  lo : ∀ h x y, a + 1 ≤ h → h < i → l[a]? = some x → l[h]? = some y → lt y x = true
  hi : ∀ h x y, j ≤ h → h < b → l[a]? = some x → l[h]? = some y → lt y x = false
theorem One1.start (l : List α) {a b : Nat} (h : a < b) : One1 lt l a b (a + 1) b := ⟨Nat.le_refl _, h, Nat.le_refl _, fun _ _ _ _ _ => by omega, fun _ _ _ _ _ => by omega⟩
theorem One1.up (ho : LtOk lt) {l : List α} {a b i j h : Nat} {x y : α} (hB : SrtOn lt l (a + 1) b) (s : One1 lt l a b i j) (h1 : i ≤ h) (h2 : h < j) (hx : l[a]? = some x) (hy : l[h]? = some y) (hlt : lt y x = true) : One1 lt l a b (h + 1) j := by
  obtain ⟨b1, b2, b3, lo, hi⟩ := s
  refine ⟨by omega, by omega, b3, fun h' x' y' k1 k2 hx' hy' => ?_, hi⟩
  rw [hx] at hx'; injection hx' with e; subst e
  exact ho.le_lt (hB h' h y' y k1 (by omega) (by omega) hy' hy) hlt
theorem One1.down (ho : LtOk lt) {l : List α} {a b i j h : Nat} {x y : α} (hB : SrtOn lt l (a + 1) b) (s : One1 lt l a b i j) (h1 : i ≤ h) (h2 : h < j) (hx : l[a]? = some x) (hy : l[h]? = some y) (hlt : lt y x = false) : One1 lt l a b i h := by
  obtain ⟨b1, b2, b3, lo, hi⟩ := s
  refine ⟨b1, h1, by omega, lo, fun h' x' y' k1 k2 hx' hy' => ?_⟩
  rw [hx] at hx'; injection hx' with e; subst e
  exact ho.le_le hlt (hB h h' y y' (by omega) k1 k2 hy hy')
theorem rot_mg (ho : LtOk lt) {l : List α} {a m b s e : Nat} (h : Parted lt l a m b s e) (hb : b ≤ l.length) (hA : SrtOn lt l a m) (hB : SrtOn lt l m b) (ham : a ≤ m) (hmb : m ≤ b)
    (g1 : ∀ i j x y, s ≤ i → i < m → e ≤ j → j < b → l[i]? = some x → l[j]? = some y → lt y x = false) (g2 : ∀ i j x y, a ≤ i → i < s → m ≤ j → j < e → l[i]? = some x → l[j]? = some y → lt y x = false) : MG lt a b l (rotL s m e l) := by
  have q1 := h.as; have q2 := h.sm; have q3 := h.me; have q4 := h.eb
  refine h.done ho hb hA hB (MG.same ?_) (MG.same ?_)
  · intro i j x y k1 k2 k3 hx hy
    rcases Nat.lt_or_ge j s with c | c
    · exact h.s1 hb hA i j x y k1 k2 c hx hy
    · rcases Nat.lt_or_ge i s with c2 | c2
      · rw [rotL_get l q2 q3 (by omega), if_neg (by omega), if_neg (by omega)] at hx
        rw [rotL_get l q2 q3 (by omega), if_pos (by omega)] at hy
        exact g2 _ _ x y k1 c2 (by omega) (by omega) hx hy
      · exact h.s2 hb hB i j x y c2 k2 k3 hx hy
  · intro i j x y k1 k2 k3 hx hy
    rcases Nat.lt_or_ge j e with c | c
    · exact h.s3 hb hA i j x y k1 k2 c hx hy
    · rcases Nat.lt_or_ge i e with c2 | c2
      · rw [rotL_get l q2 q3 (by omega), if_neg (by omega), if_pos (by omega)] at hx
        rw [rotL_get l q2 q3 (by omega), if_neg (by omega), if_neg (by omega)] at hy
        exact g1 _ _ x y (by omega) (by omega) c k3 hx hy
      · exact h.s4 hb hB i j x y c2 k2 k3 hx hy
theorem One1.done (ho : LtOk lt) {l : List α} {a b i : Nat} (hb : b ≤ l.length) (hB : SrtOn lt l (a + 1) b) (s : One1 lt l a b i i) : MG lt a b l (rotL a (a + 1) i l) := by
  obtain ⟨b1, b2, b3, lo, hi⟩ := s
  refine rot_mg ho ⟨Nat.le_refl _, Nat.le_succ _, b1, b3, fun p j x y k1 k2 k3 k4 hx hy => ?_, fun p j x y k1 k2 => by omega⟩ hb (SrtOn.one ho l a) hB (Nat.le_succ _) (by omega) (fun p j x y k1 k2 k3 k4 hx hy => ?_) (fun p j x y k1 k2 => by omega)
  · obtain rfl : p = a := by omega
    exact lo j x y k3 k4 hx hy
  · obtain rfl : p = a := by omega
    exact hi j x y k3 k4 hx hy
theorem rot1_step {l : List α} {a k : Nat} {x y : α} (hak : a ≤ k) (hk : k + 1 < l.length) (hx : (rotL a (a + 1) (k + 1) l)[k]? = some x) (hy : (rotL a (a + 1) (k + 1) l)[k + 1]? = some y) : ((rotL a (a + 1) (k + 1) l).set k y).set (k + 1) x = rotL a (a + 1) (k + 2) l := by
  have hl := rotL_len l (show a ≤ a + 1 by omega) (show a + 1 ≤ k + 1 by omega) (show k + 1 ≤ l.length by omega)
  apply List.ext_getElem?; intro t
  rw [set2_get (by omega) (by omega), rotL_get l (by omega) (by omega) (by omega)]
  rw [rotL_get l (by omega) (by omega) (by omega), if_neg (by omega), if_pos (by omega)] at hx
  rw [rotL_get l (by omega) (by omega) (by omega), if_neg (by omega), if_neg (by omega)] at hy
  rw [rotL_get l (show a ≤ a + 1 by omega) (by omega) (show k + 2 ≤ l.length by omega)]
  by_cases h1 : t = k + 1
  · subst h1; rw [if_pos rfl, if_neg (by omega), if_pos (by omega), ← hx]; congr 1; omega
  · rw [if_neg h1]
    by_cases h2 : t = k
    · subst h2; rw [if_pos rfl, if_pos (by omega), ← hy]; congr 1; omega
    · rw [if_neg h2]
      by_cases h3 : a ≤ t ∧ t < k
      · rw [if_pos (by omega), if_pos (by omega)]
      · rw [if_neg (by omega), if_neg (by omega), if_neg (by omega), if_neg (by omega)]
theorem rot0 (l : List α) {a m : Nat} (h1 : a ≤ m) (h2 : m ≤ l.length) : rotL a m m l = l := rotL_none l h1 (Nat.le_refl _) h2 (by omega)
/-- one element behind a sorted part -/
structure One2 (lt : α → α → Bool) (l : List α) (a m i j : Nat) : Prop where
  b1 : a ≤ i
  b2 : i ≤ j
  b3 : j ≤ m
  lo : ∀ h x y, a ≤ h → h < i → l[h]? = some x → l[m]? = some y → lt y x = false
  hi : ∀ h x y, j ≤ h → h < m → l[h]? = some x → l[m]? = some y → lt y x = true
theorem One2.start (l : List α) {a m : Nat} (h : a ≤ m) : One2 lt l a m a m := ⟨Nat.le_refl _, h, Nat.le_refl _, fun _ _ _ _ _ => by omega, fun _ _ _ _ _ => by omega⟩
theorem One2.up (ho : LtOk lt) {l : List α} {a m i j h : Nat} {x y : α} (hA : SrtOn lt l a m) (s : One2 lt l a m i j) (h1 : i ≤ h) (h2 : h < j) (hx : l[h]? = some x) (hy : l[m]? = some y) (hlt : lt y x = false) : One2 lt l a m (h + 1) j := by
  obtain ⟨b1, b2, b3, lo, hi⟩ := s
  refine ⟨by omega, by omega, b3, fun h' x' y' k1 k2 hx' hy' => ?_, hi⟩
  rw [hy] at hy'; injection hy' with e; subst e
  exact ho.le_le (hA h' h x' x k1 (by omega) (by omega) hx' hx) hlt
theorem One2.down (ho : LtOk lt) {l : List α} {a m i j h : Nat} {x y : α} (hA : SrtOn lt l a m) (s : One2 lt l a m i j) (h1 : i ≤ h) (h2 : h < j) (hx : l[h]? = some x) (hy : l[m]? = some y) (hlt : lt y x = true) : One2 lt l a m i h := by
  obtain ⟨b1, b2, b3, lo, hi⟩ := s
  refine ⟨b1, h1, by omega, lo, fun h' x' y' k1 k2 hx' hy' => ?_⟩
  rw [hy] at hy'; injection hy' with e; subst e
  exact ho.lt_le hlt (hA h h' x x' (by omega) k1 k2 hx hx')
theorem One2.done (ho : LtOk lt) {l : List α} {a m i : Nat} (hb : m + 1 ≤ l.length) (hA : SrtOn lt l a m) (s : One2 lt l a m i i) : MG lt a (m + 1) l (rotL i m (m + 1) l) := by
  obtain ⟨b1, b2, b3, lo, hi⟩ := s
  refine rot_mg ho ⟨b1, b3, Nat.le_succ _, Nat.le_refl _, fun p j x y k1 k2 k3 k4 hx hy => ?_, fun p j x y k1 k2 k3 k4 => by omega⟩ hb hA (SrtOn.one ho l m) (by omega) (Nat.le_succ _) (fun p j x y k1 k2 k3 k4 => by omega) (fun p j x y k1 k2 k3 k4 hx hy => ?_)
  · obtain rfl : j = m := by omega
    exact hi p x y k1 k2 hx hy
  · obtain rfl : j = m := by omega
    exact lo p x y k1 k2 hx hy
theorem rot2_step {l : List α} {m k : Nat} {x y : α} (hkm : k + 1 ≤ m) (hm : m < l.length) (hx : (rotL (k + 1) m (m + 1) l)[k + 1]? = some x) (hy : (rotL (k + 1) m (m + 1) l)[k]? = some y) : ((rotL (k + 1) m (m + 1) l).set (k + 1) y).set k x = rotL k m (m + 1) l := by
  have hl := rotL_len l hkm (show m ≤ m + 1 by omega) (show m + 1 ≤ l.length by omega)
  apply List.ext_getElem?; intro t
  rw [set2_get (by omega) (by omega), rotL_get l (by omega) (by omega) (by omega)]
  rw [rotL_get l (by omega) (by omega) (by omega), if_pos (by omega)] at hx
  rw [rotL_get l (by omega) (by omega) (by omega), if_neg (by omega), if_neg (by omega)] at hy
  rw [rotL_get l (show k ≤ m by omega) (by omega) (show m + 1 ≤ l.length by omega)]
  by_cases h1 : t = k
  · subst h1; rw [if_pos rfl, if_pos (by omega), ← hx]; congr 1; omega
  · rw [if_neg h1]
    by_cases h2 : t = k + 1
    · subst h2; rw [if_pos rfl, if_neg (by omega), if_pos (by omega), ← hy]; congr 1; omega
    · rw [if_neg h2, if_neg (by omega), if_neg (show ¬ (k ≤ t ∧ t < k + (m + 1 - m)) by omega)]
      by_cases h3 : k + 1 + (m + 1 - m) ≤ t ∧ t < m + 1
      · rw [if_pos h3, if_pos (by omega)]
      · rw [if_neg h3, if_neg (by omega)]

/-! blocks that are sorted -/
def SB (lt : α → α → Bool) (l : List α) (bs lo hi : Nat) : Prop := ∀ s, bs ∣ s → lo ≤ s → s < hi → SrtOn lt l s (s + bs)
theorem SB.none (l : List α) (bs a : Nat) : SB lt l bs a a := fun s _ h1 h2 => by omega
theorem dvd_step {bs s a : Nat} (h1 : bs ∣ s) (h2 : bs ∣ a) (h : s < a) : s + bs ≤ a := by
  obtain ⟨p, rfl⟩ := h1; obtain ⟨q, rfl⟩ := h2
  have : p < q := Nat.lt_of_mul_lt_mul_left h
  calc bs * p + bs = bs * (p + 1) := by rw [Nat.mul_add, Nat.mul_one]
    _ ≤ bs * q := Nat.mul_le_mul_left _ this
/-- one more block is sorted -/
theorem SB.more {l l' : List α} {bs a b : Nat} (h : SB lt l bs 0 a) (hd : bs ∣ a) (hout : ∀ k, k < a → l'[k]? = l[k]?) (hs : SrtOn lt l' a b) (hb : a + bs ≤ b ∨ l'.length ≤ b) : SB lt l' bs 0 (a + bs) := by
  intro s h1 _ h3
  rcases Nat.lt_or_ge s a with c | c
  · have := dvd_step h1 hd c
    exact (h s h1 (Nat.zero_le _) c).same fun k k1 k2 => hout k (by omega)
  · obtain rfl : s = a := by
      have := Nat.le_of_lt_add_of_dvd h3 h1 hd; omega
    intro i j x y k1 k2 k3 hx hy
    have := lt_of_some hy
    exact hs i j x y k1 k2 (by omega) hx hy
theorem SB.rest {l l' : List α} {bs a b hi : Nat} (h : SB lt l bs a hi) (hab : a ≤ b) (hout : ∀ k, b ≤ k → l'[k]? = l[k]?) : SB lt l' bs b hi := fun s h1 h2 h3 =>
  (h s h1 (by omega) h3).same fun k k1 k2 => hout k (by omega)
theorem SB.two {bs a : Nat} (h : 2 * bs ∣ a) : bs ∣ a ∧ bs ∣ a + bs := by
  have : bs ∣ a := Nat.dvd_trans ⟨2, by omega⟩ h
  exact ⟨this, Nat.dvd_add this (Nat.dvd_refl _)⟩
theorem SB.shrink {l : List α} {bs lo hi hi' : Nat} (h : SB lt l bs lo hi) (hh : hi' ≤ hi) : SB lt l bs lo hi' := fun s h1 h2 h3 => h s h1 h2 (by omega)
theorem SB.all {l : List α} {bs : Nat} (h : SB lt l bs 0 l.length) (hb : l.length ≤ bs) : Srt lt l := by
  apply SrtOn.all
  rcases Nat.eq_zero_or_pos l.length with h0 | h0
  · intro i j x y _ _ h3; omega
  · have := h 0 (Nat.dvd_zero _) (Nat.le_refl _) h0
    exact this.sub (Nat.le_refl _) (by omega)
end

/-! the insertion sort of the library -/
section
variable {α : Type} [Inhabited α] {lt : α → α → Bool}
open Go.Sort
theorem toList_get (d : Array α) (k : Nat) : d.toList[k]? = if k < d.size then some d[k]! else none := by
  rw [Array.getElem?_toList]
  by_cases h : k < d.size
  · rw [if_pos h, Array.getElem?_eq_getElem h, getElem!_pos d k h]
  · rw [if_neg h, Array.getElem?_eq_none (by omega)]
theorem swp_toList (d : Array α) (i j : Nat) : (swp d i j).toList = (d.toList.set i d[j]!).set j d[i]! := by simp [swp]
theorem insInner_stb (ho : LtOk lt) (a : Nat) : ∀ (j : Nat) (d : Array α), j < d.size → Stb lt d.toList (insInner lt a j d).toList
  | 0, d, _ => by unfold insInner; exact Stb.refl _ _
  | j + 1, d, hj => by
    unfold insInner
    split
    · rename_i h
      simp only [Bool.and_eq_true, decide_eq_true_eq] at h
      have h1 : Stb lt d.toList (swp d (j + 1) j).toList := by
        rw [swp_toList, List.set_comm _ _ (by omega)]
        exact stb_adj ho (by rw [toList_get, if_pos (by omega)]) (by rw [toList_get, if_pos hj]) h.2
      exact h1.trans (insInner_stb ho a j (swp d (j + 1) j) (by rw [size_swp]; omega))
    · exact Stb.refl _ _
theorem insInner_size (a : Nat) : ∀ (j : Nat) (d : Array α), (insInner lt a j d).size = d.size
  | 0, d => by unfold insInner; rfl
  | j + 1, d => by
    unfold insInner
    split
    · rw [insInner_size a j, size_swp]
    · rfl
theorem insOuter_stb (ho : LtOk lt) (a b : Nat) : ∀ (n i : Nat) (d : Array α), b - i = n → b ≤ d.size → Stb lt d.toList (insOuter lt a b i d).toList
  | 0, i, d, hn, _ => by rw [insOuter, if_neg (by omega)]; exact Stb.refl _ _
  | n + 1, i, d, hn, hb => by
    rw [insOuter, if_pos (by omega)]
    exact (insInner_stb ho a i d (by omega)).trans (insOuter_stb ho a b n (i + 1) _ (by omega) (by rw [insInner_size]; exact hb))
theorem ins_mg (ho : LtOk lt) (l : List α) (a b : Nat) (hab : a ≤ b) (hb : b ≤ l.length) :
    (insertionSort lt l.toArray a b).toList.length = l.length ∧ (∀ k, k < a ∨ b ≤ k → (insertionSort lt l.toArray a b).toList[k]? = l[k]?) ∧ SrtOn lt (insertionSort lt l.toArray a b).toList a b ∧ Stb lt l (insertionSort lt l.toArray a b).toList := by
  have hS : SWO lt := ⟨ho.irr, ho.tr, ho.ntr⟩
  have := insertionSort_of (lt := lt) swp_permIn permIn_refl permIn_trans hS l.toArray a b hab (by simpa using hb)
  obtain ⟨⟨p1, p2, p3⟩, p4⟩ := this
  have e0 : ∀ k, l[k]? = if k < l.length then some l.toArray[k]! else none := fun k => by
    have := toList_get l.toArray k
    simpa using this
  refine ⟨by simpa using p1, fun k hk => ?_, ?_, ?_⟩
  · rw [toList_get, e0 k, p2 k hk, p1]; simp
  · intro i j x y k1 k2 k3 hx hy
    rw [toList_get] at hx hy
    have i1 : i < (insertionSort lt l.toArray a b).size := by rw [p1]; simp; omega
    have j1 : j < (insertionSort lt l.toArray a b).size := by rw [p1]; simp; omega
    rw [if_pos i1] at hx
    rw [if_pos j1] at hy
    injection hx with hx; injection hy with hy
    subst hx hy
    rcases Nat.lt_or_ge i j with c | c
    · exact p4 i j k1 c k3
    · obtain rfl : i = j := by omega
      exact ho.irr _
  · exact insOuter_stb ho a b _ (a + 1) l.toArray rfl (by simpa using hb)
end
end Go.Proofs.Ytefndmjimmbhnaa
end
