/- Contract of the library's symMergeCmpFunc at cells, over any program that has its body. Conditions: two parts that are sorted, neither empty. Contract of the library's insertionSortCmpFunc at cells, over any program that has its body; the lay at this program. No condition but room. Plain laws of cells by keys: adding one, the norm of a list, the fold of a sorted one, finding. They speak of no program; no condition. -/
import Derived.Test.YtefndmjimmbhnaaZ18
import Derived.Test.YtefndmjimmbhnaaZ07
import Derived.Test.YtefndmjimmbhnaaZ17
section
set_option linter.unusedVariables false
set_option linter.unusedSimpArgs false
set_option maxRecDepth 1000000
namespace Go.Proofs.Ytefndmjimmbhnaa
open Go.RowKit Go.Sort Go.Lib

section
variable {P : Program} {α : Type} {E : El α}
end
end Go.Proofs.Ytefndmjimmbhnaa
end

section
set_option linter.unusedVariables false
set_option linter.unusedSimpArgs false
set_option maxRecDepth 1000000
namespace Go.Proofs.Ytefndmjimmbhnaa
open Go.RowKit Go.Sort Go.Lib

section
variable {P : Program} {α : Type} [Inhabited α] {E : El α}
theorem arr_get (d : Array α) (k : Nat) (h : k < d.size) : d.toList[k]? = some d[k]! := by rw [toList_get, if_pos h]
end
end Go.Proofs.Ytefndmjimmbhnaa
end

section
set_option linter.unusedVariables false
set_option linter.unusedSimpArgs false
set_option linter.unusedSectionVars false
namespace Go.Proofs.Ytefndmjimmbhnaa

/-- keys' order -/
structure KeyOrd {κ : Type} (kc : κ → κ → Int) : Prop where
  zero : ∀ a b, kc a b = 0 ↔ a = b
  neg : ∀ a b, kc b a = -kc a b
  tr : ∀ a b c, kc a b < 0 → kc b c < 0 → kc a c < 0
section
variable {κ ν : Type} [DecidableEq κ] {kc : κ → κ → Int} {jn : ν → ν → ν}
theorem KeyOrd.self (h : KeyOrd kc) (a : κ) : kc a a = 0 := (h.zero a a).2 rfl
theorem KeyOrd.ltOk (h : KeyOrd kc) : LtOk (fun a b : κ × ν => decide (kc a.1 b.1 < 0)) where
  irr x := by simp [h.self]
  tr x y z h1 h2 := by simp only [decide_eq_true_eq] at *; exact h.tr _ _ _ h1 h2
  ntr x y z h1 h2 := by
    simp only [decide_eq_false_iff_not] at *
    intro h3
    have n1 := h.neg x.1 y.1
    have n2 := h.neg y.1 z.1
    rcases Int.lt_trichotomy (kc y.1 x.1) 0 with a | a | a
    · have := h.tr _ _ _ a h3; omega
    · have : y.1 = x.1 := (h.zero _ _).1 a
      rw [this] at h2; omega
    · omega
def SortedK (kc : κ → κ → Int) (l : List (κ × ν)) : Prop := l.Pairwise fun a b => kc a.1 b.1 < 0
def findO (l : List (κ × ν)) (k : κ) : Option ν := (l.find? fun c => decide (c.1 = k)).map (·.2)
theorem findO_nil (k : κ) : findO ([] : List (κ × ν)) k = none := rfl
theorem findO_cons (x : κ × ν) (l : List (κ × ν)) (k : κ) : findO (x :: l) k = if x.1 = k then some x.2 else findO l k := by
  unfold findO
  by_cases h : x.1 = k
  · simp [h]
  · simp [h]
theorem findO_none (l : List (κ × ν)) (k : κ) : findO l k = none ↔ ∀ c ∈ l, c.1 ≠ k := by
  simp [findO]
theorem findO_some (l : List (κ × ν)) (k : κ) (v : ν) (h : findO l k = some v) : (k, v) ∈ l := by
  unfold findO at h
  rw [Option.map_eq_some_iff] at h
  obtain ⟨c, h1, h2⟩ := h
  have h3 := List.mem_of_find?_eq_some h1
  have h4 := List.find?_some h1
  simp only [decide_eq_true_eq] at h4
  rw [← h4, ← h2]
  exact h3
theorem findO_app (a b : List (κ × ν)) (k : κ) : findO (a ++ b) k = (findO a k).or (findO b k) := by
  induction a with
  | nil => simp [findO_nil]
  | cons x a ih => rw [List.cons_append, findO_cons, findO_cons, ih]; split <;> simp
theorem SortedK.find (ho : KeyOrd kc) {l : List (κ × ν)} (h : SortedK kc l) {c : κ × ν} (hc : c ∈ l) : findO l c.1 = some c.2 := by
  induction l with
  | nil => simp at hc
  | cons x l ih =>
    obtain ⟨h1, h2⟩ := List.pairwise_cons.1 h
    rw [findO_cons]
    rcases List.mem_cons.1 hc with rfl | hc
    · rw [if_pos rfl]
    · have := h1 c hc
      rw [if_neg (fun e => by rw [e, ho.self] at this; omega)]
      exact ih h2 hc
theorem sortedK_ext (ho : KeyOrd kc) : ∀ (l m : List (κ × ν)), SortedK kc l → SortedK kc m → (∀ k, findO l k = findO m k) → l = m
  | [], [], _, _, _ => rfl
  | [], y :: m, _, _, h => by have := h y.1; rw [findO_cons, if_pos rfl, findO_nil] at this; cases this
  | x :: l, [], _, _, h => by have := h x.1; rw [findO_cons, if_pos rfl, findO_nil] at this; cases this
  | x :: l, y :: m, hl, hm, h => by
    obtain ⟨l1, l2⟩ := List.pairwise_cons.1 hl
    obtain ⟨m1, m2⟩ := List.pairwise_cons.1 hm
    have hx : findO (y :: m) x.1 = some x.2 := by rw [← h, findO_cons, if_pos rfl]
    have hy : findO (x :: l) y.1 = some y.2 := by rw [h, findO_cons, if_pos rfl]
    have hxy : x.1 = y.1 := by
      refine Classical.byContradiction fun hne => ?_
      rcases List.mem_cons.1 (findO_some _ _ _ hx) with e | hxm
      · exact hne (congrArg Prod.fst e)
      · rcases List.mem_cons.1 (findO_some _ _ _ hy) with e | hyl
        · exact hne (congrArg Prod.fst e).symm
        · have a := m1 _ hxm
          have b := l1 _ hyl
          have n := ho.neg x.1 y.1
          simp only at a b
          omega
    have hv : x = y := by
      rw [findO_cons, if_pos hxy.symm] at hx
      obtain ⟨x1, x2⟩ := x; obtain ⟨y1, y2⟩ := y
      simp only [Option.some.injEq] at hx hxy
      rw [hxy, hx]
    subst hv
    congr 1
    refine sortedK_ext ho l m l2 m2 fun k => ?_
    have := h k
    rw [findO_cons, findO_cons] at this
    by_cases hk : x.1 = k
    · subst hk
      have a : findO l x.1 = none := (findO_none _ _).2 fun c hc e => by have := l1 c hc; rw [e, ho.self] at this; omega
      have b : findO m x.1 = none := (findO_none _ _).2 fun c hc e => by have := m1 c hc; rw [e, ho.self] at this; omega
      rw [a, b]
    · rwa [if_neg hk, if_neg hk] at this

/-! adding a cell, as the document says it -/
def addR (kc : κ → κ → Int) (jn : ν → ν → ν) (c : κ × ν) : Bool → List (κ × ν) → List (κ × ν)
  | done, [] => if done then [] else [c]
  | done, x :: r =>
    if kc x.1 c.1 = 0 then (x.1, jn x.2 c.2) :: addR kc jn c true r
    else if 0 < kc x.1 c.1 ∧ done = false then c :: x :: addR kc jn c true r
    else x :: addR kc jn c done r
def normL (kc : κ → κ → Int) (jn : ν → ν → ν) (l : List (κ × ν)) : List (κ × ν) := l.foldl (fun out c => addR kc jn c false out) []
def stepO (jn : ν → ν → ν) (k : κ) (o : Option ν) (c : κ × ν) : Option ν := if c.1 = k then some (match o with | none => c.2 | some v => jn v c.2) else o
theorem addR_done (ho : KeyOrd kc) (c : κ × ν) : ∀ l : List (κ × ν), (∀ x ∈ l, 0 < kc x.1 c.1) → addR kc jn c true l = l
  | [], _ => rfl
  | x :: l, h => by
    have h0 := h x (by simp)
    rw [addR, if_neg (by omega), if_neg (by simp), addR_done ho c l (fun y hy => h y (by simp [hy]))]
theorem addR_mem (c : κ × ν) : ∀ (l : List (κ × ν)) (d : Bool) (y : κ × ν), y ∈ addR kc jn c d l → y.1 = c.1 ∨ y.1 ∈ l.map (·.1)
  | [], d, y, h => by
    rw [addR] at h
    split at h
    · simp at h
    · simp at h; exact .inl (by rw [h])
  | x :: l, d, y, h => by
    rw [addR] at h
    split at h
    · rcases List.mem_cons.1 h with rfl | h
      · exact .inr (by simp)
      · rcases addR_mem c l _ y h with h | h
        · exact .inl h
        · exact .inr (by simp at h ⊢; exact .inr h)
    · split at h
      · rcases List.mem_cons.1 h with rfl | h
        · exact .inl rfl
        · rcases List.mem_cons.1 h with rfl | h
          · exact .inr (by simp)
          · rcases addR_mem c l _ y h with h | h
            · exact .inl h
            · exact .inr (by simp at h ⊢; exact .inr h)
      · rcases List.mem_cons.1 h with rfl | h
        · exact .inr (by simp)
        · rcases addR_mem c l _ y h with h | h
          · exact .inl h
          · exact .inr (by simp at h ⊢; exact .inr h)
theorem addR_law (ho : KeyOrd kc) (c : κ × ν) : ∀ l : List (κ × ν), SortedK kc l → SortedK kc (addR kc jn c false l) ∧ ∀ k, findO (addR kc jn c false l) k = stepO jn k (findO l k) c
  | [], _ => by
    refine ⟨List.pairwise_singleton _ _, fun k => ?_⟩
    rw [show addR kc jn c false [] = [c] from rfl, findO_cons, findO_nil]
    unfold stepO; rfl
  | x :: l, h => by
    obtain ⟨h1, h2⟩ := List.pairwise_cons.1 h
    have nx := ho.neg x.1 c.1
    have hgr : 0 ≤ kc x.1 c.1 → ∀ y ∈ l, 0 < kc y.1 c.1 := by
      intro hx y hy
      have a := h1 y hy
      have n1 := ho.neg y.1 c.1
      rcases Int.lt_or_le 0 (kc x.1 c.1) with hp | hp
      · have := ho.tr c.1 x.1 y.1 (by omega) a
        omega
      · have e : x.1 = c.1 := (ho.zero _ _).1 (by omega)
        rw [e] at a; omega
    have fn : 0 ≤ kc x.1 c.1 → findO l c.1 = none := fun hx => (findO_none _ _).2 fun y hy e => by
      have := hgr hx y hy
      rw [e, ho.self] at this; omega
    rw [addR]
    split
    · rename_i h0
      have e : x.1 = c.1 := (ho.zero _ _).1 h0
      rw [addR_done ho c l (hgr (by omega))]
      refine ⟨List.pairwise_cons.2 ⟨h1, h2⟩, fun k => ?_⟩
      rw [findO_cons, findO_cons]
      unfold stepO
      simp only [e]
      by_cases hk : c.1 = k
      · rw [if_pos hk, if_pos hk, if_pos hk]
      · rw [if_neg hk, if_neg hk, if_neg hk]
    · rename_i h0
      have hne : x.1 ≠ c.1 := fun e => h0 ((ho.zero _ _).2 e)
      split
      · rename_i hp
        rw [addR_done ho c l (hgr (by omega))]
        refine ⟨List.pairwise_cons.2 ⟨fun y hy => ?_, h⟩, fun k => ?_⟩
        · rcases List.mem_cons.1 hy with rfl | hy
          · omega
          · have := hgr (by omega) y hy
            have n := ho.neg y.1 c.1
            omega
        · rw [findO_cons, findO_cons]
          unfold stepO
          by_cases hk : c.1 = k
          · subst hk
            rw [if_pos rfl, if_pos rfl, if_neg hne, fn (by omega)]
          · rw [if_neg hk, if_neg hk]
      · rename_i hp
        obtain ⟨i1, i2⟩ := addR_law ho c l h2
        have hlt : kc x.1 c.1 < 0 := by
          rcases Int.lt_trichotomy (kc x.1 c.1) 0 with a | a | a
          · exact a
          · exact absurd a h0
          · exact absurd ⟨a, rfl⟩ hp
        refine ⟨List.pairwise_cons.2 ⟨fun y hy => ?_, i1⟩, fun k => ?_⟩
        · rcases addR_mem c l _ y hy with e | hm
          · rw [e]; exact hlt
          · rw [List.mem_map] at hm
            obtain ⟨z, hz, e⟩ := hm
            have := h1 z hz
            rwa [e] at this
        · rw [findO_cons, findO_cons, i2]
          unfold stepO
          by_cases hk : c.1 = k
          · subst hk
            rw [if_pos rfl, if_neg hne, if_pos rfl, if_neg hne]
          · rw [if_neg hk, if_neg hk]
theorem normL_from (ho : KeyOrd kc) : ∀ (l out : List (κ × ν)), SortedK kc out → SortedK kc (l.foldl (fun out c => addR kc jn c false out) out) ∧ ∀ k, findO (l.foldl (fun out c => addR kc jn c false out) out) k = l.foldl (stepO jn k) (findO out k)
  | [], out, h => ⟨h, fun _ => rfl⟩
  | c :: l, out, h => by
    obtain ⟨a, b⟩ := addR_law (jn := jn) ho c out h
    obtain ⟨i1, i2⟩ := normL_from ho l _ a
    exact ⟨i1, fun k => by rw [List.foldl_cons, i2, b, List.foldl_cons]⟩
theorem normL_sorted (ho : KeyOrd kc) (l : List (κ × ν)) : SortedK kc (normL kc jn l) := (normL_from ho l [] List.Pairwise.nil).1
theorem normL_find (ho : KeyOrd kc) (l : List (κ × ν)) (k : κ) : findO (normL kc jn l) k = l.foldl (stepO jn k) none := (normL_from ho l [] List.Pairwise.nil).2 k
theorem stepO_filter (k : κ) : ∀ (l : List (κ × ν)) (o : Option ν), l.foldl (stepO jn k) o = (l.filter fun c => decide (c.1 = k)).foldl (stepO jn k) o
  | [], o => rfl
  | c :: l, o => by
    by_cases h : c.1 = k
    · rw [List.filter_cons_of_pos (by simpa using h), List.foldl_cons, List.foldl_cons, stepO_filter k l]
    · rw [List.filter_cons_of_neg (by simpa using h), List.foldl_cons, stepO_filter k l]
      unfold stepO
      rw [if_neg h]
theorem stepO_none (k : κ) (l : List (κ × ν)) (h : ∀ c ∈ l, c.1 ≠ k) : ∀ o, l.foldl (stepO jn k) o = o := by
  intro o
  rw [stepO_filter, List.filter_eq_nil_iff.2 (by simpa using h)]; rfl
theorem stb_norm (ho : KeyOrd kc) {l m : List (κ × ν)} (h : Stb (fun a b : κ × ν => decide (kc a.1 b.1 < 0)) l m) (k : κ) : l.foldl (stepO jn k) none = m.foldl (stepO jn k) none := by
  by_cases hk : ∃ c ∈ l, c.1 = k
  · obtain ⟨c, _, hc⟩ := hk
    have e : ∀ x : κ × ν, decide (x.1 = k) = eqv (fun a b : κ × ν => decide (kc a.1 b.1 < 0)) c x := by
      intro x
      rw [Bool.eq_iff_iff, eqv_iff]
      simp only [decide_eq_true_eq, decide_eq_false_iff_not]
      have n := ho.neg c.1 x.1
      rw [← hc]
      constructor
      · intro e; rw [e, ho.self]; omega
      · intro e; exact ((ho.zero c.1 x.1).1 (by omega)).symm
    rw [stepO_filter k l, stepO_filter k m, show (fun x : κ × ν => decide (x.1 = k)) = eqv (fun a b : κ × ν => decide (kc a.1 b.1 < 0)) c from funext e, h.same c]
  · have h1 : ∀ c ∈ l, c.1 ≠ k := fun c hc e => hk ⟨c, hc, e⟩
    rw [stepO_none k l h1, stepO_none k m fun c hc => h1 c (h.perm.mem_iff.2 hc)]

/-! the fold of a list that is sorted -/
def foldS (jn : ν → ν → ν) (acc : List (κ × ν)) (x : κ × ν) : List (κ × ν) := match acc.getLast? with
  | none => acc ++ [x]
  | some y => if y.1 = x.1 then acc.dropLast ++ [(y.1, jn y.2 x.2)] else acc ++ [x]
theorem foldS_nil (x : κ × ν) : foldS jn [] x = [x] := rfl
theorem foldS_snoc (a : List (κ × ν)) (y x : κ × ν) : foldS jn (a ++ [y]) x = if y.1 = x.1 then a ++ [(y.1, jn y.2 x.2)] else a ++ [y] ++ [x] := by
  unfold foldS; simp
def foldL (jn : ν → ν → ν) (l : List (κ × ν)) : List (κ × ν) := l.foldl (foldS jn) []
theorem foldS_law (ho : KeyOrd kc) (acc : List (κ × ν)) (x : κ × ν) (hs : SortedK kc acc) (hx : ∀ y ∈ acc, ¬ kc x.1 y.1 < 0) : SortedK kc (foldS jn acc x) ∧ (∀ y ∈ foldS jn acc x, ¬ kc x.1 y.1 < 0) ∧ ∀ k, findO (foldS jn acc x) k = stepO jn k (findO acc k) x := by
  rcases List.eq_nil_or_concat acc with rfl | ⟨a, y, rfl⟩
  · rw [foldS_nil]
    refine ⟨List.pairwise_singleton _ _, fun z hz => ?_, fun k => ?_⟩
    · rw [List.mem_singleton] at hz; subst hz; rw [ho.self]; omega
    · rw [findO_cons, findO_nil]; unfold stepO; rfl
  · rw [List.concat_eq_append] at hs hx ⊢
    obtain ⟨s1, s2, s3⟩ := List.pairwise_append.1 hs
    have hy := hx y (by simp)
    have ny := ho.neg x.1 y.1
    rw [foldS_snoc]
    by_cases h : y.1 = x.1
    · rw [if_pos h]
      have s3' : ∀ z ∈ a, kc z.1 y.1 < 0 := fun z hz => s3 z hz y (by simp)
      refine ⟨List.pairwise_append.2 ⟨s1, List.pairwise_singleton _ _, fun z hz w hw => ?_⟩, fun z hz => ?_, fun k => ?_⟩
      · rw [List.mem_singleton] at hw; subst hw; exact s3' z hz
      · rcases List.mem_append.1 hz with hz | hz
        · exact hx z (by simp [hz])
        · rw [List.mem_singleton] at hz; subst hz; exact hy
      · have fa : findO a y.1 = none := (findO_none _ _).2 fun z hz e => by have := s3' z hz; rw [e, ho.self] at this; omega
        rw [findO_app, findO_app, findO_cons, findO_cons, findO_nil]
        unfold stepO
        by_cases hk : x.1 = k
        · subst hk
          rw [if_pos h, if_pos h, if_pos rfl, ← h, fa]; rfl
        · have hk' : ¬ y.1 = k := by rw [h]; exact hk
          simp only [hk, hk', if_false]
    · rw [if_neg h]
      have hlt : kc y.1 x.1 < 0 := by
        have : kc y.1 x.1 ≠ 0 := fun e => h ((ho.zero _ _).1 e)
        omega
      have hall : ∀ z ∈ a ++ [y], kc z.1 x.1 < 0 := by
        intro z hz
        rcases List.mem_append.1 hz with hz | hz
        · exact ho.tr _ _ _ (s3 z hz y (by simp)) hlt
        · rw [List.mem_singleton] at hz; subst hz; exact hlt
      refine ⟨List.pairwise_append.2 ⟨hs, List.pairwise_singleton _ _, fun z hz w hw => ?_⟩, fun z hz => ?_, fun k => ?_⟩
      · rw [List.mem_singleton] at hw; subst hw; exact hall z hz
      · rcases List.mem_append.1 hz with hz | hz
        · exact hx z hz
        · rw [List.mem_singleton] at hz; subst hz; rw [ho.self]; omega
      · rw [findO_app, findO_cons, findO_nil]
        unfold stepO
        by_cases hk : x.1 = k
        · subst hk
          have fa : findO (a ++ [y]) x.1 = none := (findO_none _ _).2 fun z hz e => by have := hall z hz; rw [e, ho.self] at this; omega
          rw [if_pos rfl, if_pos rfl, fa]; rfl
        · rw [if_neg hk, if_neg hk, Option.or_none]
theorem foldL_from (ho : KeyOrd kc) : ∀ (l acc : List (κ × ν)), SortedK kc acc → Srt (fun a b : κ × ν => decide (kc a.1 b.1 < 0)) l → (∀ x ∈ l, ∀ y ∈ acc, ¬ kc x.1 y.1 < 0) →
    SortedK kc (l.foldl (foldS jn) acc) ∧ ∀ k, findO (l.foldl (foldS jn) acc) k = l.foldl (stepO jn k) (findO acc k)
  | [], acc, hs, _, _ => ⟨hs, fun _ => rfl⟩
  | x :: l, acc, hs, hl, hx => by
    obtain ⟨l1, l2⟩ := List.pairwise_cons.1 hl
    obtain ⟨a, b, c⟩ := foldS_law (jn := jn) ho acc x hs (hx x (by simp))
    have hx' : ∀ z ∈ l, ∀ y ∈ foldS jn acc x, ¬ kc z.1 y.1 < 0 := by
      intro z hz y hy
      have h1 := l1 z hz
      have h2 := b y hy
      have := (ho.ltOk (ν := ν)).ntr z x y h1 (by simpa using h2)
      simpa using this
    obtain ⟨i1, i2⟩ := foldL_from ho l _ a l2 hx'
    exact ⟨i1, fun k => by rw [List.foldl_cons, i2, c, List.foldl_cons]⟩
/-- What a stable sort and the fold behind it leave is the norm. -/
theorem foldL_norm (ho : KeyOrd kc) {l m : List (κ × ν)} (h : Stb (fun a b : κ × ν => decide (kc a.1 b.1 < 0)) l m) (hm : Srt (fun a b : κ × ν => decide (kc a.1 b.1 < 0)) m) : foldL jn m = normL kc jn l := by
  obtain ⟨a, b⟩ := foldL_from (jn := jn) ho m [] List.Pairwise.nil hm (by simp)
  refine sortedK_ext ho _ _ a (normL_sorted ho l) fun k => ?_
  show findO (m.foldl (foldS jn) []) k = _
  rw [b, normL_find ho, findO_nil, stb_norm ho h k]
theorem foldS_len (acc : List (κ × ν)) (x : κ × ν) : (foldS jn acc x).length ≤ acc.length + 1 := by
  rcases List.eq_nil_or_concat acc with rfl | ⟨a, y, rfl⟩
  · simp [foldS_nil]
  · rw [List.concat_eq_append, foldS_snoc]
    split <;> simp
end
end Go.Proofs.Ytefndmjimmbhnaa
end
