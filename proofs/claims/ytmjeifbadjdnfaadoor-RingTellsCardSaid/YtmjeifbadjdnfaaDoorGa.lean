/- Plain laws of rings: points that are sorted, the range of a token, a range's replicas, a node's ranges. They speak of no program; no condition. -/
set_option linter.unusedVariables false
set_option linter.unusedSimpArgs false
namespace Go.Proofs.YtmjeifbadjdnfaaDoor

abbrev Pt := Int × Int
def ptLe (a b : Pt) : Bool := decide (a.1 < b.1) || (decide (a.1 = b.1) && decide (a.2 ≤ b.2))
theorem ptLe_iff (a b : Pt) : ptLe a b = true ↔ a.1 < b.1 ∨ (a.1 = b.1 ∧ a.2 ≤ b.2) := by
  unfold ptLe; simp
theorem ptLe_trans (a b c : Pt) (h : ptLe a b = true) (k : ptLe b c = true) : ptLe a c = true := by
  rw [ptLe_iff] at *; omega
theorem ptLe_total (a b : Pt) : (ptLe a b || ptLe b a) = true := by
  rw [Bool.or_eq_true, ptLe_iff, ptLe_iff]; omega
theorem ptLe_anti (a b : Pt) (h : ptLe a b = true) (k : ptLe b a = true) : a = b := by
  rw [ptLe_iff] at *
  obtain ⟨a1, a2⟩ := a; obtain ⟨b1, b2⟩ := b
  simp only [Prod.mk.injEq] at *
  omega
def SortedP (l : List Pt) : Prop := l.Pairwise fun a b => ptLe a b = true
def sortP (l : List Pt) : List Pt := l.mergeSort ptLe
theorem sortP_sorted (l : List Pt) : SortedP (sortP l) := List.pairwise_mergeSort ptLe_trans ptLe_total l
theorem sortP_perm (l : List Pt) : (sortP l).Perm l := List.mergeSort_perm l ptLe
theorem sortP_unique (l m : List Pt) (hp : m.Perm l) (hs : SortedP m) : m = sortP l :=
  List.Perm.eq_of_pairwise (fun a b _ _ h k => ptLe_anti a b h k) hs (sortP_sorted l) (hp.trans (sortP_perm l).symm)
theorem SortedP.get {l : List Pt} (h : SortedP l) (i j : Nat) (hij : i < j) (hj : j < l.length) : ptLe l[i] l[j] = true := by
  exact List.pairwise_iff_getElem.1 h i j (by omega) hj hij
theorem sortP_ins (l : List Pt) (p : Pt) (j : Nat) (hj : j ≤ (sortP l).length) (hb : ∀ i (h : i < (sortP l).length), j ≤ i → ptLe (sortP l)[i] p = false)
    (hd : ∀ i (h : i < (sortP l).length), i + 1 = j → ptLe (sortP l)[i] p = true) : (sortP l).take j ++ p :: (sortP l).drop j = sortP (l ++ [p]) := by
  apply sortP_unique
  · have h1 : ((sortP l).take j ++ p :: (sortP l).drop j).Perm (p :: ((sortP l).take j ++ (sortP l).drop j)) := List.perm_middle
    rw [List.take_append_drop] at h1
    have h2 : (p :: sortP l).Perm (p :: l) := (sortP_perm l).cons p
    have h3 : (p :: l).Perm (l ++ [p]) := (List.perm_append_singleton p l).symm
    exact h1.trans (h2.trans h3)
  · have hs := sortP_sorted l
    have hgt : ∀ x ∈ (sortP l).drop j, ptLe p x = true := by
      intro x hx
      obtain ⟨i, hi, rfl⟩ := List.getElem_of_mem hx
      rw [List.length_drop] at hi
      rw [List.getElem_drop]
      have h1 := hb (j + i) (by omega) (by omega)
      have h2 := ptLe_total p (sortP l)[j + i]
      rw [h1, Bool.or_false] at h2
      exact h2
    have hle : ∀ x ∈ (sortP l).take j, ptLe x p = true := by
      intro x hx
      obtain ⟨i, hi, rfl⟩ := List.getElem_of_mem hx
      rw [List.length_take] at hi
      rw [List.getElem_take]
      have h1 := hd (j - 1) (by omega) (by omega)
      rcases Nat.lt_or_ge i (j - 1) with h | h
      · exact ptLe_trans _ _ _ (hs.get i (j - 1) h (by omega)) h1
      · have : i = j - 1 := by omega
        subst this; exact h1
    unfold SortedP
    rw [List.pairwise_append]
    refine ⟨List.Pairwise.sublist (List.take_sublist _ _) hs, ?_, ?_⟩
    · rw [List.pairwise_cons]
      exact ⟨hgt, List.Pairwise.sublist (List.drop_sublist _ _) hs⟩
    · intro a ha b hb'
      rcases List.mem_cons.1 hb' with rfl | hb'
      · exact hle a ha
      · exact ptLe_trans _ _ _ (hle a ha) (hgt b hb')

/-! an insertion, step by step -/
def insM (S : List Pt) (j : Nat) (x : Pt) : List Pt := S.take j ++ x :: S.drop j
theorem insM_length (S : List Pt) (j : Nat) (x : Pt) : (insM S j x).length = S.length + 1 := by
  simp only [insM, List.length_append, List.length_cons, List.length_take, List.length_drop]; omega
theorem insM_end (S : List Pt) (x : Pt) : S ++ [x] = insM S S.length x := by simp [insM]
theorem insM_get (S : List Pt) (j : Nat) (x : Pt) (i : Nat) (hi : i < j) (hj : j ≤ S.length) : (insM S j x)[i]'(by rw [insM_length]; omega) = S[i] := by
  unfold insM
  rw [List.getElem_append_left (by rw [List.length_take]; omega), List.getElem_take]
theorem insM_put (S : List Pt) (j : Nat) (x p : Pt) (hj : j ≤ S.length) : (insM S j x).set j p = insM S j p := by
  unfold insM
  rw [List.set_append, if_neg (by rw [List.length_take]; omega), List.length_take, Nat.min_eq_left hj, Nat.sub_self]; rfl
theorem insM_shift (S : List Pt) (j : Nat) (x : Pt) (hj : j < S.length) : (insM S (j + 1) x).set (j + 1) S[j] = insM S j S[j] := by
  rw [insM_put S (j + 1) x S[j] (by omega)]
  unfold insM
  rw [List.take_add_one, List.getElem?_eq_getElem hj, List.append_assoc, List.drop_eq_getElem_cons hj]; rfl

/-! the points -/
def ptsRow (T : Nat → Nat → Int) (a k : Nat) : List Pt := (List.range k).map fun b => (T a b, (a : Int) + 1)
def pts (T : Nat → Nat → Int) (n k : Nat) : List Pt := (List.range n).flatMap fun a => ptsRow T a k
theorem ptsRow_succ (T : Nat → Nat → Int) (a k : Nat) : ptsRow T a (k + 1) = ptsRow T a k ++ [(T a k, (a : Int) + 1)] := by simp [ptsRow, List.range_succ]
theorem pts_succ (T : Nat → Nat → Int) (n k : Nat) : pts T (n + 1) k = pts T n k ++ ptsRow T n k := by simp [pts, List.range_succ]
theorem ptsRow_length (T : Nat → Nat → Int) (a k : Nat) : (ptsRow T a k).length = k := by simp [ptsRow]
theorem pts_length (T : Nat → Nat → Int) (n k : Nat) : (pts T n k).length = n * k := by
  induction n with
  | zero => simp [pts]
  | succ n ih => rw [pts_succ, List.length_append, ih, ptsRow_length, Nat.succ_mul]
def ringL (T : Nat → Nat → Int) (n k : Nat) : List Pt := sortP (pts T n k)
theorem ringL_length (T : Nat → Nat → Int) (n k : Nat) : (ringL T n k).length = n * k := by
  rw [ringL, (sortP_perm _).length_eq, pts_length]
theorem ringL_sorted (T : Nat → Nat → Int) (n k : Nat) : SortedP (ringL T n k) := sortP_sorted _
theorem ringL_mem (T : Nat → Nat → Int) (n k : Nat) (p : Pt) (h : p ∈ ringL T n k) : 1 ≤ p.2 ∧ p.2 ≤ n ∧ ∃ a b, p.1 = T a b := by
  have h := (sortP_perm _).mem_iff.1 h
  simp only [pts, ptsRow, List.mem_flatMap, List.mem_range, List.mem_map] at h
  obtain ⟨a, ha, b, hb, rfl⟩ := h
  refine ⟨?_, ?_, a, b, rfl⟩ <;> simp only <;> omega
theorem ringL_all (T : Nat → Nat → Int) (n k : Nat) (h0 : 0 < k) (m : Int) (h1 : 1 ≤ m) (h2 : m ≤ n) : m ∈ (ringL T n k).map (·.2) := by
  rw [List.mem_map]
  refine ⟨(T (m - 1).toNat 0, m), (sortP_perm _).mem_iff.2 ?_, rfl⟩
  simp only [pts, ptsRow, List.mem_flatMap, List.mem_range, List.mem_map]
  refine ⟨(m - 1).toNat, by omega, 0, h0, ?_⟩
  simp only [Prod.mk.injEq, true_and]; omega
theorem ringL_count (T : Nat → Nat → Int) (n k : Nat) (m : Int) (h1 : 1 ≤ m) (h2 : m ≤ n) : (ringL T n k).countP (fun p => p.2 == m) = k := by
  rw [ringL, (sortP_perm _).countP_eq]
  have row : ∀ a, (ptsRow T a k).countP (fun p => p.2 == m) = if (a : Int) + 1 = m then k else 0 := by
    intro a
    unfold ptsRow
    rw [List.countP_map]
    by_cases h : (a : Int) + 1 = m
    · rw [if_pos h, List.countP_eq_length.2, List.length_range]
      intro x _; simp [h]
    · rw [if_neg h, List.countP_eq_zero.2]
      intro x _; simpa using h
  have all : ∀ n : Nat, (pts T n k).countP (fun p => p.2 == m) = if m ≤ n then k else 0 := by
    intro n
    induction n with
    | zero => rw [if_neg (by omega)]; simp [pts]
    | succ n ih =>
      rw [pts_succ, List.countP_append, ih, row]
      by_cases h : m ≤ n
      · rw [if_pos h, if_neg (by omega), if_pos (by omega)]; omega
      · by_cases h' : (n : Int) + 1 = m
        · rw [if_neg h, if_pos h', if_pos (by omega)]; omega
        · rw [if_neg h, if_neg h', if_neg (by omega)]
  rw [all, if_pos h2]

/-! the range of a token -/
def lessN (L : List Pt) (t : Int) : Nat := L.countP fun p => decide (p.1 < t)
def rangeL (L : List Pt) (t : Int) : Nat := lessN L t % L.length
theorem lessN_le (L : List Pt) (t : Int) : lessN L t ≤ L.length := List.countP_le_length
theorem lessN_at (L : List Pt) (t : Int) (hs : SortedP L) : ∀ i (h : i < L.length), (L[i].1 < t ↔ i < lessN L t) := by
  induction L with
  | nil => intro i h; simp at h
  | cons x r ih =>
    have hr := ih (List.pairwise_cons.1 hs).2
    have hx := (List.pairwise_cons.1 hs).1
    intro i h
    by_cases hxt : x.1 < t
    · have e : lessN (x :: r) t = lessN r t + 1 := by simp [lessN, hxt]
      rw [e]
      rcases i with _ | i
      · simp [hxt]
      · have := hr i (by simpa using h)
        simp only [List.getElem_cons_succ]
        omega
    · have e0 : ∀ y ∈ x :: r, ¬ y.1 < t := by
        intro y hy
        rcases List.mem_cons.1 hy with rfl | hy
        · exact hxt
        · have := hx y hy
          rw [ptLe_iff] at this
          omega
      have e : lessN (x :: r) t = 0 := by
        unfold lessN
        rw [List.countP_eq_zero]
        intro y hy; simpa using e0 y hy
      rw [e]
      have := e0 _ (List.getElem_mem h)
      omega
theorem lessN_eq (L : List Pt) (t : Int) (hs : SortedP L) (i : Nat) (hi : i ≤ L.length) (h1 : ∀ j (h : j < L.length), j < i → L[j].1 < t) (h2 : ∀ h : i < L.length, t ≤ L[i].1) : lessN L t = i := by
  have hle := lessN_le L t
  rcases Nat.lt_trichotomy (lessN L t) i with h | h | h
  · have := h1 (lessN L t) (by omega) h
    have := (lessN_at L t hs (lessN L t) (by omega)).1 this
    omega
  · exact h
  · have := h2 (by omega)
    have h3 := (lessN_at L t hs i (by omega)).2 h
    omega
theorem rangeL_lt (L : List Pt) (t : Int) (h : 0 < L.length) : rangeL L t < L.length := Nat.mod_lt _ h
theorem rangeL_of_lt (L : List Pt) (t : Int) (h : lessN L t < L.length) : rangeL L t = lessN L t := Nat.mod_eq_of_lt h
theorem rangeL_of_eq (L : List Pt) (t : Int) (h : lessN L t = L.length) : rangeL L t = 0 := by unfold rangeL; rw [h, Nat.mod_self]
/-- the next point's -/
theorem rangeL_next (L : List Pt) (t : Int) (hs : SortedP L) (h : 0 < L.length) :
    (∀ j (hj : j < L.length), j + 1 = rangeL L t → L[j].1 < t) ∧ (0 < rangeL L t → ∀ hk : rangeL L t < L.length, t ≤ L[rangeL L t].1) ∧ (rangeL L t = 0 → t ≤ (L[0]'h).1 ∨ ∀ j (hj : j < L.length), L[j].1 < t) := by
  have hle := lessN_le L t
  rcases Nat.lt_or_ge (lessN L t) L.length with hlt | hge
  · rw [rangeL_of_lt L t hlt]
    refine ⟨fun j hj e => (lessN_at L t hs j hj).2 (by omega), fun _ hk => ?_, fun e => .inl ?_⟩
    · have := (lessN_at L t hs (lessN L t) hk)
      omega
    · have := lessN_at L t hs 0 h
      omega
  · rw [rangeL_of_eq L t (by omega)]
    refine ⟨fun j hj e => by omega, fun e => by omega, fun _ => .inr fun j hj => (lessN_at L t hs j hj).2 (by omega)⟩

/-! replicas -/
def repL (c : Nat) : List Int → List Int → List Int
  | out, [] => out
  | out, n :: r => if n ∉ out ∧ out.length < c then repL c (out ++ [n]) r else repL c out r
theorem repL_app (c : Nat) (a b : List Int) : ∀ out, repL c out (a ++ b) = repL c (repL c out a) b := by
  induction a with
  | nil => intro out; rfl
  | cons n r ih =>
    intro out
    show repL c out (n :: (r ++ b)) = _
    simp only [repL]
    split
    · exact ih _
    · exact ih _
theorem repL_full (c : Nat) (a : List Int) : ∀ out, c ≤ out.length → repL c out a = out := by
  induction a with
  | nil => intro out _; rfl
  | cons n r ih => intro out h; simp only [repL]; rw [if_neg (by omega)]; exact ih out h
theorem repL_nodup (c : Nat) (a : List Int) : ∀ out, out.Nodup → (repL c out a).Nodup := by
  induction a with
  | nil => intro out h; exact h
  | cons n r ih =>
    intro out h
    simp only [repL]
    split
    · rename_i hn
      refine ih _ ?_
      rw [List.nodup_append]
      refine ⟨h, by simp, ?_⟩
      intro x hx y hy e
      simp only [List.mem_singleton] at hy
      subst hy e
      exact hn.1 hx
    · exact ih out h
theorem repL_sub (c : Nat) (a : List Int) : ∀ out x, x ∈ repL c out a → x ∈ out ∨ x ∈ a := by
  induction a with
  | nil => intro out x h; exact .inl h
  | cons n r ih =>
    intro out x h
    simp only [repL] at h
    split at h
    · rcases ih _ x h with h | h
      · rcases List.mem_append.1 h with h | h
        · exact .inl h
        · rw [List.mem_singleton] at h; subst h; exact .inr (by simp)
      · exact .inr (List.mem_cons_of_mem _ h)
    · rcases ih _ x h with h | h
      · exact .inl h
      · exact .inr (List.mem_cons_of_mem _ h)
theorem repL_pre (c : Nat) (a : List Int) : ∀ out, ∃ s, repL c out a = out ++ s := by
  induction a with
  | nil => intro out; exact ⟨[], (List.append_nil _).symm⟩
  | cons n r ih =>
    intro out
    simp only [repL]
    split
    · obtain ⟨s, hs⟩ := ih (out ++ [n])
      exact ⟨n :: s, by rw [hs, List.append_assoc]; rfl⟩
    · exact ih out
theorem repL_le (c : Nat) (a : List Int) : ∀ out, out.length ≤ c → (repL c out a).length ≤ c := by
  induction a with
  | nil => intro out h; exact h
  | cons n r ih =>
    intro out h
    simp only [repL]
    split
    · refine ih _ ?_
      rw [List.length_append, List.length_singleton]; omega
    · exact ih out h
theorem repL_met (c : Nat) (a : List Int) : ∀ out, out.length ≤ c → (repL c out a).length = c ∨ ∀ n ∈ a, n ∈ repL c out a := by
  induction a with
  | nil => intro out _; exact .inr (by simp)
  | cons n r ih =>
    intro out h
    simp only [repL]
    split
    · rename_i hn
      rcases ih (out ++ [n]) (by rw [List.length_append, List.length_singleton]; omega) with h | h
      · exact .inl h
      · refine .inr fun x hx => ?_
        rcases List.mem_cons.1 hx with rfl | hx
        · obtain ⟨s, hs⟩ := repL_pre c r (out ++ [x])
          rw [hs]; simp
        · exact h x hx
    · rename_i hn
      rcases ih out h with h' | h'
      · exact .inl h'
      · by_cases hc : out.length < c
        · refine .inr fun x hx => ?_
          rcases List.mem_cons.1 hx with rfl | hx
          · obtain ⟨s, hs⟩ := repL_pre c r out
            rw [hs]
            have : x ∈ out := Classical.byContradiction fun e => hn ⟨e, hc⟩
            exact List.mem_append_left _ this
          · exact h' x hx
        · exact .inl (by rw [repL_full c r out (by omega)]; omega)
def upTo (N : Nat) : List Int := (List.range N).map fun (m : Nat) => (m : Int) + 1
theorem upTo_length (N : Nat) : (upTo N).length = N := by simp [upTo]
theorem upTo_nodup (N : Nat) : (upTo N).Nodup := by
  unfold upTo
  rw [List.nodup_iff_pairwise_ne, List.pairwise_map]
  exact List.Pairwise.imp (fun h e => h (by omega)) (List.nodup_iff_pairwise_ne.1 List.nodup_range)
theorem upTo_mem (N : Nat) (m : Int) : m ∈ upTo N ↔ 1 ≤ m ∧ m ≤ N := by
  simp only [upTo, List.mem_map, List.mem_range]
  constructor
  · rintro ⟨a, h, rfl⟩; omega
  · intro h; exact ⟨(m - 1).toNat, by omega, by omega⟩
theorem repL_length (c N : Nat) (a : List Int) (hc : c ≤ N) (hall : ∀ m : Int, 1 ≤ m → m ≤ N → m ∈ a) : (repL c [] a).length = c := by
  have hle := repL_le c a [] (by simp)
  rcases repL_met c a [] (by simp) with h | h
  · exact h
  · have := List.Nodup.length_le_of_subset (upTo_nodup N) (l₂ := repL c [] a) (fun m hm => by
      have hm := (upTo_mem N m).1 hm
      exact h m (hall m hm.1 hm.2))
    rw [upTo_length] at this
    omega
def nodesFrom (L : List Pt) (i : Nat) : List Int := (L.drop i ++ L.take i).map (·.2)
def repOf (L : List Pt) (c : Nat) (i : Int) : List Int := if i < 0 ∨ (L.length : Int) ≤ i then [] else repL c [] (nodesFrom L i.toNat)
theorem nodesFrom_mem (L : List Pt) (i : Nat) (m : Int) : m ∈ nodesFrom L i ↔ m ∈ L.map (·.2) := by
  have : (L.drop i ++ L.take i).Perm L := by
    have h := List.perm_append_comm (l₁ := L.drop i) (l₂ := L.take i)
    rwa [List.take_append_drop] at h
  exact (this.map _).mem_iff
theorem nodesFrom_length (L : List Pt) (i : Nat) : (nodesFrom L i).length = L.length := by
  simp only [nodesFrom, List.length_map, List.length_append, List.length_drop, List.length_take]; omega
theorem nodesFrom_get (L : List Pt) (i k : Nat) (hi : i < L.length) (hk : k < L.length) : (nodesFrom L i)[k]? = some (L[(i + k) % L.length]'(Nat.mod_lt _ (by omega))).2 := by
  simp only [nodesFrom, List.getElem?_map]
  rcases Nat.lt_or_ge (i + k) L.length with h | h
  · rw [List.getElem?_append_left (by rw [List.length_drop]; omega), List.getElem?_drop, List.getElem?_eq_getElem h]
    simp only [Option.map_some, Nat.mod_eq_of_lt h]
  · have e : (i + k) % L.length = i + k - L.length := by rw [Nat.mod_eq_sub_mod h, Nat.mod_eq_of_lt (by omega)]
    rw [List.getElem?_append_right (by rw [List.length_drop]; omega), List.length_drop, List.getElem?_take, if_pos (by omega), show k - (L.length - i) = i + k - L.length by omega, List.getElem?_eq_getElem (by omega)]
    simp only [Option.map_some, e]
/-- What is asked of a ring's points. -/
structure RingP (L : List Pt) (N c : Nat) : Prop where
  sorted : SortedP L
  mem : ∀ p ∈ L, 1 ≤ p.2 ∧ p.2 ≤ N
  all : ∀ m : Int, 1 ≤ m → m ≤ N → m ∈ L.map (·.2)
  cn : c ≤ N
  c0 : 0 < c
theorem ringL_ring (T : Nat → Nat → Int) (n k c : Nat) (hk : 0 < k) (hc : 0 < c) (hcn : c ≤ n) : RingP (ringL T n k) n c :=
  ⟨ringL_sorted T n k, fun p hp => ⟨(ringL_mem T n k p hp).1, (ringL_mem T n k p hp).2.1⟩, fun m h1 h2 => ringL_all T n k hk m h1 h2, hcn, hc⟩
theorem repOf_length {L : List Pt} {N c : Nat} (h : RingP L N c) (i : Nat) (hi : i < L.length) : (repOf L c i).length = c := by
  unfold repOf
  rw [if_neg (by omega), Int.toNat_natCast]
  exact repL_length c N _ h.cn (fun m h1 h2 => (nodesFrom_mem L i m).2 (h.all m h1 h2))
theorem repOf_nodup (L : List Pt) (c : Nat) (i : Int) : (repOf L c i).Nodup := by
  unfold repOf
  split
  · simp
  · exact repL_nodup c _ [] (by simp)
theorem repOf_mem {L : List Pt} {N c : Nat} (h : RingP L N c) (i : Int) (m : Int) (hm : m ∈ repOf L c i) : 1 ≤ m ∧ m ≤ N := by
  unfold repOf at hm
  split at hm
  · simp at hm
  · rcases repL_sub c _ [] m hm with hm | hm
    · simp at hm
    · rw [nodesFrom_mem, List.mem_map] at hm
      obtain ⟨p, hp, rfl⟩ := hm
      exact h.mem p hp
theorem repOf_head {L : List Pt} {c : Nat} (h0 : 0 < c) (i : Nat) (hi : i < L.length) : ∃ s, repOf L c i = L[i].2 :: s := by
  unfold repOf
  rw [if_neg (by omega), Int.toNat_natCast]
  have e : nodesFrom L i = L[i].2 :: ((L.drop (i + 1) ++ L.take i).map (·.2)) := by
    unfold nodesFrom
    rw [List.drop_eq_getElem_cons hi]; rfl
  rw [e]
  simp only [repL]
  rw [if_pos ⟨by simp, by simpa using h0⟩]
  obtain ⟨s, hs⟩ := repL_pre c ((L.drop (i + 1) ++ L.take i).map (·.2)) ([] ++ [L[i].2])
  exact ⟨s, by rw [hs]; rfl⟩
theorem repOf_all {L : List Pt} {N : Nat} (h : RingP L N N) (i : Nat) (hi : i < L.length) (m : Int) (h1 : 1 ≤ m) (h2 : m ≤ N) : m ∈ repOf L N i := by
  refine Classical.byContradiction fun hn => ?_
  have := List.Nodup.length_le_of_subset (l₁ := m :: repOf L N i) (l₂ := upTo N) (List.nodup_cons.2 ⟨hn, repOf_nodup L N i⟩) (fun x hx => by
    rcases List.mem_cons.1 hx with rfl | hx
    · exact (upTo_mem N _).2 ⟨h1, h2⟩
    · exact (upTo_mem N x).2 (repOf_mem h i x hx))
  rw [List.length_cons, repOf_length h i hi, upTo_length] at this
  omega
theorem repOf_one {L : List Pt} {N : Nat} (h : RingP L N 1) (i : Nat) (hi : i < L.length) : repOf L 1 i = [L[i].2] := by
  obtain ⟨s, hs⟩ := repOf_head (c := 1) (by decide) i hi
  have := repOf_length h i hi
  rw [hs] at this ⊢
  rw [List.length_cons] at this
  rw [List.eq_nil_of_length_eq_zero (by omega : s.length = 0)]

/-! a node's ranges -/
def rangesTo (L : List Pt) (c : Nat) (m : Int) (k : Nat) : List Int := ((List.range k).filter fun (i : Nat) => decide (m ∈ repOf L c (i : Int))).map fun (i : Nat) => (i : Int)
theorem rangesTo_succ (L : List Pt) (c : Nat) (m : Int) (k : Nat) : rangesTo L c m (k + 1) = rangesTo L c m k ++ (if m ∈ repOf L c (k : Int) then [(k : Int)] else []) := by
  unfold rangesTo
  rw [List.range_succ, List.filter_append, List.map_append]
  congr 1
  by_cases h : m ∈ repOf L c (k : Int) <;> simp [h]
def rangesOf (L : List Pt) (c : Nat) (m : Int) : List Int := rangesTo L c m L.length
theorem rangesTo_length_le (L : List Pt) (c : Nat) (m : Int) (k : Nat) : (rangesTo L c m k).length ≤ k := by
  unfold rangesTo
  rw [List.length_map]
  have := List.length_filter_le (fun i => decide (m ∈ repOf L c ((i : Nat) : Int))) (List.range k)
  rwa [List.length_range] at this
def heldTo (L : List Pt) (c : Nat) : Nat → Nat → Nat
  | 0, _ => 0
  | n + 1, k => heldTo L c n k + (rangesTo L c ((n : Int) + 1) k).length
theorem heldTo_step (L : List Pt) (c n k : Nat) : heldTo L c n (k + 1) = heldTo L c n k + (upTo n).countP (fun m => decide (m ∈ repOf L c (k : Int))) := by
  induction n with
  | zero => simp [heldTo, upTo]
  | succ n ih =>
    have hu : upTo (n + 1) = upTo n ++ [(n : Int) + 1] := by simp [upTo, List.range_succ]
    simp only [heldTo]
    rw [ih, rangesTo_succ, List.length_append, hu, List.countP_append]
    by_cases h : ((n : Int) + 1) ∈ repOf L c (k : Int) <;> simp [h] <;> omega
theorem held_count {L : List Pt} {N c : Nat} (h : RingP L N c) (i : Nat) (hi : i < L.length) : (upTo N).countP (fun m => decide (m ∈ repOf L c (i : Int))) = c := by
  have h1 := List.Nodup.length_le_of_subset (l₁ := (upTo N).filter fun m => decide (m ∈ repOf L c (i : Int))) (l₂ := repOf L c i) ((upTo_nodup N).filter _) (fun x hx => by simpa using (List.mem_filter.1 hx).2)
  have h2 := List.Nodup.length_le_of_subset (l₂ := (upTo N).filter fun m => decide (m ∈ repOf L c (i : Int))) (l₁ := repOf L c i) (repOf_nodup L c i) (fun x hx => List.mem_filter.2 ⟨(upTo_mem N x).2 (repOf_mem h i x hx), by simpa using hx⟩)
  rw [repOf_length h i hi] at h1 h2
  rw [List.countP_eq_length_filter]
  omega
theorem held_eq {L : List Pt} {N c : Nat} (h : RingP L N c) : ∀ k, k ≤ L.length → heldTo L c N k = k * c := by
  intro k
  induction k with
  | zero =>
    intro _
    have : ∀ n, heldTo L c n 0 = 0 := by
      intro n
      induction n with
      | zero => rfl
      | succ n ih => simp only [heldTo]; rw [ih]; simp [rangesTo]
    rw [this]; omega
  | succ k ih =>
    intro hk
    rw [heldTo_step, ih (by omega), held_count h k (by omega), Nat.succ_mul]
theorem ranges_all {L : List Pt} {N : Nat} (h : RingP L N N) (m : Int) (h1 : 1 ≤ m) (h2 : m ≤ N) : (rangesOf L N m).length = L.length := by
  unfold rangesOf rangesTo
  rw [List.length_map, List.filter_eq_self.2, List.length_range]
  intro i hi
  rw [List.mem_range] at hi
  simpa using repOf_all h i hi m h1 h2
theorem ranges_one {L : List Pt} {N : Nat} (h : RingP L N 1) (m : Int) : (rangesOf L 1 m).length = L.countP (fun p => p.2 == m) := by
  have key : ∀ k, k ≤ L.length → (rangesTo L 1 m k).length = (L.take k).countP (fun p => p.2 == m) := by
    intro k
    induction k with
    | zero => intro _; simp [rangesTo]
    | succ k ih =>
      intro hk
      rw [rangesTo_succ, List.length_append, ih (by omega), repOf_one h k (by omega), List.take_add_one, List.countP_append, List.getElem?_eq_getElem (by omega)]
      by_cases e : m = L[k].2
      · simp [← e]
      · have e' : ¬ L[k].2 = m := fun x => e x.symm
        simp [e, e']
  have := key L.length (Nat.le_refl _)
  rwa [List.take_length] at this
end Go.Proofs.YtmjeifbadjdnfaaDoor
