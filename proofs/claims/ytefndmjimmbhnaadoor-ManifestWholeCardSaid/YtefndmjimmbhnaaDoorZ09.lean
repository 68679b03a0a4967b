/- Plain laws of layer 13: a manifest in bytes and back; what is none. No program in sight; no condition. -/
import Derived.Test.YtefndmjimmbhnaaDoorZ00
section
set_option linter.unusedVariables false
set_option linter.unusedSimpArgs false
namespace Go.Proofs.YtefndmjimmbhnaaDoor
open Go.RowKit

def tabB (nx : Int) (l : List Int) (k : Nat) : Bool := (decide (1 ≤ l.getD k 0) && decide (l.getD k 0 ≤ nx - 1)) && !(l.take k).contains (l.getD k 0)
def goodM (l : List Int) (nx fr : Int) : Bool := (decide (1 ≤ nx) && decide (nx ≤ 999999999)) && (decide (1 ≤ fr) && decide (fr ≤ 999999999)) && decide (l.length ≤ 30) && (List.range l.length).all (tabB nx l)
theorem tab_take (nx : Int) (l : List Int) (k : Nat) : (List.range (k + 1)).all (tabB nx l) = ((List.range k).all (tabB nx l) && tabB nx l k) := by
  rw [List.range_succ, List.all_append]; simp


def numsL (l : List Int) : List UInt8 := l.flatMap fun n => putL n.toNat
def encM (l : List Int) (nx fr : Int) : List UInt8 := numsL (nx :: fr :: (l.length : Int) :: l)
theorem numsL_snoc (l : List Int) (n : Int) : numsL (l ++ [n]) = numsL l ++ putL n.toNat := by simp [numsL]
theorem numsL_len (l : List Int) (h : ∀ n ∈ l, n.toNat < 18446744073709551616) : (numsL l).length ≤ 10 * l.length := by
  induction l with
  | nil => simp [numsL]
  | cons a l ih =>
    have e : numsL (a :: l) = putL a.toNat ++ numsL l := by simp [numsL]
    have h1 := putL_len 9 a.toNat (by have := h a (by simp); omega)
    have h2 := ih (fun n hn => h n (by simp [hn]))
    rw [e, List.length_append, List.length_cons]; omega
/-- one number more -/
def nextM (ok : Bool) (c : List UInt8) : Int × Bool × List UInt8 := match getL 0 0 c with
  | none => (0, false, c)
  | some (u, k) => (wrap64 (u : Int), ok && decide ((u : Int) ≤ 999999999), c.drop k)
def loopM : Nat → Bool → List UInt8 → List Int → Bool × List UInt8 × List Int
  | 0, ok, c, ts => (ok, c, ts)
  | _ + 1, false, c, ts => (false, c, ts)
  | n + 1, true, c, ts => loopM n (nextM true c).2.1 (nextM true c).2.2 (ts ++ [(nextM true c).1])
def badM : (List Int × Int × Int) × Int := (([], 0, 0), 8)
def endM (nx fr : Int) (r : Bool × List UInt8 × List Int) : (List Int × Int × Int) × Int := if r.1 = true ∧ r.2.1 = [] ∧ goodM r.2.2 nx fr = true then ((r.2.2, nx, fr), 0) else badM
def readM' (ok : Bool) (c : List UInt8) : (List Int × Int × Int) × Int :=
  endM (nextM ok c).1 (nextM (nextM ok c).2.1 (nextM ok c).2.2).1
    (loopM (nextM (nextM (nextM ok c).2.1 (nextM ok c).2.2).2.1 (nextM (nextM ok c).2.1 (nextM ok c).2.2).2.2).1.toNat
      (nextM (nextM (nextM ok c).2.1 (nextM ok c).2.2).2.1 (nextM (nextM ok c).2.1 (nextM ok c).2.2).2.2).2.1
      (nextM (nextM (nextM ok c).2.1 (nextM ok c).2.2).2.1 (nextM (nextM ok c).2.1 (nextM ok c).2.2).2.2).2.2 [])
def readM (b : List UInt8) : (List Int × Int × Int) × Int := readM' ((unframeL b).2.2 == 0 && (((unframeL b).2.1 : Int) == (b.length : Int))) (unframeL b).1

theorem nextM_false (c : List UInt8) : (nextM false c).2.1 = false := by unfold nextM; split <;> rfl
theorem loopM_false : ∀ (n : Nat) (c : List UInt8) (ts : List Int), (loopM n false c ts).1 = false
  | 0, _, _ => rfl
  | _ + 1, _, _ => rfl
theorem readM'_false (c : List UInt8) : readM' false c = badM := by
  unfold readM' endM
  rw [if_neg]
  rw [nextM_false, nextM_false, nextM_false, loopM_false]
  simp

/-! the document's way: all numbers first -/
def decsL : Nat → List UInt8 → Option (List Int)
  | 0, _ => some []
  | _ + 1, [] => some []
  | n + 1, x :: r => match getL 0 0 (x :: r) with
    | none => none
    | some (u, k) => if (999999999 : Int) < (u : Int) then none else (decsL n ((x :: r).drop k)).map ((u : Int) :: ·)
def endR (l : List Int) : (List Int × Int × Int) × Int := match l with
  | nx :: fr :: k :: ts => if (ts.length : Int) = k ∧ goodM ts nx fr = true then ((ts, nx, fr), 0) else badM
  | _ => badM
def refReadM (b : List UInt8) : (List Int × Int × Int) × Int :=
  if (unframeL b).2.2 ≠ 0 ∨ (unframeL b).2.1 ≠ b.length then badM else
  match decsL (unframeL b).1.length (unframeL b).1 with
  | none => badM
  | some l => endR l
theorem getL_nil : getL 0 0 [] = none := rfl
theorem getL0_pos {l : List UInt8} {u k : Nat} (h : getL 0 0 l = some (u, k)) : 0 < k ∧ k ≤ l.length ∧ u < 18446744073709551616 := by
  have := getL_bound l 0 0 u k (by decide) (by decide) h
  omega
/-- the fuel is no matter -/
theorem decsL_fuel : ∀ (n m : Nat) (c : List UInt8), c.length ≤ n → c.length ≤ m → decsL n c = decsL m c
  | 0, 0, c, _, _ => rfl
  | 0, m + 1, c, h, _ => by
    obtain rfl : c = [] := List.eq_nil_of_length_eq_zero (by omega)
    rfl
  | n + 1, 0, c, _, h => by
    obtain rfl : c = [] := List.eq_nil_of_length_eq_zero (by omega)
    rfl
  | n + 1, m + 1, [], _, _ => rfl
  | n + 1, m + 1, x :: r, h, h' => by
    rw [decsL, decsL]
    split
    · rfl
    · rename_i u k hg
      have := getL0_pos hg
      rw [decsL_fuel n m ((x :: r).drop k) (by rw [List.length_drop]; omega) (by rw [List.length_drop]; omega)]
/-- all numbers of bytes -/
def decs (c : List UInt8) : Option (List Int) := decsL c.length c
theorem decs_nil : decs [] = some [] := rfl
theorem decs_none {c : List UInt8} (hc : c ≠ []) (h : getL 0 0 c = none) : decs c = none := by
  match c, hc with
  | x :: r, _ =>
    unfold decs
    rw [List.length_cons, decsL, h]
theorem decs_some {c : List UInt8} {u k : Nat} (h : getL 0 0 c = some (u, k)) : decs c = if (999999999 : Int) < (u : Int) then none else (decs (c.drop k)).map ((u : Int) :: ·) := by
  match c, h with
  | [], h => simp [getL] at h
  | x :: r, h =>
    have := getL0_pos h
    show decsL (r.length + 1) (x :: r) = _
    rw [decsL, h]
    show (if (999999999 : Int) < (u : Int) then none else (decsL r.length ((x :: r).drop k)).map ((u : Int) :: ·)) = _
    rw [decsL_fuel r.length ((x :: r).drop k).length ((x :: r).drop k) (by rw [List.length_drop]; simp at this ⊢; omega) (Nat.le_refl _)]
    rfl
theorem nextM_none {ok : Bool} {c : List UInt8} (h : getL 0 0 c = none) : nextM ok c = (0, false, c) := by unfold nextM; rw [h]
theorem nextM_some {ok : Bool} {c : List UInt8} {u k : Nat} (h : getL 0 0 c = some (u, k)) : nextM ok c = (wrap64 (u : Int), ok && decide ((u : Int) ≤ 999999999), c.drop k) := by unfold nextM; rw [h]
theorem wrap64_small (u : Nat) (h : (u : Int) ≤ 999999999) : wrap64 (u : Int) = u := by unfold wrap64; omega
def goodEnd (r : Bool × List UInt8 × List Int) : Prop := r.1 = true ∧ r.2.1 = []
theorem loop_dec : ∀ (n : Nat) (c : List UInt8) (ts : List Int), (∀ l, decs c = some l → l.length = n → loopM n true c ts = (true, [], ts ++ l)) ∧ ((∀ l, decs c = some l → l.length ≠ n) → ¬ goodEnd (loopM n true c ts))
  | 0, c, ts => by
    refine ⟨fun l h hl => ?_, fun h hg => ?_⟩
    · obtain rfl : l = [] := List.eq_nil_of_length_eq_zero hl
      by_cases hc : c = []
      · subst hc; rw [List.append_nil]; rfl
      · rcases hg : getL 0 0 c with _ | ⟨u, k⟩
        · rw [decs_none hc hg] at h; cases h
        · rw [decs_some hg] at h
          split at h
          · cases h
          · cases hd : decs (c.drop k) <;> rw [hd] at h <;> simp at h
    · have : c = [] := hg.2
      subst this
      exact h [] decs_nil rfl
  | n + 1, c, ts => by
    rcases hg : getL 0 0 c with _ | ⟨u, k⟩
    · refine ⟨fun l h hl => ?_, fun _ hge => ?_⟩
      · by_cases hc : c = []
        · subst hc; rw [decs_nil] at h; injection h with h; subst h; simp at hl
        · rw [decs_none hc hg] at h; cases h
      · rw [loopM, nextM_none hg] at hge
        have := hge.1
        rw [loopM_false] at this; cases this
    · by_cases hu : (999999999 : Int) < (u : Int)
      · refine ⟨fun l h hl => ?_, fun _ hge => ?_⟩
        · rw [decs_some hg, if_pos hu] at h; cases h
        · rw [loopM, nextM_some hg, decide_eq_false (by omega)] at hge
          have := hge.1
          simp only [Bool.and_false, loopM_false] at this; cases this
      · have e : loopM (n + 1) true c ts = loopM n true (c.drop k) (ts ++ [(u : Int)]) := by
          rw [loopM, nextM_some hg, decide_eq_true (by omega), wrap64_small u (by omega)]; rfl
        rw [e]
        have ih := loop_dec n (c.drop k) (ts ++ [(u : Int)])
        rw [decs_some hg, if_neg hu]
        refine ⟨fun l h hl => ?_, fun h => ih.2 fun l hl hn => ?_⟩
        · cases hd : decs (c.drop k) with
          | none => rw [hd] at h; cases h
          | some l' =>
            rw [hd] at h; injection h with h; subst h
            rw [ih.1 l' hd (by simpa using hl), List.append_assoc]; rfl
        · exact h ((u : Int) :: l) (by rw [hl]; rfl) (by simp [hn])
theorem goodM_pos {l : List Int} {nx fr : Int} (h : goodM l nx fr = true) : 1 ≤ nx ∧ nx ≤ 999999999 ∧ 1 ≤ fr ∧ fr ≤ 999999999 ∧ l.length ≤ 30 ∧ ∀ k, k < l.length → 1 ≤ l.getD k 0 ∧ l.getD k 0 ≤ nx - 1 := by
  unfold goodM at h
  simp only [Bool.and_eq_true, decide_eq_true_eq, List.all_eq_true, List.mem_range] at h
  obtain ⟨⟨⟨⟨a, b⟩, c, d⟩, e⟩, f⟩ := h
  refine ⟨a, b, c, d, e, fun k hk => ?_⟩
  have := f k hk
  unfold tabB at this
  simp only [Bool.and_eq_true, decide_eq_true_eq] at this
  exact this.1
theorem endM_bad {nx fr : Int} {r : Bool × List UInt8 × List Int} (h : ¬ goodEnd r) : endM nx fr r = badM := by
  unfold endM
  rw [if_neg]
  rintro ⟨a, b, _⟩
  exact h ⟨a, b⟩
theorem endR_short {l : List Int} (h : l.length < 3) : endR l = badM := by
  match l, h with
  | [], _ => rfl
  | [_], _ => rfl
  | [_, _], _ => rfl
/-- Both ways come to the same. -/
theorem readM'_eq (c : List UInt8) : readM' true c = (match decs c with | none => badM | some l => endR l) := by
  have bad : ∀ (nx fr : Int) (n : Nat) (c : List UInt8) (ts : List Int), endM nx fr (loopM n false c ts) = badM := fun nx fr n c ts => endM_bad fun h => by have := h.1; rw [loopM_false] at this; cases this
  -- a number that is none, or too great
  have step : ∀ (c : List UInt8), ((nextM true c).2.1 = false ∧ (∀ l, decs c = some l → l = [])) ∨ ∃ (v : Int) (c' : List UInt8), 0 ≤ v ∧ nextM true c = (v, true, c') ∧ decs c = (decs c').map (v :: ·) := by
    intro c
    rcases hg : getL 0 0 c with _ | ⟨u, k⟩
    · left
      rw [nextM_none hg]
      refine ⟨rfl, fun l h => ?_⟩
      by_cases hc : c = []
      · subst hc; rw [decs_nil] at h; injection h with h; exact h.symm
      · rw [decs_none hc hg] at h; cases h
    · by_cases hu : (999999999 : Int) < (u : Int)
      · left
        rw [nextM_some hg, decide_eq_false (by omega)]
        refine ⟨rfl, fun l h => ?_⟩
        rw [decs_some hg, if_pos hu] at h; cases h
      · right
        refine ⟨(u : Int), c.drop k, by omega, ?_, ?_⟩
        · rw [nextM_some hg, decide_eq_true (by omega), wrap64_small u (by omega)]; rfl
        · rw [decs_some hg, if_neg hu]
  have short : ∀ (f : List Int → List Int) (c : List UInt8), (∀ l, decs c = some l → l = []) → (f []).length < 3 → (match (decs c).map f with | none => badM | some l => endR l) = badM := by
    intro f c h hf
    cases hd : decs c with
    | none => rfl
    | some l => rw [h l hd]; exact endR_short hf
  unfold readM'
  rcases step c with ⟨h1, h2⟩ | ⟨nx, c1, _, h1, h2⟩
  · rw [h1, nextM_false, nextM_false, bad]
    have := short id c h2 (by simp)
    rw [Option.map_id] at this
    exact this.symm
  · rw [h1, h2]
    show endM nx (nextM true c1).1 _ = _
    rcases step c1 with ⟨g1, g2⟩ | ⟨fr, c2, _, g1, g2⟩
    · show endM nx _ (loopM _ (nextM (nextM true c1).2.1 (nextM true c1).2.2).2.1 _ []) = _
      rw [g1, nextM_false, bad]
      exact (short _ c1 g2 (by simp)).symm
    · show endM nx _ (loopM (nextM (nextM true c1).2.1 (nextM true c1).2.2).1.toNat (nextM (nextM true c1).2.1 (nextM true c1).2.2).2.1 (nextM (nextM true c1).2.1 (nextM true c1).2.2).2.2 []) = _
      rw [g1, g2]
      show endM nx fr (loopM (nextM true c2).1.toNat (nextM true c2).2.1 (nextM true c2).2.2 []) = _
      rw [Option.map_map]
      rcases step c2 with ⟨q1, q2⟩ | ⟨k, c3, hk, q1, q2⟩
      · rw [q1, bad]
        exact (short _ c2 q2 (by simp)).symm
      · rw [q1, q2, Option.map_map]
        show endM nx fr (loopM k.toNat true c3 []) = _
        have L := loop_dec k.toNat c3 []
        cases hd : decs c3 with
        | none => rw [endM_bad (L.2 (fun l h => by rw [hd] at h; cases h))]; rfl
        | some l =>
          show _ = endR (nx :: fr :: k :: l)
          by_cases hl : l.length = k.toNat
          · rw [L.1 l hd hl]
            unfold endM endR
            simp only [List.nil_append, true_and]
            by_cases hgd : goodM l nx fr = true
            · rw [if_pos hgd, if_pos ⟨by omega, hgd⟩]
            · rw [if_neg hgd, if_neg (fun h => hgd h.2)]
          · rw [endM_bad (L.2 (fun l' h => by rw [hd] at h; injection h with h; subst h; exact hl))]
            unfold endR
            simp only
            rw [if_neg (fun h => hl (by omega))]
theorem readM_eq (b : List UInt8) : readM b = refReadM b := by
  unfold readM refReadM
  by_cases h : (unframeL b).2.2 ≠ 0 ∨ (unframeL b).2.1 ≠ b.length
  · rw [if_pos h]
    have e : ((unframeL b).2.2 == 0 && (((unframeL b).2.1 : Int) == (b.length : Int))) = false := by
      rw [Bool.and_eq_false_iff]
      rcases h with h | h
      · left; simpa using h
      · right; rw [beq_eq_false_iff_ne]; omega
    rw [e, readM'_false]
  · rw [if_neg h]
    have e : ((unframeL b).2.2 == 0 && (((unframeL b).2.1 : Int) == (b.length : Int))) = true := by
      rw [Bool.and_eq_true, beq_iff_eq, beq_iff_eq]
      constructor
      · exact Classical.byContradiction fun hh => h (.inl hh)
      · have : (unframeL b).2.1 = b.length := Classical.byContradiction fun hh => h (.inr hh)
        omega
    rw [e, readM'_eq]
    rfl
theorem readM_bad {b : List UInt8} (h : (unframeL b).2.2 ≠ 0 ∨ (unframeL b).2.1 ≠ b.length) : readM b = badM := by
  rw [readM_eq]; unfold refReadM; rw [if_pos h]

/-! there and back -/
theorem decs_nums (l : List Int) (h : ∀ n ∈ l, 0 ≤ n ∧ n ≤ 999999999) : decs (numsL l) = some l := by
  induction l with
  | nil => rfl
  | cons a l ih =>
    have ha := h a (by simp)
    have e : numsL (a :: l) = putL a.toNat ++ numsL l := by simp [numsL]
    have hg := getL_put (numsL l) a.toNat a.toNat 0 0 (Nat.le_refl _) (by omega) (by omega) (by omega)
    rw [← e] at hg
    rw [decs_some hg, if_neg (by omega), e]
    have hd : (putL a.toNat ++ numsL l).drop (0 + (putL a.toNat).length) = numsL l := by rw [Nat.zero_add]; exact List.drop_left' rfl
    rw [hd, ih (fun n hn => h n (by simp [hn]))]
    simp; omega
theorem encM_len {l : List Int} {nx fr : Int} (h : goodM l nx fr = true) : (encM l nx fr).length ≤ 1000 := by
  obtain ⟨a, b, c, d, e, f⟩ := goodM_pos h
  have := numsL_len (nx :: fr :: (l.length : Int) :: l) (by
    intro n hn
    simp only [List.mem_cons] at hn
    rcases hn with rfl | rfl | rfl | hn
    · omega
    · omega
    · omega
    · obtain ⟨k, hk, rfl⟩ := List.getElem_of_mem hn
      have := f k hk
      rw [List.getD_eq_getElem?_getD, List.getElem?_eq_getElem hk] at this
      simp at this; omega)
  unfold encM
  simp only [List.length_cons] at this
  omega
theorem readM_enc {l : List Int} {nx fr : Int} (h : goodM l nx fr = true) : readM (frameL (encM l nx fr)) = ((l, nx, fr), 0) := by
  have hl := encM_len h
  have hu := unframe_frame (encM l nx fr) [] (by omega)
  rw [List.append_nil] at hu
  have hfl := frameL_length (encM l nx fr) (by omega)
  obtain ⟨a, b, c, d, e, f⟩ := goodM_pos h
  rw [readM_eq]
  unfold refReadM
  rw [hu, hfl, if_neg (by simp)]
  show (match decs (encM l nx fr) with | none => badM | some l => endR l) = _
  have hd : decs (encM l nx fr) = some (nx :: fr :: (l.length : Int) :: l) := decs_nums _ (by
    intro n hn
    simp only [List.mem_cons] at hn
    rcases hn with rfl | rfl | rfl | hn
    · omega
    · omega
    · omega
    · obtain ⟨k, hk, rfl⟩ := List.getElem_of_mem hn
      have := f k hk
      rw [List.getD_eq_getElem?_getD, List.getElem?_eq_getElem hk] at this
      simp at this; omega)
  rw [hd]
  unfold endR
  simp only
  rw [if_pos ⟨trivial, h⟩]
end Go.Proofs.YtefndmjimmbhnaaDoor
end
