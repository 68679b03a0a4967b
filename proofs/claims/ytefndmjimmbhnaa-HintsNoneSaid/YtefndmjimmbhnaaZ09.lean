/- Plain laws on the order of keys: it is an order, and the same as the reference's. No program in sight; no condition. A law of regions that draw their order: all operations but a forced tail read, or call what only makes new memory; the tail is walked in its one order. It speaks of no program; no condition. -/
import Derived.Test.YtefndmjimmbhnaaZ08
import Derived.Sort.Walk0
import Derived.Lib.QuietBelow
import Derived.StillTail
section
set_option linter.unusedVariables false
set_option linter.unusedSimpArgs false
namespace Go.Proofs.Ytefndmjimmbhnaa

theorem cmpS_eq (a b : ByteArray) : cmpS a b = if a.toList < b.toList then -1 else if a.toList = b.toList then 0 else 1 := by
  unfold cmpS
  rw [bytesLess_eq]
  by_cases h : a.toList < b.toList
  · simp [h]
  · by_cases h2 : a.toList = b.toList
    · simp [h2]
    · simp [h, h2]
theorem lt_irr (l : List UInt8) : ¬ l < l := List.lt_irrefl l
theorem cmpS_three (a b : ByteArray) : cmpS a b = -1 ∨ cmpS a b = 0 ∨ cmpS a b = 1 := by
  rw [cmpS_eq]; split
  · exact .inl rfl
  · split
    · exact .inr (.inl rfl)
    · exact .inr (.inr rfl)
theorem cmpS_neg (a b : ByteArray) : cmpS b a = -cmpS a b := by
  rw [cmpS_eq, cmpS_eq]
  by_cases h : a.toList < b.toList
  · have h1 : ¬ b.toList < a.toList := fun h2 => List.lt_asymm h h2
    have h2 : ¬ b.toList = a.toList := fun e => lt_irr a.toList (by rw [e] at h; exact h)
    rw [if_pos h, if_neg h1, if_neg h2]; rfl
  · by_cases h2 : a.toList = b.toList
    · rw [h2, if_neg (lt_irr _)]; simp
    · have h3 : b.toList < a.toList := by
        rcases List.le_iff_lt_or_eq.1 (List.not_lt.1 h) with h4 | h4
        · exact h4
        · exact absurd h4.symm h2
      rw [if_pos h3, if_neg h, if_neg h2]
theorem toList_inj {a b : ByteArray} (h : a.toList = b.toList) : a = b := by
  rw [ByteArray.toList_eq, ByteArray.toList_eq] at h
  exact ByteArray.ext (Array.toList_inj.1 h)
theorem cmpS_zero (a b : ByteArray) : cmpS a b = 0 ↔ a.toList = b.toList := by
  rw [cmpS_eq]
  constructor
  · intro h; split at h
    · cases h
    · split at h
      · assumption
      · cases h
  · intro h; rw [h]; simp
theorem cmpS_trans (a b c : ByteArray) (h1 : cmpS a b ≤ 0) (h2 : cmpS b c ≤ 0) : cmpS a c ≤ 0 ∧ (cmpS a c = 0 → cmpS a b = 0 ∧ cmpS b c = 0) := by
  have e1 : a.toList ≤ b.toList := by
    intro h; have := cmpS_neg b a; rw [cmpS_eq b a, if_pos h] at this; omega
  have e2 : b.toList ≤ c.toList := by
    intro h; have := cmpS_neg c b; rw [cmpS_eq c b, if_pos h] at this; omega
  have e3 : a.toList ≤ c.toList := List.le_trans e1 e2
  refine ⟨?_, fun h => ?_⟩
  · rw [cmpS_eq]; split
    · omega
    · rename_i h; split
      · omega
      · rename_i h'; rcases List.le_iff_lt_or_eq.1 e3 with h4 | h4
        · exact absurd h4 h
        · exact absurd h4 h'
  · have h := (cmpS_zero a c).1 h
    have e4 : b.toList ≤ a.toList := by rw [h]; exact e2
    have e5 : a.toList = b.toList := List.le_antisymm e1 e4
    exact ⟨(cmpS_zero a b).2 e5, (cmpS_zero b c).2 (e5.symm.trans h)⟩
theorem cmpI_three (a b : Int) : (cmpI a b = -1 ∧ a < b) ∨ (cmpI a b = 0 ∧ a = b) ∨ (cmpI a b = 1 ∧ b < a) := by
  unfold cmpI; split
  · exact .inl ⟨rfl, by assumption⟩
  · split
    · exact .inr (.inr ⟨rfl, by assumption⟩)
    · exact .inr (.inl ⟨rfl, by omega⟩)
theorem firstOf4 (a b c d : Int) : firstOf [a, b, c, d] = if a ≠ 0 then a else if b ≠ 0 then b else if c ≠ 0 then c else d := by
  unfold firstOf
  by_cases h1 : a = 0 <;> by_cases h2 : b = 0 <;> by_cases h3 : c = 0 <;> by_cases h4 : d = 0 <;> simp [nz, h1, h2, h3, h4]

/-- the order of keys -/
def kcmp (at_ ap : ByteArray) (ar : Int) (ac bt bp : ByteArray) (br : Int) (bc : ByteArray) : Int := firstOf [cmpS at_ bt, cmpS ap bp, cmpI ar br, cmpS ac bc]
theorem kcmp_ref (at_ ap : ByteArray) (ar : Int) (ac bt bp : ByteArray) (br : Int) (bc : ByteArray) : cmpR at_ ap ac bt bp bc ar br = kcmp at_ ap ar ac bt bp br bc := by
  unfold kcmp cmpR
  rw [firstOf4]
  have z1 := cmpS_zero at_ bt
  have z2 := cmpS_zero ap bp
  rcases cmpI_three ar br with ⟨e, h⟩ | ⟨e, h⟩ | ⟨e, h⟩ <;> by_cases h1 : at_.toList = bt.toList <;> by_cases h2 : ap.toList = bp.toList <;> simp [h1, h2, e] at * <;> simp_all <;> grind
theorem kcmp_neg (at_ ap : ByteArray) (ar : Int) (ac bt bp : ByteArray) (br : Int) (bc : ByteArray) : kcmp bt bp br bc at_ ap ar ac = -kcmp at_ ap ar ac bt bp br bc := by
  unfold kcmp
  rw [firstOf4, firstOf4, cmpS_neg at_ bt, cmpS_neg ap bp, cmpS_neg ac bc]
  have h1 := cmpI_three ar br; have h2 := cmpI_three br ar
  grind
theorem kcmp_zero (at_ ap : ByteArray) (ar : Int) (ac bt bp : ByteArray) (br : Int) (bc : ByteArray) : kcmp at_ ap ar ac bt bp br bc = 0 ↔ (at_.toList = bt.toList ∧ ap.toList = bp.toList ∧ ar = br ∧ ac.toList = bc.toList) := by
  unfold kcmp
  rw [firstOf4]
  have z1 := cmpS_zero at_ bt; have z2 := cmpS_zero ap bp; have z3 := cmpS_zero ac bc; have z4 := cmpI_three ar br
  grind
theorem kcmp_three (at_ ap : ByteArray) (ar : Int) (ac bt bp : ByteArray) (br : Int) (bc : ByteArray) : kcmp at_ ap ar ac bt bp br bc = -1 ∨ kcmp at_ ap ar ac bt bp br bc = 0 ∨ kcmp at_ ap ar ac bt bp br bc = 1 := by
  unfold kcmp
  rw [firstOf4]
  have z1 := cmpS_three at_ bt; have z2 := cmpS_three ap bp; have z3 := cmpS_three ac bc; have z4 := cmpI_three ar br
  grind
theorem kcmp_trans (at_ ap : ByteArray) (ar : Int) (ac bt bp : ByteArray) (br : Int) (bc ct cp : ByteArray) (cr : Int) (cc : ByteArray)
    (h1 : kcmp at_ ap ar ac bt bp br bc ≤ 0) (h2 : kcmp bt bp br bc ct cp cr cc ≤ 0) : kcmp at_ ap ar ac ct cp cr cc ≤ 0 := by
  unfold kcmp at *
  rw [firstOf4] at *
  have t1 := cmpS_trans at_ bt ct; have t2 := cmpS_trans ap bp cp; have t3 := cmpS_trans ac bc cc
  have a1 := cmpI_three ar br; have a2 := cmpI_three br cr; have a3 := cmpI_three ar cr
  generalize cmpS at_ bt = x1 at *; generalize cmpS bt ct = x2 at *; generalize cmpS at_ ct = x3 at *
  generalize cmpS ap bp = y1 at *; generalize cmpS bp cp = y2 at *; generalize cmpS ap cp = y3 at *
  generalize cmpS ac bc = z1 at *; generalize cmpS bc cc = z2 at *; generalize cmpS ac cc = z3 at *
  generalize cmpI ar br = w1 at *; generalize cmpI br cr = w2 at *; generalize cmpI ar cr = w3 at *
  grind (splits := 40)
theorem kcmp_between (t p : ByteArray) (ar : Int) (ac : ByteArray) (br : Int) (bc ct cp : ByteArray) (cr : Int) (cc : ByteArray)
    (h1 : kcmp t p ar ac ct cp cr cc ≤ 0) (h2 : kcmp ct cp cr cc t p br bc ≤ 0) : ct.toList = t.toList ∧ cp.toList = p.toList ∧ ar ≤ cr ∧ cr ≤ br := by
  unfold kcmp at *
  rw [firstOf4] at *
  have z1 := cmpS_zero t ct; have z2 := cmpS_zero p cp
  rw [cmpS_neg t ct, cmpS_neg p cp] at h2
  have a1 := cmpI_three ar cr; have a2 := cmpI_three cr br
  grind (splits := 40)
/-- the row's mark -/
theorem kcmp_mark (t p : ByteArray) (r : Int) (c : ByteArray) : kcmp t p r ⟨#[]⟩ t p r c ≤ 0 ∧ (kcmp t p r ⟨#[]⟩ t p r c = 0 ↔ c.toList = []) := by
  have h0 := kcmp_zero t p r ⟨#[]⟩ t p r c
  have e : (⟨#[]⟩ : ByteArray).toList = [] := by rw [ByteArray.toList_eq]
  rw [e] at h0
  constructor
  · unfold kcmp; rw [firstOf4]
    have z1 := (cmpS_zero t t).2 rfl; have z2 := (cmpS_zero p p).2 rfl; have z3 : cmpI r r = 0 := by unfold cmpI; simp
    rw [z1, z2, z3]
    simp only [ne_eq, not_true_eq_false, if_false]
    rw [cmpS_eq, e]
    cases h : c.toList <;> simp
  · rw [h0]; simp [eq_comm]
theorem kcmp_rows (t p : ByteArray) (ar : Int) (ac : ByteArray) (br : Int) (bc : ByteArray) : (ar < br → kcmp t p ar ac t p br bc < 0) := by
  intro h
  unfold kcmp; rw [firstOf4]
  have z1 := (cmpS_zero t t).2 rfl; have z2 := (cmpS_zero p p).2 rfl
  have z3 : cmpI ar br = -1 := by unfold cmpI; rw [if_pos h]
  rw [z1, z2, z3]; simp
end Go.Proofs.Ytefndmjimmbhnaa
end

section
set_option linter.unusedVariables false
set_option linter.unusedSimpArgs false
namespace Go.Proofs.Ytefndmjimmbhnaa
open Go.RowKit Go.Sort Go

section
variable {P : Program} {ops : Array Oper} {md : Region.Mode} {C : World → Prop}
/-- Whatever order is picked, until all ahead of place n have come up; then L. -/
def anyHead (P : Program) (md : Region.Mode) (ops : Array Oper) (C : World → Prop) (n : Nat) (L : Array Bool → Act → Prop) : Nat → Array Bool → Act → Prop
  | 0, listed, a => L listed a
  | f + 1, listed, a => Region.ready md ops listed ≠ [] ∧ ∀ i, i ∈ Region.ready md ops listed → i < n ∧ qOp P ops C i (anyHead P md ops C n L f (listed.setIfInBounds i true)) a

theorem anyHead_wp {n g : Nat} {L : Array Bool → Act → Prop} {Q' : Exit → Act → World → Prop} (hL : ∀ listed a w, C w → L listed a → wpAny P md ops Q' g listed a w) (f : Nat) :
    ∀ (listed : Array Bool) (a : Act) (w : World), C w → anyHead P md ops C n L f listed a → wpAny P md ops Q' (f + g) listed a w := by
  induction f with
  | zero => intro listed a w hc h; rw [Nat.zero_add]; exact hL _ _ _ hc h
  | succ f ih =>
    intro listed a w hc h
    obtain ⟨hne, hall⟩ := h
    have e : f + 1 + g = (f + g) + 1 := by omega
    rw [e]
    refine ⟨fun h0 => absurd h0 hne, fun i hi => ?_⟩
    exact wpOp_of_qOp hc (fun a' w' hc' h' => ih _ a' w' hc' h') (hall i hi).2

/-- One that may come up is taken first. -/
theorem anyHead_take {n i : Nat} {oi : Oper} {v : Value} {L : Array Bool → Act → Prop} (hi : ops[i]? = some oi) (hsel : Region.noSelect ops = true)
    (hs : Region.sinkB md ops n = true) (hc : Region.chainB md ops n = true) (hn : n < ops.size) (hin : i < n) (hL : ∀ listed a, L listed a → ∀ j ∈ Region.ready md ops listed, n ≤ j) (f : Nat) :
    ∀ (listed : Array Bool) (a : Act), HeadInv md ops n listed → (∀ j oj, ops[j]? = some oj → j ≠ i → listed.getD j true = false → (∀ e ∈ oj.after, Region.binds md e = true → e.on ≠ i) → oi.apart ops oj = true) →
      i ∈ Region.ready md ops listed → YieldsIn P ops C oi v a → anyHead P md ops C n L f (listed.setIfInBounds i true) (a.put oi.dst v) → anyHead P md ops C n L (f + 1) listed a := by
  have SEL := Region.noSelect_spec hsel
  induction f with
  | zero =>
    intro listed a inv _ hr hy H
    have hun := (mem_ready.1 hr).1
    refine ⟨List.ne_nil_of_mem hr, fun j hj => ?_⟩
    have hjn : j < n := Nat.lt_of_not_le fun h => tail_waits hs hc hn inv _ i rfl hin hun j h hj
    refine ⟨hjn, ?_⟩
    by_cases e : j = i
    · subst e; exact hy.qOp hi H
    · exact absurd (hL _ _ H j (ready_mono hj e)) (by omega)
  | succ f ih =>
    intro listed a inv hfree hr hy H
    have hun := (mem_ready.1 hr).1
    refine ⟨List.ne_nil_of_mem hr, fun j hj => ?_⟩
    have hjn : j < n := Nat.lt_of_not_le fun h => tail_waits hs hc hn inv _ i rfl hin hun j h hj
    refine ⟨hjn, ?_⟩
    by_cases e : j = i
    · subst e; exact hy.qOp hi H
    · obtain ⟨hjun, oj, hoj, hafter⟩ := mem_ready.1 hj
      have hno : ∀ e ∈ oj.after, Region.binds md e = true → e.on ≠ i := fun e he hb heq => by
        have := hafter e he hb
        rw [heq, getD_both hun] at this
        cases this
      have hput := qOp_put hoj (hfree j oj hoj e hjun hno) (fun cs b => SEL i oi cs b hi) (fun cs b => SEL j oj cs b hoj) hy (H.2 j (ready_mono hj e)).2
      refine qOp_mono (fun a' h3 => ih (listed.setIfInBounds j true) a' (inv.set hj hjn) (fun k ok hk hki hku hkno => hfree k ok hk hki ?_ hkno) (ready_mono hr (Ne.symm e)) h3.1 ?_) hput
      · by_cases hjk : j = k
        · subst hjk; exact hjun
        · rwa [getD_set_ne true hjk] at hku
      · rw [Array.setIfInBounds_comm _ _ e]; exact h3.2

theorem anyHead_lex {n g : Nat} {Lq : Act → Prop} (hsel : Region.noSelect ops = true) (hs : Region.sinkB md ops n = true) (hc : Region.chainB md ops n = true) (hn : n < ops.size) (l : List Oper) :
    ∀ (k : Nat) (listed : Array Bool) (a : Act), (∀ j, j < l.length → l[j]? = ops[k + j]?) → k + l.length = n → HeadInv md ops n listed → Region.lexHead md ops g l.length k listed = true → wpQuiet P ops C Lq l a →
      anyHead P md ops C n (fun listed' a' => Region.seqB md ops g n listed' = true ∧ Lq a') l.length listed a := by
  induction l with
  | nil =>
    intro k listed a _ hk _ hB h
    obtain rfl : k = n := by simpa using hk
    exact ⟨by simpa [Region.lexHead] using hB, h⟩
  | cons o l ih =>
    intro k listed a hl hk inv hB h
    have h0 : ops[k]? = some o := by simpa using (hl 0 (by simp)).symm
    simp only [List.length_cons, Region.lexHead, Bool.and_eq_true] at hB
    have hlen : k + (l.length + 1) = n := by simpa using hk
    have hr : k ∈ Region.ready md ops listed := by simpa using hB.1.1
    have hq : qOp P ops C k (wpQuiet P ops C Lq l) a := by unfold qOp; simp only [h0]; exact h
    obtain ⟨v, hy, hK⟩ := yieldsIn_of_qOp h0 hq
    refine anyHead_take h0 hsel hs hc hn (by omega) (fun listed' a' hL => seqB_ready hL.1) l.length listed a inv (Region.free_spec h0 hB.1.2) hr hy ?_
    exact ih (k + 1) _ _ (fun j hj => by have := hl (j + 1) (by simp; omega); simpa [Nat.add_assoc, Nat.add_comm 1 j] using this) (by omega) (inv.set hr (by omega)) hB.2 hK

/-- Quiet ahead of place n, in the class of worlds that W grows into; behind it a list, in whatever world of the class. -/
theorem wp_region_quiet_tail {id : Nat} {Q : Exit → Act → World → Prop} {a : Act} {w : World} {l : List Oper} (n : Nat) (hm : P.follows .mixedOrders = true) (hB : Region.lexTailB .any l.toArray n = true)
    (h : wpQuiet P l.toArray (fun w' => ∃ p : Regrown, w' = grow (redrawn w p.d) p.os) (fun a' => ∀ w', (∃ p : Regrown, w' = grow (redrawn w p.d) p.os) → wpList P l.toArray Q (l.drop n) a' w') (l.take n) a) : (Code.region id l.toArray true).wp P Q a w := by
  simp only [Region.lexTailB, Bool.and_eq_true, decide_eq_true_eq] at hB
  obtain ⟨⟨⟨⟨hsel, hn⟩, hs⟩, hc⟩, hlex⟩ := hB
  have hn' : n < l.length := by simpa using hn
  have htl : (l.take n).length = n := by simp; omega
  have hdl : (l.drop n).length = l.toArray.size - n := by simp
  have inv0 : HeadInv .any l.toArray n (Array.replicate l.toArray.size false) :=
    ⟨by simp, fun j oj _ hl => (by rw [getD_replicate_false] at hl; cases hl), fun t _ ht => getD_in (by simpa using ht) (getD_replicate_false _ _)⟩
  have H := anyHead_lex (md := .any) (g := l.toArray.size - n) hsel hs hc hn (l.take n) 0 _ a (fun j hj => by
    have hj' : j < n := by omega
    simp [hj']) (by omega) inv0 (by rw [htl]; exact hlex) h
  refine wp_region_any hm ?_
  have hw : ∃ p : Regrown, { w with drawn := w.drawn + 1 } = grow (redrawn w p.d) p.os := ⟨⟨w.drawn + 1, #[]⟩, by rw [grow_empty]; rfl⟩
  have := anyHead_wp (Q' := Q) (g := l.toArray.size - n) (fun listed a' w' hc' hL => by
    have := wpAny_of_seq (md := .any) (Q' := Q) (l.drop n) n listed a' w' (fun j => by simp [List.getElem?_drop]) (by rw [hdl]; exact hL.1) (hL.2 w' hc')
    rwa [hdl] at this) _ _ _ _ hw H
  rw [htl, show n + (l.toArray.size - n) = l.toArray.size by omega] at this
  exact this
end

/-- A callee's contract, in every world that W grows into. -/
def QP (P : Program) (W : World) (f : FuncId) (args : Array Value) (v : Value) : Prop := ∀ d os, Calls P f args (grow (redrawn W d) os) fun e w'' => e = .returned v ∧ ∃ p : Regrown, w'' = grow (redrawn W p.d) p.os
section
variable {P : Program} {W : World} {f : FuncId} {args : Array Value} {v : Value}
theorem QP.of (h : ∀ W', Below W.heap.size W W' → Calls P f args W' fun e w' => e = .returned v ∧ Below W'.heap.size W' w') : QP P W f args v := fun d os => Calls.regrown_of (h _ (below_regrown W d os))
theorem QP.same (h : ∀ W', Calls P f args W' fun e w' => e = .returned v ∧ W' = w') : QP P W f args v :=
  QP.of fun W' _ => (h W').mono fun e w' ⟨h1, h2⟩ => ⟨h1, by subst h2; exact Below.refl _ _⟩
theorem QP.at (h : QP P W f args v) (d : Nat) (os : Array Obj) : Calls P f args (grow (redrawn W d) os) fun e w'' => e = .returned v ∧ ∃ p : Regrown, w'' = grow (redrawn W p.d) p.os := h d os
end
/-- At a function's end the world is forgotten but for what is said of it. -/
theorem ret_gen {P : Program} {f : Func} {Q : Ending → World → Prop} {e : Exit} {a : Act} {W : World} (R : World → Prop) (hR : R W) (h : ∀ w2, R w2 → bodyPost P f Q e a w2) : bodyPost P f Q e a W := h W hR
theorem regrown_below {W w : World} (h : ∃ p : Regrown, w = grow (redrawn W p.d) p.os) : Below W.heap.size W w := by
  obtain ⟨p, rfl⟩ := h; exact below_regrown _ _ _
end Go.Proofs.Ytefndmjimmbhnaa
end
