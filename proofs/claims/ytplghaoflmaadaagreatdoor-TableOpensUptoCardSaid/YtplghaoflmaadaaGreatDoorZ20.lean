/- slices.Chunk at cells as an iterator; what a loop's body in a round is walked by. No condition but room. Contracts of key's Name, Good and Row and of the reference's: each returns what a plain function says; the world is as it was but for draws and new blocks. No condition. Contracts of the codec's put and text: what they write grows in the memory of the slice at hand. Conditions: numbers of their kinds; lengths leave room. -/
import Derived.RangeFuncNested
import Derived.RangeFuncBound
import Derived.RangeFuncCalls
import Derived.RangeFuncLeaves
import Derived.RangeFuncBox
import Derived.Shelf.Abstract
import Derived.Shelf.RegionOpen
import Derived.WalkKit
import Derived.OwnWalkIn
import Derived.TacticsInMore
import Derived.LoopNIn
import Derived.LoopIn
import Derived.Test.YtplghaoflmaadaaGreatDoorZ19
import Derived.Test.YtplghaoflmaadaaGreatDoorZ03
import Derived.Test.YtplghaoflmaadaaGreatDoorZ13
import Derived.Test.YtplghaoflmaadaaGreatDoorZ05
import Derived.Test.YtplghaoflmaadaaGreatDoorZ10
section
set_option linter.unusedVariables false
set_option linter.unusedSimpArgs false
set_option maxRecDepth 50000
namespace Go.Proofs.YtplghaoflmaadaaGreatDoor
open Go.RowKit Go.Shelf
attribute [local go_sem] Oper.semAt_some

abbrev Ck (n : Nat) := { k : Nat // 8 * k < n }
def upC (n m : Nat) : List (Ck n) := (List.range m).filterMap fun k => if h : 8 * k < n then some ⟨k, h⟩ else none
theorem upC_succ {n m : Nat} (h : 8 * m < n) : upC n (m + 1) = upC n m ++ [⟨m, h⟩] := by simp [upC, List.range_succ, h]
theorem upC_len (n m : Nat) : (upC n m).length ≤ m := by have := List.length_filterMap_le (fun k => if h : 8 * k < n then some (⟨k, h⟩ : Ck n) else none) (List.range m); simpa [upC] using this
def chunkV (gl o len k : Nat) : Value := .slice (some ⟨gl, o + 8 * k * 10, none⟩) (min 8 (len - 8 * k)) (min 8 (len - 8 * k))
def KpC (b1 b2 : Nat) (W W' : World) : Prop := W'.cell? ⟨b1, 0, none⟩ = W.cell? ⟨b1, 0, none⟩ ∧ W'.cell? ⟨b2, 0, none⟩ = W.cell? ⟨b2, 0, none⟩
theorem KpC.trans {b1 b2 : Nat} {A B C : World} (h : KpC b1 b2 A B) (k : KpC b1 b2 B C) : KpC b1 b2 A C := ⟨k.1.trans h.1, k.2.trans h.2⟩
theorem KpC.refl (b1 b2 : Nat) (A : World) : KpC b1 b2 A A := ⟨rfl, rfl⟩

set_option maxHeartbeats 2000000 in
theorem chunk1_in (n : Nat) (hn : 1 ≤ n) (l b1 b2 gl o len cap : Nat) (h0 : 0 < len) (hlen : len ≤ 1000000) (hcap : len ≤ cap) (J Jx : List (Ck len) → World → Prop)
    (hY : ∀ pre x W, J pre W → pre.length < (len + 7) / 8 → YieldAt Fence.wide (n - 1) Tryz.prog l #[chunkV gl o len x.1] W fun e W' =>
      (e = .returned (.bool true) ∧ J (pre ++ [x]) W' ∧ KpC b1 b2 W W') ∨ (e = .returned (.bool false) ∧ Jx (pre ++ [x]) W'))
    (W : World) (c1 : W.cell? ⟨b1, 0, none⟩ = some (.slice (some ⟨gl, o, none⟩) len cap)) (c2 : W.cell? ⟨b2, 0, none⟩ = some (.int .i64 8)) (hj : J [] W) (hJd : ∀ pre W nq, J pre W → J pre (World.drewN W nq)) :
    CallsIn Fence.wide n Tryz.prog 78 #[.func (.yield l) #[] #[], .pointer (some ⟨b1, 0, none⟩), .pointer (some ⟨b2, 0, none⟩)] W fun e W' => (∃ v, e = .returned v) ∧
      ((∃ ys, ys = upC len ((len + 7) / 8) ∧ J ys W') ∨ (∃ pre, (∃ k, pre = upC len k) ∧ Jx pre W')) := by
  refine callsIn_of_wp Tryz.func78 rfl trivial ?_ rfl
  simp only [Tryz.ntmps78, List.size_toArray, List.length_cons, List.length_nil, Nat.reduceAdd, Nat.reduceSub, Array.replicate_succ, Array.replicate_zero, List.push_toArray, List.append_toArray, List.nil_append, List.cons_append]
  gi_wp2
  gi_loopw [4, 5] (fun i _ wr => ∃ k p : Nat, i = .int .i64 (p : Int) ∧ Hid (p = 8 * k) ∧ Hid (k ≤ (len + 7) / 8) ∧ Hid (J (upC len k) wr) ∧ Hid (KpC b1 b2 W wr)) (fun i _ _ => len + 8 - (intOf i).toNat)
  case atStart => exact ⟨0, 0, rfl, Lib.hid rfl, Lib.hid (Nat.zero_le _), Lib.hid hj, Lib.hid (KpC.refl _ _ _)⟩
  case round =>
    obtain ⟨k, p, rfl, HP, HK, HJ, HKp⟩ := hrel
    have d1 := HKp.out.1.trans c1
    have d2 := HKp.out.2.trans c2
    clear c1 c2
    by_cases hlt : p < len
    · have hz : (p : Int) < (len : Int) := by omega
      have hple : p ≤ len := by omega
      have hpcap : p ≤ cap := by omega
      have hp0 : ¬ (p : Int) < 0 := by omega
      have hKw := Lib.hid (fun nq => show (wr.drewN nq).cell? ⟨b1, 0, none⟩ = some (.slice (some ⟨gl, o, none⟩) len cap) ∧ (wr.drewN nq).cell? ⟨b2, 0, none⟩ = some (.int .i64 8) from ⟨d1, d2⟩)
      gi_wp2
      refine wpIn_wide.2 ?_
      go_quiet (fail)
      have hw1 := hKw.out nq
      obtain ⟨q, hq⟩ : ∃ q : Nat, min (8 : Int) ((len - p : Nat) : Int) = (q : Int) := ⟨min 8 (len - p), by omega⟩
      rw [hq]
      have hq2 : q = min 8 (len - p) := by omega
      have HQ := Lib.hid hq2
      have hs1 : p ≤ p + q := by omega
      have hs2 : p + q ≤ cap := by omega
      have hs3 : p + q ≤ len := by omega
      have hs4 : IntKind.i64.wrap ((p : Int) + (q : Int)) = ((p + q : Nat) : Int) := by rw [IntKind.wrap_i64]; omega
      have hs5 : ¬ ((p + q : Nat) : Int) < 0 := by omega
      have hq0 : 0 < q := by omega
      have hk8 : 8 * k < len := by have := HP.out; omega
      have Y := hY (upC len k) ⟨k, hk8⟩ (wr.drewN nq) (hJd _ _ _ HJ.out) (Nat.lt_of_le_of_lt (upC_len _ _) (by omega))
      rw [show chunkV gl o len (⟨k, hk8⟩ : Ck len).1 = .slice (some ⟨gl, o + p * 10, none⟩) q q by unfold chunkV; have := HP.out; subst this; rw [HQ.out]] at Y
      obtain ⟨fn, tmps, assign, body, hy, hR⟩ := Y
      have HR := Lib.hid hR
      clear hq hq2 hR hY
      gi_wp2
      refine HR.out.mono ?_
      rintro e W3 (⟨rfl, hJ3, hk3⟩ | ⟨rfl, hJx3⟩)
      · have HJ3 := Lib.hid hJ3; have HK3 := Lib.hid (KpC.trans (show KpC b1 b2 W (wr.drewN nq) from HKp.out) hk3)
        have e1 := hk3.1.trans hw1.1
        have e2 := hk3.2.trans hw1.2
        clear hJ3 hk3
        gi_wp2
        go_roundw
        case rel => exact ⟨k + 1, p + 8, by go_num, Lib.hid (by have := HP.out; omega), Lib.hid (by have := HP.out; omega), Lib.hid (by rw [upC_succ hk8]; exact HJ3.out), HK3⟩
        case measure => simp [intOf]; omega
      · have HX3 := Lib.hid hJx3
        clear hJx3
        gi_wp2
        refine bodyPost_ret (results_none rfl _ _ _) rfl ?_
        exact ⟨⟨_, rfl⟩, .inr ⟨_, ⟨k + 1, (upC_succ hk8).symm⟩, HX3.out⟩⟩
    · have hz : ¬ (p : Int) < (len : Int) := by omega
      have hp := HP.out
      gi_wp2
      go_end0
      exact ⟨⟨_, rfl⟩, .inl (by have := HJ.out; rwa [show k = (len + 7) / 8 by have := HK.out; omega] at this)⟩

theorem drewN_grown (W : World) (nq : Nat) : W.grownBy (W.drewN nq) none := ⟨rfl, rfl, rfl, Nat.le_refl _, fun _ _ _ => rfl⟩
theorem chunk_stops (n : Nat) (hn : 1 ≤ n) (b1 b2 gl o len cap : Nat) (h0 : 0 < len) (hlen : len ≤ 1000000) (hcap : len ≤ cap) (w : World) (hb1 : b1 < w.heap.size) (hb2 : b2 < w.heap.size)
    (c1 : w.cell? ⟨b1, 0, none⟩ = some (.slice (some ⟨gl, o, none⟩) len cap)) (c2 : w.cell? ⟨b2, 0, none⟩ = some (.int .i64 8)) :
    SeqStopsK Fence.wide n Tryz.prog 78 #[.pointer (some ⟨b1, 0, none⟩), .pointer (some ⟨b2, 0, none⟩)] (fun x : Ck len => #[chunkV gl o len x.1]) (KpC b1 b2)
      (fun ys => ys = upC len ((len + 7) / 8)) (fun pre => ∃ k, pre = upC len k) ((len + 7) / 8) w := fun l J Jx W hW hJ _ hY hj =>
  chunk1_in n hn l b1 b2 gl o len cap h0 hlen hcap J Jx hY W ((hW.cell (p := ⟨b1, 0, none⟩) hb1).trans c1) ((hW.cell (p := ⟨b2, 0, none⟩) hb2).trans c2) hj
    (fun pre W nq h => hJ pre W _ none h (drewN_grown W nq) (fun r e => by cases e))
theorem chunk_any (a : Option Addr) (len cap : Nat) (w : World) : Calls Tryz.prog 34 #[.slice a len cap, .int .i64 8] w fun e w' =>
    e = .returned (.func (.func 78) #[] #[.pointer (some ⟨w.heap.size, 0, none⟩), .pointer (some ⟨w.heap.size + 1, 0, none⟩)]) ∧ w' = (w.alloc (.cells #[.slice a len cap] 22)).alloc (.cells #[.int .i64 8] 3) := by
  go_enter Tryz.func34, Tryz.ntmps34
  go_wp2
  go_ret
  exact ⟨rfl, rfl⟩

/-! A region of a round, walked as everywhere. -/
section
variable {P : Program} {ops : Array Oper} {Q : Exit → Act → World → Prop} {md : Region.Mode}
theorem rowsIn_wide {F : Fence} (hF : Fence.wide = F ∨ ∃ l, F = Fence.wide.inRound l) {n : Nat} {row : String} {args : Array Value} {w : World} {R : Value → World → Prop} (h : Rows P row args w R) : RowsIn F n P row args w R := by
  intro c cs _
  obtain ⟨v, w', r, s⟩ := h c cs
  refine ⟨v, w', r, ?_⟩
  rcases hF with rfl | ⟨l, rfl⟩
  · exact stepsIn_wide.2 s
  · exact stepsIn_wide.2 s
def NoDefer (ops : Array Oper) : Bool := ops.all fun o => match o.op with | .defer _ => false | _ => true
theorem opIn_round {o : Oper} (hd : ∀ c, o.op ≠ .defer c) (l n : Nat) {a : Act} {w : World} {K : Act → World → Prop} (h : o.wp P a w K Q) : o.wpIn (Fence.wide.inRound l) n P a w K Q := by
  refine ⟨fun _ _ => trivial, ?_⟩
  rw [Oper.semAt_eq _ _ _ hd]
  unfold Oper.wp at h
  generalize (execOp a.eval o).run P w = r at *
  cases r with
  | ok x w' =>
    cases x <;> simp only [Oper.upon, Oper.uponIn] at h ⊢ <;>
      first
        | exact h
        | exact ⟨fun h1 => (by cases h1), CallsIn.inRound l (callsIn_wide.2 h)⟩
        | exact ⟨fun h1 => (by cases h1), rowsIn_wide (.inr ⟨l, rfl⟩) h⟩
  | halt x w' => cases x <;> simp only [Oper.upon, Oper.uponIn] at h ⊢ <;> exact h
theorem anyIn_round (hd : NoDefer ops = true) (hQ : ¬ LetsOut Q) (l n : Nat) : ∀ (fuel : Nat) (listed : Array Bool) (a : Act) (w : World), wpAny P md ops Q fuel listed a w → wpAnyIn (Fence.wide.inRound l) n P md ops Q fuel listed a w
  | 0, listed, a, w, h => h
  | fuel + 1, listed, a, w, h => by
    refine ⟨h.1, fun i hi => ?_⟩
    have hx := h.2 i hi
    unfold wpOp at hx
    unfold wpOpIn
    cases e : ops[i]? with
    | none => rw [e] at hx; exact anyIn_round hd hQ l n fuel _ a w hx
    | some o =>
      rw [e] at hx
      have ho : ∀ c, o.op ≠ .defer c := fun c hc => by
        have hm : o ∈ ops := Array.mem_of_getElem? e
        have := Array.all_eq_true'.1 hd o hm
        rw [hc] at this; cases this
      simp only at hx ⊢
      split
      · rename_i hw
        rw [if_pos hw] at hx
        rcases hx with hx | hx
        · exact Oper.wpIn_mono (fun a' w' h' => anyIn_round hd hQ l n fuel _ a' w' h') (opIn_round ho l n hx)
        · exact absurd hx.2 hQ
      · rename_i hw
        rw [if_neg hw] at hx
        exact ⟨fun _ _ => trivial, anyIn_round hd hQ l n fuel _ _ w hx⟩
theorem region_round {id : Nat} {a : Act} {w : World} (hm : P.follows .mixedOrders = true) (hd : NoDefer ops = true) (hQ : ¬ LetsOut Q) (l n : Nat)
    (h : wpAny P .any ops Q ops.size (Array.replicate ops.size false) a w.drew) : (Code.region id ops true).wpIn (Fence.wide.inRound l) n P Q a w :=
  wpIn_region_any hm (anyIn_round hd hQ l n _ _ a _ h)
theorem region_round_held {S : World → Prop} {id : Nat} {a : Act} {w : World} (hm : P.follows .mixedOrders = true) (hd : NoDefer ops = true) (hQ : ¬ LetsOut Q) (l n : Nat)
    (h : wpAnyH P .any ops Q S ops.size (Array.replicate ops.size false) a w.drew) : (Code.region id ops true).wpIn (Fence.wide.inRound l) n P Q a w :=
  region_round hm hd hQ l n (wpAny_of_held _ _ _ _ h)
end

/-! What a round may leave. -/
theorem keepsFrom_below {B : Nat} {W W' : World} (h : Below W.heap.size W W') : KeepsFrom B W W' := ⟨h.size, fun k o _ hk _ => (h.block k (Array.getElem?_eq_some_iff.1 hk).1).trans hk⟩
theorem keepsFrom_but {B : Nat} {S : Nat → Prop} {W W' : World} (h : But S W W') (hS : ∀ k o, S k → W.heap[k]? = some o → o.isCells = true) : KeepsFrom B W W' :=
  ⟨h.size, fun k o _ hk ho => (h.block k (Array.getElem?_eq_some_iff.1 hk).1 (fun hs => by rw [hS k o hs hk] at ho; cases ho)).trans hk⟩
theorem Blk.own {W W' : World} {g : Nat} {t : TypeId} {cs : Array Value} (h : Blk W g t cs) {row : Option Nat} (hg : W.grownBy W' row) (hr : ∀ r, row = some r → ∃ o : Obj, W.heap[r]? = some o ∧ o.isCells = false) : Blk W' g t cs :=
  h.grown hg (fun e => by obtain ⟨o, ho, hc⟩ := hr g e.symm; unfold Blk at h; rw [h] at ho; cases ho; cases hc)
theorem OwnX.own {α : Type} {E : El α} {W W' : World} {base : Nat} {v : Value} {l : List α} (h : OwnX E W base v l) {row : Option Nat} (hg : W.grownBy W' row) (hr : ∀ r, row = some r → ∃ o : Obj, W.heap[r]? = some o ∧ o.isCells = false) : OwnX E W' base v l := by
  refine h.grown hg ?_
  rcases h.2 with ⟨rfl, _⟩ | ⟨g, cap, cur, rfl, _, hgb, _⟩
  · exact .inl rfl
  · refine .inr fun e' => ?_
    obtain ⟨o, ho, hc⟩ := hr g e'.symm
    rw [hgb] at ho; cases ho; cases hc
theorem OwnX.cells_of {α : Type} {E : El α} {W : World} {base : Nat} {v : Value} {l : List α} (h : OwnX E W base v l) {k : Nat} (hk : v.ownBlock = some k) {o : Obj} (ho : W.heap[k]? = some o) : o.isCells = true := by
  rcases h.2 with ⟨rfl, _⟩ | ⟨g, cap, cur, rfl, _, hgb, _⟩
  · cases hk
  · have e : g = k := by simpa [Value.ownBlock] using hk
    subst e; rw [hgb] at ho; cases ho; rfl
theorem SlX.part {α : Type} {E : El α} {B : Nat} {W : World} {g o n c : Nat} {l : List α} (h : SlX E B W (.slice (some ⟨g, o, none⟩) n c) l) (a b : Nat) (hab : a + b ≤ l.length) (hb : 0 < b) (c2 : Nat) (hc : b ≤ c2) :
    SlX E B W (.slice (some ⟨g, o + a * E.size, none⟩) b c2) ((l.drop a).take b) := by
  obtain ⟨a', c', e, hc', hx⟩ := h.ex
  obtain ⟨g', o', e2, hg, hcell⟩ := hx (by omega)
  injection e with e3 e4 e5
  rw [e2] at e3
  injection e3 with e3; injection e3 with e6 e7
  subst e6 e7
  have hlen : ((l.drop a).take b).length = b := by simp; omega
  refine ⟨_, c2, by rw [hlen], by rw [hlen]; exact hc, fun _ => ⟨g, o + a * E.size, rfl, hg, fun j u hj => ?_⟩⟩
  have hcat : E.cells l = E.cells (l.take a) ++ (E.cells ((l.drop a).take b) ++ E.cells ((l.drop a).drop b)) := by
    rw [← El.cells_app, ← El.cells_app, List.take_append_drop, List.take_append_drop]
  have hj' : (E.cells l)[a * E.size + j]? = some u := by
    rw [hcat, List.getElem?_append_right (by rw [El.cells_len]; simp; rw [Nat.min_eq_left (by omega)]; omega), El.cells_len]
    rw [List.length_take, Nat.min_eq_left (by omega), Nat.add_sub_cancel_left]
    have : j < (E.cells ((l.drop a).take b)).length := (List.getElem?_eq_some_iff.1 hj).1
    rw [List.getElem?_append_left this]; exact hj
  rw [Nat.add_assoc]; exact hcell _ _ hj'
end Go.Proofs.YtplghaoflmaadaaGreatDoor
end

section
set_option linter.unusedVariables false
set_option linter.unusedSimpArgs false
namespace Go.Proofs.YtplghaoflmaadaaGreatDoor
open Go.RowKit

def badR (r : Nat) : Bool := (decide ((r : Int) < 97) || decide (122 < (r : Int))) && (decide ((r : Int) < 48) || decide (57 < (r : Int))) && (r : Int) != 95

theorem name1 (w : World) : PredAt Tryz.prog 129 #[] encR badR w := fun W r _ => by
  unfold FnGives encR
  go_enter Tryz.func129, Tryz.ntmps129
  go_wp2
  all_goals go_ret
  all_goals refine ⟨ret_b ?_, 0, rfl⟩
  all_goals unfold badR
  all_goals (first | rfl | (rw [Bool.eq_iff_iff]; simp only [Bool.and_eq_true, Bool.or_eq_true, Bool.not_eq_true', decide_eq_true_eq, bne_iff_ne, beq_iff_eq, ne_eq, Bool.false_eq_true, iff_false, false_iff, iff_true, true_iff]; omega) | (simp [*]; done) | (simp [*]; omega))


theorem toList_nil {s : ByteArray} (h : s.size = 0) : s.toList = [] := by
  rw [ByteArray.toList_eq]; have h1 : s.data.size = 0 := h
  rw [Array.size_eq_zero_iff] at h1; rw [h1]
theorem toList_ne {s : ByteArray} (h : 0 < s.size) : ¬ s.toList = [] := by
  rw [ByteArray.toList_eq]; intro h1
  have h2 : s.data.size = 0 := by rw [← Array.length_toList, h1]; rfl
  have h3 : s.size = 0 := h2; omega

def headOk (s : ByteArray) : Bool := if h : 0 < s.size then decide (s.size ≤ 16) && decide (97 ≤ s[0].toNat) && decide (s[0].toNat ≤ 122) else false
theorem headOk_pos {s : ByteArray} (h0 : 0 < s.size) (h : headOk s = true) : s.size ≤ 16 ∧ 97 ≤ s[0].toNat ∧ s[0].toNat ≤ 122 := by
  rw [headOk, dif_pos h0] at h; simpa [and_assoc] using h
theorem headOk_neg {s : ByteArray} (h0 : 0 < s.size) (h : headOk s = false) : ¬ (s.size ≤ 16 ∧ 97 ≤ s[0].toNat ∧ s[0].toNat ≤ 122) := by
  intro h1; rw [headOk, dif_pos h0] at h; simp [h1.1, h1.2.1, h1.2.2] at h
theorem headOk_empty {s : ByteArray} (h0 : ¬ 0 < s.size) : headOk s = false := by rw [headOk, dif_neg h0]
def nameB (s : ByteArray) : Bool := headOk s && !decide (0 ≤ Lib.idxFunc badR true s)

theorem name_any (s : ByteArray) (w : World) (hs : s.size ≤ maxLen) : Calls Tryz.prog 108 #[.string s] w fun e w' => e = .returned (.bool (nameB s)) ∧ Below w.heap.size w w' := by
  have HC := fun W => Tryz.strings_ContainsFunc 129 #[] (enters_of Tryz.func129 (by kernel_rfl) rfl) badR s W (name1 W)
  unfold maxLen at hs
  rw [nameB]
  by_cases h0 : 0 < s.size
  · have hne := toList_ne h0
    have hie : s.toList.isEmpty = false := by simpa using hne
    cases hg : headOk s
    · have hn := headOk_neg h0 hg
      clear hg
      go_enter Tryz.func108, Tryz.ntmps108
      go_wp2_with fail
      all_goals go_ret
      all_goals exact ⟨rfl, Below.refl _ _⟩
    · have hn := headOk_pos h0 hg
      clear hg
      obtain ⟨n1, n2, n3⟩ := hn
      go_enter Tryz.func108, Tryz.ntmps108
      go_wp2_with (first | (go_at_call 128; refine (HC _).mono ?_; rintro e w' ⟨rfl, hb⟩))
      go_ret
      exact ⟨rfl, by (repeat (first | exact Below.refl _ _ | assumption | refine below_alloc ?_ _ | refine Below.drew ?_ | refine below_drewN ?_ _ | refine below_tr ?_ (by assumption)))⟩
  · have hne := toList_nil (s := s) (by omega)
    rw [headOk_empty h0]
    go_enter Tryz.func108, Tryz.ntmps108
    go_wp2
    go_ret
    exact ⟨rfl, Below.refl _ _⟩

def okC (c : UInt8) : Bool := (decide (97 ≤ (c.toNat : Int)) && decide ((c.toNat : Int) ≤ 122)) || (decide (48 ≤ (c.toNat : Int)) && decide ((c.toNat : Int) ≤ 57)) || ((c.toNat : Int) == 95)
def okFrom (s : ByteArray) (k : Nat) : Bool := if h : k < s.size then (if okC s[k] then okFrom s (k + 1) else false) else true
  termination_by s.size - k
def nameR (s : ByteArray) : Bool := headOk s && okFrom s 0

set_option maxHeartbeats 4000000 in
theorem rname_any (s : ByteArray) (w : World) (hs : s.size ≤ maxLen) : Calls Tryz.prog 117 #[.string s] w fun e w' => e = .returned (.bool (nameR s)) ∧ w = w' := by
  unfold maxLen at hs
  rw [nameR]
  by_cases h0 : 0 < s.size
  · have hne := toList_ne h0
    cases hg : headOk s
    · have hn := headOk_neg h0 hg
      clear hg
      go_enter Tryz.func117, Tryz.ntmps117
      go_wp2_with fail
      all_goals go_ret
      all_goals exact ⟨rfl, rfl⟩
    · have hn := headOk_pos h0 hg
      clear hg
      obtain ⟨n1, n2, n3⟩ := hn
      go_enter Tryz.func117, Tryz.ntmps117
      go_wp2
      go_loop [3] (fun i => ∃ k : Nat, k ≤ s.size ∧ i = .int .i64 k ∧ okFrom s k = okFrom s 0) (fun i => s.size - (intOf i).toNat)
      case atStart => exact ⟨0, Nat.zero_le _, rfl, rfl⟩
      case round =>
        obtain ⟨k, hk, rfl, hz⟩ := hrel
        have HZ := Lib.hid hz; clear hz
        by_cases hlt : k < s.size
        · have hstep : okFrom s k = (if okC s[k] then okFrom s (k + 1) else false) := by rw [okFrom, dif_pos hlt]
          have HS := Lib.hid hstep; clear hstep
          have HC : Hid (okC s[k] = ((decide (97 ≤ (s[k].toNat : Int)) && decide ((s[k].toNat : Int) ≤ 122)) || (decide (48 ≤ (s[k].toNat : Int)) && decide ((s[k].toNat : Int) ≤ 57)) || ((s[k].toNat : Int) == 95))) := Lib.hid rfl
          cases h1 : decide (97 ≤ (s[k].toNat : Int)) <;> cases h2 : decide ((s[k].toNat : Int) ≤ 122) <;> cases h3 : decide (48 ≤ (s[k].toNat : Int)) <;> cases h4 : decide ((s[k].toNat : Int) ≤ 57) <;> cases h5 : ((s[k].toNat : Int) == 95)
          all_goals first
            | (exfalso; clear HC HS HZ; simp only [decide_eq_true_eq, decide_eq_false_iff_not, beq_iff_eq, beq_eq_false_iff_ne, ne_eq] at h1 h2 h3 h4 h5; omega)
            | (have HT : okC s[k] = true := by rw [HC.out, h1, h2, h3, h4, h5]; rfl
               have HT' := Lib.hid HT; clear HT HC
               go_wp2
               go_round
               case rel => exact ⟨k + 1, by omega, by go_num, by rw [← HZ.out, HS.out, HT'.out]; rfl⟩
               case measure => (first | (simp [intOf]; done) | (simp [intOf]; omega)))
            | (have HT : okC s[k] = false := by rw [HC.out, h1, h2, h3, h4, h5]; rfl
               have HT' := Lib.hid HT; clear HT HC
               go_wp2
               go_ret
               exact ⟨ret_b (by rw [← HZ.out, HS.out, HT'.out]; rfl), rfl⟩)
        · go_wp2
          go_ret
          exact ⟨ret_b (by rw [← HZ.out, okFrom, dif_neg hlt]; first | done | rfl), rfl⟩
  · have hne := toList_nil (s := s) (by omega)
    rw [headOk_empty h0]
    go_enter Tryz.func117, Tryz.ntmps117
    go_wp2
    go_ret
    exact ⟨rfl, rfl⟩

def strE (s : ByteArray) : Bool := s.toList.isEmpty
def goodB (t p c : ByteArray) : Bool := nameB t && !strE p && decide (p.size ≤ 64) && (strE c || nameB c)
def goodR (t p c : ByteArray) : Bool := nameR t && decide (1 ≤ p.size) && decide (p.size ≤ 64) && (strE c || nameR c)

theorem good_any (t p c : ByteArray) (r : Int) (w : World) (ht : t.size ≤ maxLen) (hp : p.size ≤ maxLen) (hc : c.size ≤ maxLen) :
    Calls Tryz.prog 64 #[.agg #[.string t, .string p, .int .i64 r, .string c]] w fun e w' => e = .returned (.bool (goodB t p c)) ∧ Below w.heap.size w w' := by
  have HN := fun W => name_any t W ht
  have HM := fun W => name_any c W hc
  unfold maxLen at hp
  unfold goodB
  generalize nameB t = bt at *
  generalize nameB c = bc at *
  cases bt <;> cases bc
  all_goals
    go_enter Tryz.func64, Tryz.ntmps64
    go_wp2_with (first | (go_at_call_of 108 t; refine (HN _).mono ?_; rintro e w' ⟨rfl, hb⟩; obtain ⟨hc1, hf1⟩ := bcell hb) | (go_at_call_of 108 c; refine (HM _).mono ?_; rintro e w2 ⟨rfl, hb2⟩; obtain ⟨hc2, hf2⟩ := bcell hb2))
    all_goals go_ret
    all_goals refine ⟨ret_b ?_, by (repeat (first | exact Below.refl _ _ | assumption | refine below_alloc ?_ _ | refine Below.drew ?_ | refine below_drewN ?_ _ | refine below_tr ?_ (by assumption)))⟩
    all_goals ((try unfold strE); first | rfl | (simp [*]; done) | (simp [*]; omega) | grind)

theorem rgood_any (t p c : ByteArray) (r : Int) (w : World) (ht : t.size ≤ maxLen) (hp : p.size ≤ maxLen) (hc : c.size ≤ maxLen) :
    Calls Tryz.prog 89 #[.agg #[.string t, .string p, .int .i64 r, .string c]] w fun e w' => e = .returned (.bool (goodR t p c)) ∧ Below w.heap.size w w' := by
  have HN := fun W => rname_any t W ht
  have HM := fun W => rname_any c W hc
  unfold maxLen at hp
  unfold goodR
  generalize nameR t = bt at *
  generalize nameR c = bc at *
  cases bt <;> cases bc
  all_goals
    go_enter Tryz.func89, Tryz.ntmps89
    go_wp2_with (first | (go_at_call_of 117 t; refine (HN _).mono ?_; rintro e w' ⟨rfl, rfl⟩) | (go_at_call_of 117 c; refine (HM _).mono ?_; rintro e w2 ⟨rfl, rfl⟩))
    all_goals go_ret
    all_goals refine ⟨ret_b ?_, by (repeat (first | exact Below.refl _ _ | assumption | refine below_alloc ?_ _ | refine Below.drew ?_ | refine below_drewN ?_ _ | refine below_tr ?_ (by assumption)))⟩
    all_goals ((try unfold strE); first | rfl | (simp [*]; done) | (simp [*]; omega) | grind)

end Go.Proofs.YtplghaoflmaadaaGreatDoor
end

section
set_option linter.unusedVariables false
set_option linter.unusedSimpArgs false
set_option maxRecDepth 20000
namespace Go.Proofs.YtplghaoflmaadaaGreatDoor
open Go.RowKit

set_option maxHeartbeats 1000000 in
theorem putG_any (base : Nat) (v : Value) (l : List UInt8) (u : Nat) (w : World) (HO : OwnB w base v l) (hbase : base ≤ w.heap.size) (hu : u < 18446744073709551616) (hl : l.length ≤ 100000000000) :
    Calls Tryz.prog 79 #[v, .int .u64 (u : Int)] w (RetG base w v (l ++ putL u)) := by
  have HO0 := Lib.hid HO; clear HO
  have hp := putL_len 9 u (by omega)
  have HT := Lib.hid (rfl : l ++ putL u = l ++ putL u)
  generalize htot : l ++ putL u = tot at *
  have htl : tot.length ≤ 100000000010 := by rw [← htot]; simp; omega
  clear hp
  have HTO := Lib.hid htot; clear htot
  go_enter Tryz.func79, Tryz.ntmps79
  go_wp2
  go_loopw [0, 1] (fun s i wr => ∃ (m : Nat) (acc : List UInt8), m ≤ u ∧ i = .int .u64 (m : Int) ∧ GrowV w wr v s ∧ OwnB wr base s acc ∧ acc ++ putL m = tot) (fun _ i _ => (intOf i).toNat)
  case atStart => exact ⟨u, l, Nat.le_refl _, rfl, GrowV.refl _ _, HO0.out, HTO.out⟩
  case round =>
    obtain ⟨m, acc, hm, rfl, hG, hO, he⟩ := hrel
    have hz : base ≤ wr.heap.size := Nat.le_trans hbase hG.1.size
    have hlen : acc.length + 1 ≤ 140737488355328 := by
      have h1 := congrArg List.length he; rw [List.length_append] at h1; omega
    clear HO0
    have HO := Lib.hid hO; clear hO
    have HG := Lib.hid hG; clear hG
    by_cases h : m < 128
    · rw [putL_small m h] at he
      have HE := Lib.hid he; clear he
      have hb := bcells_nat m (by omega)
      have HBC := Lib.hid hb; clear hb
      have hmod : (m : Int) % 256 = m := by omega
      go_wp2_with (at_builtin; go_must (refine ap_gl rfl (.tmp 15) (.tmp 18) rfl base u0 acc [UInt8.ofNat m] _ 1 1 rfl rfl rfl (by simp) HBC.out HO.out hz hlen ?_); intro v1 w1 hO1 hG1; clear HO hz)
      go_ret
      exact ⟨_, rfl, by rw [HE.out] at hO1; exact hO1, HG.out.trans hG1⟩
    · rw [putL_great m h] at he
      have HE := Lib.hid he; clear he
      have hor := or128 (m % 256) (by omega)
      have hmm : m % 256 % 128 = m % 128 := by omega
      rw [hmm] at hor
      have hb := bcells_nat (m % 128 + 128) (by omega)
      have HBC := Lib.hid hb; clear hb hmm
      have hcast : ((m % 256 : Nat) : Int) = (m : Int) % 256 := by omega
      rw [hcast] at hor
      clear hcast
      go_wp2_with (at_builtin; go_must (refine ap_gl rfl (.tmp 9) (.tmp 13) rfl base u0 acc [UInt8.ofNat (m % 128 + 128)] _ 1 1 rfl rfl rfl (by simp) HBC.out HO.out hz hlen ?_); intro v1 w1 hO1 hG1; clear HO hz)
      go_roundw
      case rel => exact ⟨m / 128, acc ++ [UInt8.ofNat (m % 128 + 128)], by omega, by go_num, HG.out.trans hG1, hO1, by rw [List.append_assoc]; exact HE.out⟩
      case measure => (first | (simp [intOf]; done) | (simp [intOf]; omega))
theorem textG_any (base : Nat) (v : Value) (l : List UInt8) (s : ByteArray) (w : World) (HO : OwnB w base v l) (hbase : base ≤ w.heap.size) (hs : s.size ≤ 1000000) (hl : l.length ≤ 10000000000) :
    Calls Tryz.prog 80 #[v, .string s] w (RetG base w v (l ++ textL s.toList)) := by
  have C := Lib.hid (putG_any base v l s.size w HO hbase (by omega) (by omega))
  have hp := putL_len 9 s.size (by omega)
  have hm : (l ++ putL s.size).length + s.size ≤ 140737488355328 := by simp; omega
  have hsz : s.size ≤ maxLen := by unfold maxLen; omega
  unfold maxLen at hsz
  clear hp
  have hW : IntKind.u64.wrap (s.size : Int) = (s.size : Int) := by rw [wu64]; omega
  have HL := Lib.hid (show textL s.toList = putL s.size ++ s.toList by unfold textL; rw [str_len])
  generalize hput : putL s.size = pu at *
  clear HO
  go_enter Tryz.func80, Tryz.ntmps80
  go_wp2_with fail
  refine C.out.mono ?_
  rintro e w1 ⟨v1, rfl, hO1, hg1⟩
  have hz1 := Nat.le_trans hbase hg1.1.size
  go_wp2_with (at_builtin; go_must (refine ap_gs rfl (.tmp 9) (.tmp 10) rfl base v1 _ s rfl rfl hO1 hz1 hm ?_); intro v2 w2 hO2 hg2)
  go_ret
  exact ⟨_, rfl, by rw [HL.out, ← List.append_assoc]; exact hO2, hg1.trans hg2⟩
end Go.Proofs.YtplghaoflmaadaaGreatDoor
end
