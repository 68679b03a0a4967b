/- Words on owned slices that grow while other blocks stay: which blocks an append may touch. No condition. -/
import Derived.Test.YtefndmjimmbhnaaZ01
import Derived.Test.YtefndmjimmbhnaaZ46
section
set_option linter.unusedVariables false
set_option linter.unusedSimpArgs false
set_option maxRecDepth 20000
namespace Go.Proofs.Ytefndmjimmbhnaa
open Go.RowKit

/-- w' is w but for the block that v owns, which v' owns then, or a new one -/
def GrowV (w w' : World) (v v' : Value) : Prop := w.grownBy w' v.ownBlock ∧ (v'.ownBlock = v.ownBlock ∨ ∀ k, v'.ownBlock = some k → w.heap.size ≤ k)
theorem grown_rfl (w : World) (r : Option Nat) : w.grownBy w r := ⟨rfl, rfl, rfl, Nat.le_refl _, fun _ _ _ => rfl⟩
theorem GrowV.refl (w : World) (v : Value) : GrowV w w v v := ⟨grown_rfl w _, .inl rfl⟩
theorem GrowV.trans {w w1 w2 : World} {v v1 v2 : Value} (h : GrowV w w1 v v1) (k : GrowV w1 w2 v1 v2) : GrowV w w2 v v2 := by
  obtain ⟨h1, h2⟩ := h
  obtain ⟨k1, k2⟩ := k
  have hsz := h1.size
  refine ⟨⟨k1.os.trans h1.os, k1.tape.trans h1.tape, k1.output.trans h1.output, Nat.le_trans h1.size k1.size, fun i hi hne => (k1.block i (Nat.lt_of_lt_of_le hi h1.size) ?_).trans (h1.block i hi hne)⟩, ?_⟩
  · intro e
    rcases h2 with h2 | h2
    · rw [h2] at e; exact hne e
    · have := h2 i e.symm; omega
  · rcases k2 with k2 | k2
    · rcases h2 with h2 | h2
      · exact .inl (k2.trans h2)
      · exact .inr fun k hk => h2 k (by rw [← k2]; exact hk)
    · exact .inr fun k hk => Nat.le_trans hsz (k2 k hk)
theorem GrowV.pre {w w1 w2 : World} {v v' : Value} (h : Below w.heap.size w w1) (k : GrowV w1 w2 v v') : GrowV w w2 v v' := by
  obtain ⟨k1, k2⟩ := k
  refine ⟨⟨k1.os.trans h.os, k1.tape.trans h.tape, k1.output.trans h.output, Nat.le_trans h.size k1.size, fun i hi hne => (k1.block i (Nat.lt_of_lt_of_le hi h.size) hne).trans (h.block i hi)⟩, ?_⟩
  rcases k2 with k2 | k2
  · exact .inl k2
  · exact .inr fun k hk => Nat.le_trans h.size (k2 k hk)
theorem GrowV.post {w w1 w2 : World} {v v' : Value} (h : GrowV w w1 v v') (k : Below w1.heap.size w1 w2) : GrowV w w2 v v' := by
  obtain ⟨h1, h2⟩ := h
  exact ⟨⟨k.os.trans h1.os, k.tape.trans h1.tape, k.output.trans h1.output, Nat.le_trans h1.size k.size, fun i hi hne => (k.block i (Nat.lt_of_lt_of_le hi h1.size)).trans (h1.block i hi hne)⟩, h2⟩
theorem GrowV.drew {w w1 : World} {v v' : Value} (h : GrowV w w1 v v') : GrowV w w1.drew v v' := h.post (Below.drew (Below.refl _ _))
theorem GrowV.below {w w1 : World} {v v' : Value} (h : GrowV w w1 v v') {base : Nat} (hb : base ≤ w.heap.size) (hv : ∀ k, v.ownBlock = some k → base ≤ k) : Below base w w1 :=
  ⟨h.1.os, h.1.tape, h.1.output, h.1.size, fun k hk => h.1.block k (Nat.lt_of_lt_of_le hk hb) (fun e => by have := hv k e.symm; omega)⟩
theorem GrowV.new {w w1 : World} {v v' : Value} (h : GrowV w w1 v v') {base : Nat} (hb : base ≤ w.heap.size) (hv : ∀ k, v.ownBlock = some k → base ≤ k) : ∀ k, v'.ownBlock = some k → base ≤ k := by
  intro k hk
  rcases h.2 with h2 | h2
  · exact hv k (by rw [← h2]; exact hk)
  · exact Nat.le_trans hb (h2 k hk)
theorem GrowV.of_own {w w1 : World} {v v1 : Value} (hg : w.grownBy w1 v.ownBlock) (h : v1.ownBlock = v.ownBlock ∨ v1.ownBlock = some w.heap.size) : GrowV w w1 v v1 := by
  refine ⟨hg, ?_⟩
  rcases h with h | h
  · exact .inl h
  · exact .inr fun k hk => by rw [h] at hk; injection hk with hk; omega

/-- bytes, as elements -/
def eB : El UInt8 := { st := 69, t := 5, size := 1, bytes := 1, z := .int .u8 0, enc := fun b => [.int .u8 (b.toNat : Int)], len := fun _ => rfl, one := fun x u hu => by simp at hu; subst hu; rfl, info := infoByte, und := Try.underlying69, elem := elemByte, zs := rfl, pos := by decide }
theorem eB_cells (l : List UInt8) : eB.cells l = bcells l := by
  induction l with
  | nil => rfl
  | cons x l ih => rw [El.cells_cons, ih]; rfl
theorem own_eB {w : World} {base : Nat} {v : Value} {l : List UInt8} : OwnX eB w base v l ↔ OwnB w base v l := by unfold OwnX OwnB; rw [eB_cells]; exact Iff.rfl
theorem SlB.x {B : Nat} {w : World} {v : Value} {l : List UInt8} (h : SlB B w v l) : SlX eB B w v l := by
  obtain ⟨a, c, rfl, hc, hx⟩ := h.ex
  refine ⟨a, c, rfl, hc, fun h0 => ?_⟩
  obtain ⟨g, o, ea, hg, hcell⟩ := hx h0
  refine ⟨g, o, ea, hg, fun j u hj => ?_⟩
  rw [eB_cells, bcells_get] at hj
  have hlt : j < l.length := by
    rcases Nat.lt_or_ge j l.length with h | h
    · exact h
    · rw [List.getElem?_eq_none h] at hj; cases hj
  rw [List.getElem?_eq_getElem hlt] at hj
  rw [hcell j hlt]; exact hj
theorem SlX.b {B : Nat} {w : World} {v : Value} {l : List UInt8} (h : SlX eB B w v l) : SlB B w v l := by
  obtain ⟨a, c, rfl, hc, hx⟩ := h.ex
  refine ⟨a, c, rfl, hc, fun h0 => ?_⟩
  obtain ⟨g, o, ea, hg, hcell⟩ := hx h0
  refine ⟨g, o, ea, hg, fun j hj => hcell j _ ?_⟩
  rw [eB_cells, bcells_get, List.getElem?_eq_getElem hj]; rfl
/-- A block of another type is not the one that is owned. -/
theorem Blk.ne_own {α : Type} {E : El α} {w : World} {base g : Nat} {v : Value} {l : List α} {t : TypeId} {cs : Array Value} (h : Blk w g t cs) (ho : OwnX E w base v l) (ht : t ≠ E.t) : some g ≠ v.ownBlock := by
  rcases ho.2 with ⟨rfl, _⟩ | ⟨g', cap, cur, rfl, _, hh, _⟩
  · simp [Value.ownBlock]
  · intro e
    simp only [Value.ownBlock, Option.map_some, Option.some.injEq] at e
    subst e
    unfold Blk at h
    rw [h] at hh
    injection hh with hh; injection hh with _ ht'
    exact ht ht'
theorem Blk.growV {α : Type} {E : El α} {w w1 : World} {base g : Nat} {v v1 : Value} {l : List α} {t : TypeId} {cs : Array Value} (h : Blk w g t cs) (ho : OwnX E w base v l) (hg : GrowV w w1 v v1) (ht : t ≠ E.t) : Blk w1 g t cs := h.grown hg.1 (h.ne_own ho ht)

section
variable {α : Type} {E : El α} {ops : Array Oper} {rest : List Oper} {o : Oper} {a : Act} {Q : Exit → Act → World → Prop} {W : World}
/-- append(s, t...) -/
theorem ap_g (hgd : o.guard = none) (s x : Operand) (ho : o.op = .call { callee := .builtin .append, args := #[s, x], argTypes := #[E.st, E.st] })
    (base : Nat) (v : Value) (l : List α) (B : Nat) (v2 : Value) (l2 : List α) (hs : a.eval s = v) (hx : a.eval x = v2) (HV : SlX E B W v2 l2) (HO : OwnX E W base v l) (hbase : base ≤ W.heap.size) (h63 : l.length + l2.length ≤ 9223372036854775807) (hl : (l.length + l2.length) * E.bytes ≤ 140737488355328)
    (h : ∀ v1 w1, OwnX E w1 base v1 (l ++ l2) → GrowV W w1 v v1 → wpList Try.prog ops Q rest (a.put o.dst v1) w1) : wpList Try.prog ops Q (o :: rest) a W := by
  obtain ⟨v1, w1, hr, hO, hg, hw⟩ := run_ap W base v l o.type HV HO hbase h63 hl
  refine wpList_plain hgd fun K hK => ?_
  unfold Oper.wp
  simp only [execOp, ho, resolve, invoke, builtin, Sem.run_bind, Sem.run_pure, Result.andThen_ok, List.map_toArray, List.map_cons, List.map_nil, hs, hx, hr]
  exact hK _ _ (h v1 w1 hO (GrowV.of_own hg hw))
end
/-- append(s, t...), t a text -/
theorem run_str (W : World) (base : Nat) (v : Value) (l : List UInt8) (ty : TypeId) (y : ByteArray) (HO : OwnB W base v l) (hbase : base ≤ W.heap.size) (hl : l.length + y.size ≤ 140737488355328) :
    ∃ v1 w1, (Builtin.append_ #[69, 9] ty #[v, .string y]).run Try.prog W = .ok v1 w1 ∧ OwnB w1 base v1 (l ++ y.toList) ∧ GrowV W w1 v v1 := by
  obtain ⟨i0, hi, hz0, hz1, hz2⟩ := info_parts infoByte
  obtain ⟨v1, w1, hr, hO, hg, hn⟩ := Lib.run_append_own_string (P := Try.prog) W base 69 9 ty 5 i0 Try.underlying69 Try.underlying9 hi hz0 hz1 hz2 v l.length (bcells l) HO y (by simp only [maxLen]; omega) hl hbase
  refine ⟨v1, w1, hr, ?_, GrowV.of_own hg ?_⟩
  · unfold OwnB
    rw [List.length_append, str_len, bcells_append, ← bcells_str]
    exact hO
  · rcases HO.2 with ⟨rfl, h0⟩ | ⟨g, cap, cur, rfl, hbg, hgc, hnc, hcm, hcs, htake⟩
    · by_cases hm : y.size = 0
      · rw [hn.2 ⟨rfl, hm⟩]; exact .inl rfl
      · rw [run_append_nil_string (P := Try.prog) W 69 9 ty 5 i0 (.int .u8 0) Try.underlying69 Try.underlying9 hi hz0 y (by omega) (by omega) (by rw [hz2]; omega)] at hr
        injection hr with h1 h2
        subst h1
        exact .inr rfl
    · by_cases hroom : l.length + y.size ≤ cap
      · rw [Lib.run_append_room_string (P := Try.prog) W 69 9 ty 5 i0 Try.underlying69 Try.underlying9 hi hz1 g l.length cap cur hgc y hroom (by omega)] at hr
        injection hr with h1 h2
        subst h1
        exact .inl rfl
      · have hr2 := Lib.run_append_grow_string (P := Try.prog) W 69 9 ty 5 i0 (.int .u8 0) Try.underlying69 Try.underlying9 hi hz0 ⟨g, 0, none⟩ l.length cap (bcells l) (by rw [hz1, bcells_length]; omega) (World.ownsRow.cells HO rfl) y (by omega) (by omega) (by rw [hz2]; exact growslice_fits (by omega) (by omega))
        rw [hr2] at hr
        injection hr with h1 h2
        subst h1
        exact .inr rfl
theorem ap_gs {ops : Array Oper} {rest : List Oper} {o : Oper} {a : Act} {Q : Exit → Act → World → Prop} {W : World} (hgd : o.guard = none) (s x : Operand) (ho : o.op = .call { callee := .builtin .append, args := #[s, x], argTypes := #[69, 9] })
    (base : Nat) (v : Value) (l : List UInt8) (y : ByteArray) (hs : a.eval s = v) (hx : a.eval x = .string y) (HO : OwnB W base v l) (hbase : base ≤ W.heap.size) (hl : l.length + y.size ≤ 140737488355328)
    (h : ∀ v1 w1, OwnB w1 base v1 (l ++ y.toList) → GrowV W w1 v v1 → wpList Try.prog ops Q rest (a.put o.dst v1) w1) : wpList Try.prog ops Q (o :: rest) a W := by
  obtain ⟨v1, w1, hr, hO, hg⟩ := run_str W base v l o.type y HO hbase hl
  refine wpList_plain hgd fun K hK => ?_
  unfold Oper.wp
  simp only [execOp, ho, resolve, invoke, builtin, Sem.run_bind, Sem.run_pure, Result.andThen_ok, List.map_toArray, List.map_cons, List.map_nil, hs, hx, hr]
  exact hK _ _ (h v1 w1 hO hg)
/-- few bytes that lie in the block that was made last -/
theorem ap_gl {ops : Array Oper} {rest : List Oper} {o : Oper} {a : Act} {Q : Exit → Act → World → Prop} {W : World} (hgd : o.guard = none) (s x : Operand) (ho : o.op = .call { callee := .builtin .append, args := #[s, x], argTypes := #[69, 69] })
    (base : Nat) (v : Value) (l : List UInt8) (news : List UInt8) (cs : Array Value) (n c : Nat) (hs : a.eval s = v) (hx : a.eval x = .slice (some ⟨W.heap.size, 0, none⟩) n c) (hn : n = news.length) (hc : news.length ≤ c) (hcs : cs.toList = bcells news) (HO : OwnB W base v l) (hbase : base ≤ W.heap.size) (hl : l.length + news.length ≤ 140737488355328)
    (h : ∀ v1 w1, OwnB w1 base v1 (l ++ news) → GrowV W w1 v v1 → wpList Try.prog ops Q rest (a.put o.dst v1) w1) : wpList Try.prog ops Q (o :: rest) a (W.alloc (.cells cs 5)) := by
  refine ap_g (E := eB) hgd s x ho base v l _ _ news hs hx (SlX.lit (E := eB) W cs news n c hn hc (by rw [eB_cells]; exact hcs)) (OwnX.alloc (own_eB.2 HO) _) (Nat.le_trans hbase (by simp)) (by omega) (by show _ * 1 ≤ _; omega) ?_
  intro v1 w1 hO hg
  exact h v1 w1 (own_eB.1 hO) (GrowV.pre (below_alloc (Below.refl _ _) _) hg)
/-- What a call leaves that goes on in the memory of v. -/
def RetG (base : Nat) (w : World) (v : Value) (l : List UInt8) (e : Ending) (w' : World) : Prop := ∃ v', e = .returned v' ∧ OwnB w' base v' l ∧ GrowV w w' v v'
end Go.Proofs.Ytefndmjimmbhnaa
end
