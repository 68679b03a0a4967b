/- Slices of elements of any kind: what a call builds and owns, what it was handed; append. No condition. -/
import Derived.Test.YtefndmjimmbhnaaZ00
import Derived.Laws.Slices
import Derived.Laws.OwnMore
import Derived.Deep.RegionLawGrows
section
set_option linter.unusedVariables false
set_option linter.unusedSimpArgs false
set_option maxRecDepth 20000
namespace Go.Proofs.Ytefndmjimmbhnaa
open Go.RowKit

/-- A kind of elements: the slice's type, the element's, its cells. -/
structure El (α : Type) where
  st : TypeId
  t : TypeId
  size : Nat
  bytes : Nat
  z : Value
  enc : α → List Value
  len : ∀ x, (enc x).length = size
  one : ∀ x u, u ∈ enc x → u.oneCell' = true
  info : (Try.prog.info? t).map (fun i => (i.zero, i.size, i.bytes)) = some (some z, size, bytes)
  und : Try.prog.underlying st = some (.slice t)
  elem : Try.prog.elem st = t
  zs : z.cells.size = size
  pos : 0 < size

section
variable {α : Type} (E : El α)
def El.cells (l : List α) : List Value := l.flatMap E.enc
theorem El.cells_nil : E.cells [] = [] := rfl
theorem El.cells_app (a b : List α) : E.cells (a ++ b) = E.cells a ++ E.cells b := by simp [El.cells]
theorem El.cells_cons (x : α) (b : List α) : E.cells (x :: b) = E.enc x ++ E.cells b := by simp [El.cells]
theorem El.cells_len (l : List α) : (E.cells l).length = l.length * E.size := by
  induction l with
  | nil => simp [El.cells]
  | cons x l ih => rw [E.cells_cons, List.length_append, E.len, ih, List.length_cons, Nat.succ_mul, Nat.add_comm]
theorem El.cells_one (l : List α) : ∀ u ∈ E.cells l, u.oneCell' = true := by
  intro u hu
  simp only [El.cells, List.mem_flatMap] at hu
  obtain ⟨x, _, hx⟩ := hu
  exact E.one x u hx
theorem El.cells_get (l : List α) : ∀ (j i : Nat) (hj : j < l.length), i < E.size → (E.cells l)[j * E.size + i]? = (E.enc l[j])[i]? := by
  induction l with
  | nil => intro j i hj; simp at hj
  | cons x l ih =>
    intro j i hj hi
    rw [E.cells_cons]
    rcases j with _ | j
    · rw [Nat.zero_mul, Nat.zero_add, List.getElem?_append_left (by rw [E.len]; exact hi)]; rfl
    · rw [List.getElem?_append_right (by rw [E.len, Nat.succ_mul]; omega), E.len, Nat.succ_mul, show j * E.size + E.size + i - E.size = j * E.size + i by omega, ih j i (by simpa using hj) hi]
      rfl

/-- The slice value v owns the elements l, in a block from base on. -/
def OwnX (w : World) (base : Nat) (v : Value) (l : List α) : Prop := w.ownsRow base E.t E.size v l.length (E.cells l)
variable {E}
theorem OwnX.nil (w : World) (base : Nat) : OwnX E w base (.slice none 0 0) [] := World.ownsRow_nil w base _ _
theorem OwnX.below {w w1 : World} {base : Nat} {v : Value} {l : List α} (h : OwnX E w base v l) (hb : Below w.heap.size w w1) : OwnX E w1 base v l :=
  h.kept (row := none) ⟨hb.os, hb.tape, hb.output, hb.size, fun k hk _ => hb.block k hk⟩ (by cases v.ownBlock <;> simp)
theorem OwnX.grown {w w1 : World} {base : Nat} {v : Value} {l : List α} {row : Option Nat} (h : OwnX E w base v l) (hg : w.grownBy w1 row) (hne : v.ownBlock = none ∨ v.ownBlock ≠ row) : OwnX E w1 base v l := h.kept hg hne
theorem OwnX.but {w w1 : World} {base : Nat} {v : Value} {l : List α} {S : Nat → Prop} (h : OwnX E w base v l) (hb : But S w w1) (hs : ∀ k, base ≤ k → ¬ S k) : OwnX E w1 base v l := by
  have hlt := World.ownsRow.lt h
  obtain ⟨h1, h2⟩ := h
  refine ⟨h1, ?_⟩
  rcases h2 with h2 | ⟨g, cap, cur, e, hg, hh, r⟩
  · exact .inl h2
  · subst e
    exact .inr ⟨g, cap, cur, rfl, hg, (hb.block g (hlt g rfl).2 (hs g hg)).trans hh, r⟩
theorem OwnX.drew {w : World} {base : Nat} {v : Value} {l : List α} (h : OwnX E w base v l) : OwnX E w.drew base v l := World.ownsRow.drew h
theorem OwnX.drewN {w : World} {base n : Nat} {v : Value} {l : List α} (h : OwnX E w base v l) : OwnX E (w.drewN n) base v l := h.below (below_drewN (Below.refl _ _) n)
theorem OwnX.alloc {w : World} {base : Nat} {v : Value} {l : List α} (h : OwnX E w base v l) (o : Obj) : OwnX E (w.alloc o) base v l := World.ownsRow.alloc h o
theorem OwnX.base {w : World} {base : Nat} {v : Value} {l : List α} (h : OwnX E w base v l) : ∀ k, v.ownBlock = some k → base ≤ k := fun k hk => (World.ownsRow.lt h k hk).1
theorem OwnX.weaken {w : World} {base base' : Nat} {v : Value} {l : List α} (h : OwnX E w base v l) (hb : base' ≤ base) : OwnX E w base' v l := Joins.ownsRow_le h hb
theorem OwnX.lit (w : World) (base : Nat) (cs : Array Value) (l : List α) (n : Nat) (hb : base ≤ w.heap.size) (hn : n = l.length) (hl : l.length ≤ 1000000) (hc : cs.toList = E.cells l) : OwnX E (w.alloc (.cells cs E.t)) base (.slice (some ⟨w.heap.size, 0, none⟩) n n) l := by
  subst hn
  have h := World.ownsRow_lit (base := base) (e := E.t) (size := E.size) w cs l.length hb (by unfold maxLen; omega) (by have := congrArg List.length hc; rw [E.cells_len] at this; simpa using this)
  rw [hc] at h
  exact h
theorem OwnX.form {w : World} {base : Nat} {v : Value} {l : List α} (h : OwnX E w base v l) : (v = .slice none 0 0 ∧ l = []) ∨ ∃ g c, v = .slice (some ⟨g, 0, none⟩) l.length c ∧ l.length ≤ c ∧ base ≤ g ∧ g < w.heap.size ∧ ∀ j u, (E.cells l)[j]? = some u → w.cell? ⟨g, j, none⟩ = some u := by
  have hlt := World.ownsRow.lt h
  rcases h.2 with ⟨rfl, h0⟩ | ⟨g, cap, cur, rfl, hg, hh, hn, hc⟩
  · exact .inl ⟨rfl, List.eq_nil_of_length_eq_zero h0⟩
  · refine .inr ⟨g, cap, rfl, hn, hg, (hlt g rfl).2, fun j u hj => ?_⟩
    have := World.ownsRow.cells h (g := g) rfl j u hj
    rwa [add0, Nat.zero_add] at this

theorem OwnX.formN {w : World} {base : Nat} {v : Value} {l : List α} (h : OwnX E w base v l) (n : Nat) (hn : l.length = n) (h0 : 0 < n) : ∃ g c, v = .slice (some ⟨g, 0, none⟩) n c ∧ n ≤ c ∧ base ≤ g ∧ g < w.heap.size ∧ ∀ j u, (E.cells l)[j]? = some u → w.cell? ⟨g, j, none⟩ = some u := by
  subst hn
  rcases h.form with ⟨_, rfl⟩ | h
  · simp at h0
  · exact h

/-- The slice value v holds the elements l, in old memory (blocks under B). -/
structure SlX (E : El α) (B : Nat) (W : World) (v : Value) (l : List α) : Prop where
  ex : ∃ a c, v = .slice a l.length c ∧ l.length ≤ c ∧ (0 < l.length → ∃ g o, a = some ⟨g, o, none⟩ ∧ g < B ∧ ∀ j u, (E.cells l)[j]? = some u → W.cell? ⟨g, o + j, none⟩ = some u)
theorem SlX.below {B : Nat} {w w1 : World} {v : Value} {l : List α} (h : SlX E B w v l) (hb : Below B w w1) : SlX E B w1 v l := by
  obtain ⟨a, c, e, hc, hx⟩ := h.ex
  refine ⟨a, c, e, hc, fun h0 => ?_⟩
  obtain ⟨g, o, ea, hg, hcell⟩ := hx h0
  exact ⟨g, o, ea, hg, fun j u hj => by rw [hb.cell (p := ⟨g, o + j, none⟩) hg]; exact hcell j u hj⟩
theorem SlX.back {B : Nat} {w w1 : World} {v : Value} {l : List α} (h : SlX E B w1 v l) (hb : Below B w w1) : SlX E B w v l := by
  obtain ⟨a, c, e, hc, hx⟩ := h.ex
  refine ⟨a, c, e, hc, fun h0 => ?_⟩
  obtain ⟨g, o, ea, hg, hcell⟩ := hx h0
  exact ⟨g, o, ea, hg, fun j u hj => by rw [← hb.cell (p := ⟨g, o + j, none⟩) hg]; exact hcell j u hj⟩
theorem SlX.up {B B' : Nat} {w : World} {v : Value} {l : List α} (h : SlX E B w v l) (hB : B ≤ B') : SlX E B' w v l := by
  obtain ⟨a, c, e, hc, hx⟩ := h.ex
  refine ⟨a, c, e, hc, fun h0 => ?_⟩
  obtain ⟨g, o, ea, hg, hcell⟩ := hx h0
  exact ⟨g, o, ea, by omega, hcell⟩
theorem SlX.keep {w w1 : World} {v : Value} {l : List α} (h : SlX E w.heap.size w v l) (hb : Below w.heap.size w w1) : SlX E w1.heap.size w1 v l := (h.below hb).up hb.size
theorem SlX.nil (B : Nat) (W : World) (c : Nat) : SlX E B W (.slice none 0 c) ([] : List α) := ⟨none, c, rfl, by simp, fun h => absurd h (by simp)⟩
theorem OwnX.sl {W : World} {base : Nat} {v : Value} {l : List α} (h : OwnX E W base v l) : SlX E W.heap.size W v l := by
  rcases h.form with ⟨rfl, rfl⟩ | ⟨g, c, rfl, hc, _, hg, hcell⟩
  · exact SlX.nil _ _ _
  · exact ⟨some ⟨g, 0, none⟩, c, rfl, hc, fun _ => ⟨g, 0, rfl, hg, fun j u hj => by rw [Nat.zero_add]; exact hcell j u hj⟩⟩
theorem SlX.cell {B : Nat} {w : World} {l : List α} {g o n c : Nat} (h : SlX E B w (.slice (some ⟨g, o, none⟩) n c) l) (j i : Nat) (hj : j < l.length) {u : Value} (hu : (E.enc l[j])[i]? = some u) : w.cell? ⟨g, o + j * E.size + i, none⟩ = some u := by
  obtain ⟨a', c', e, hc, hx⟩ := h.ex
  injection e with e1 e2 e3
  subst e1 e2 e3
  obtain ⟨g', o', ea, hg, hcell⟩ := hx (by omega)
  injection ea with ea; injection ea with e1 e2
  subst e1 e2
  have hi : i < E.size := by
    rcases Nat.lt_or_ge i (E.enc l[j]).length with h | h
    · rwa [E.len] at h
    · rw [List.getElem?_eq_none h] at hu; cases hu
  rw [Nat.add_assoc]
  exact hcell _ _ (by rw [E.cells_get l j i hj hi]; exact hu)
theorem SlX.form {B : Nat} {w : World} {v : Value} {l : List α} (h : SlX E B w v l) (h0 : 0 < l.length) : ∃ g o c, v = .slice (some ⟨g, o, none⟩) l.length c ∧ l.length ≤ c ∧ g < B := by
  obtain ⟨a, c, e, hc, hx⟩ := h.ex
  obtain ⟨g, o, rfl, hg, _⟩ := hx h0
  exact ⟨g, o, c, e, hc, hg⟩

/-! append -/
theorem run_ap_nil (W : World) (base : Nat) (v : Value) (l : List α) (hO : OwnX E W base v l) (c : Nat) (ty : TypeId) : (Builtin.append_ #[E.st, E.st] ty #[v, .slice none 0 c]).run Try.prog W = .ok v W := by
  obtain ⟨i0, hi, hz0, hz1, hz2⟩ := info_parts E.info
  rcases hO.2 with ⟨rfl, h0⟩ | ⟨g, cap, cur, rfl, _, _, hnc, _⟩
  · obtain rfl : l = [] := List.eq_nil_of_length_eq_zero h0
    simp [Builtin.append_, run_underlying E.und, sizeOf, typeInfo, hi, Builtin.lenOf, Builtin.firstCells]
  · simp [Builtin.append_, run_underlying E.und, sizeOf, typeInfo, hi, Builtin.lenOf, Builtin.firstCells, hnc, storeCells]
theorem run_ap (W : World) (base : Nat) (v : Value) (l : List α) (ty : TypeId) {B : Nat} {v2 : Value} {l2 : List α} (HV : SlX E B W v2 l2) (HO : OwnX E W base v l) (hbase : base ≤ W.heap.size) (h63 : l.length + l2.length ≤ 9223372036854775807) (hl : (l.length + l2.length) * E.bytes ≤ 140737488355328) :
    ∃ v1 w1, (Builtin.append_ #[E.st, E.st] ty #[v, v2]).run Try.prog W = .ok v1 w1 ∧ OwnX E w1 base v1 (l ++ l2) ∧ W.grownBy w1 v.ownBlock ∧ (v1.ownBlock = v.ownBlock ∨ v1.ownBlock = some W.heap.size) := by
  obtain ⟨ad, c, rfl, hc, hcell⟩ := HV.ex
  obtain ⟨i0, hi, hz0, hz1, hz2⟩ := info_parts E.info
  have go : ∀ (b : Addr), ad = some b → (∀ j u, (E.cells l2)[j]? = some u → W.cell? (b.add j) = some u) → ∃ v1 w1, (Builtin.append_ #[E.st, E.st] ty #[v, .slice ad l2.length c]).run Try.prog W = .ok v1 w1 ∧ OwnX E w1 base v1 (l ++ l2) ∧ W.grownBy w1 v.ownBlock ∧ (v1.ownBlock = v.ownBlock ∨ v1.ownBlock = some W.heap.size) := by
    rintro b rfl hcc
    obtain ⟨v1, w1, hr, hO, hg, _, hw⟩ := run_append_own_at (P := Try.prog) (w := W) base E.st ty E.t i0 _ E.size E.bytes E.und hi hz0 hz1 hz2 E.zs E.pos v l.length (E.cells l) HO b l2.length c (E.cells l2) (E.cells_len l2) hcc (E.cells_one l2) (by unfold maxLen; omega) hl hbase
    refine ⟨v1, w1, hr, ?_, hg, hw⟩
    unfold OwnX
    rw [List.length_append, E.cells_app]
    exact hO
  by_cases h0 : l2 = []
  · subst h0
    rcases ad with _ | b
    · exact ⟨v, W, run_ap_nil W base v l HO c ty, by rw [List.append_nil]; exact HO, World.grownBy.refl W _, .inl rfl⟩
    · exact go b rfl (fun j u hj => by simp [El.cells] at hj)
  · obtain ⟨g, o', rfl, hg, hcc⟩ := hcell (List.length_pos_iff.2 h0)
    refine go _ rfl (fun j u hj => ?_)
    have e : (⟨g, o', none⟩ : Addr).add j = ⟨g, o' + j, none⟩ := by unfold Addr.add; split <;> simp_all
    rw [e]; exact hcc j u hj
/-- append(s, t...) -/
theorem ap_x {ops : Array Oper} {rest : List Oper} {o : Oper} {a : Act} {Q : Exit → Act → World → Prop} {W w0 : World} (hgd : o.guard = none) (s x : Operand) (ho : o.op = .call { callee := .builtin .append, args := #[s, x], argTypes := #[E.st, E.st] })
    (base : Nat) (v : Value) (l : List α) (B : Nat) (v2 : Value) (l2 : List α) (hs : a.eval s = v) (hx : a.eval x = v2) (HV : SlX E B W v2 l2) (HO : OwnX E W base v l) (HB : Below base w0 W) (hbase : base ≤ W.heap.size) (h63 : l.length + l2.length ≤ 9223372036854775807) (hl : (l.length + l2.length) * E.bytes ≤ 140737488355328)
    (h : ∀ v1 w1, OwnX E w1 base v1 (l ++ l2) → Below base w0 w1 → base ≤ w1.heap.size → W.grownBy w1 v.ownBlock → wpList Try.prog ops Q rest (a.put o.dst v1) w1) : wpList Try.prog ops Q (o :: rest) a W := by
  obtain ⟨v1, w1, hr, hO, hg, _⟩ := run_ap W base v l o.type HV HO hbase h63 hl
  refine wpList_plain hgd fun K hK => ?_
  unfold Oper.wp
  simp only [execOp, ho, resolve, invoke, builtin, Sem.run_bind, Sem.run_pure, Result.andThen_ok, List.map_toArray, List.map_cons, List.map_nil, hs, hx, hr]
  exact hK _ _ (h v1 w1 hO (HB.grown hg hbase HO.base) (Nat.le_trans hbase hg.size) hg)
/-- .. in a region that draws its order -/
theorem st_x {ops : Array Oper} {o : Oper} {a : Act} {K : Act → World → Prop} {Q : Exit → Act → World → Prop} {W : World} {EE : Prop} (hgd : o.guard = none) (s x : Operand) (ho : o.op = .call { callee := .builtin .append, args := #[s, x], argTypes := #[E.st, E.st] })
    (base : Nat) (v : Value) (l : List α) (B : Nat) (v2 : Value) (l2 : List α) (hs : a.eval s = v) (hx : a.eval x = v2) (HV : SlX E B W v2 l2) (HO : OwnX E W base v l) (hbase : base ≤ W.heap.size) (h63 : l.length + l2.length ≤ 9223372036854775807) (hl : (l.length + l2.length) * E.bytes ≤ 140737488355328)
    (h : ∀ v1 w1, OwnX E w1 base v1 (l ++ l2) → W.grownBy w1 v.ownBlock → (v1.ownBlock = v.ownBlock ∨ v1.ownBlock = some W.heap.size) → K (a.put o.dst v1) w1) : if Region.wanted o (yielded ops a.tmps) = true then Oper.wp Try.prog o a W K Q else EE := by
  have hw : Region.wanted o (yielded ops a.tmps) = true := by simp [Region.wanted, hgd]
  rw [if_pos hw]
  obtain ⟨v1, w1, hr, hO, hg, hwh⟩ := run_ap W base v l o.type HV HO hbase h63 hl
  unfold Oper.wp
  simp only [execOp, ho, resolve, invoke, builtin, Sem.run_bind, Sem.run_pure, Result.andThen_ok, List.map_toArray, List.map_cons, List.map_nil, hs, hx, hr]
  exact h v1 w1 hO hg hwh
/-- what lies in the block that was made last -/
theorem SlX.lit (W : World) (cs : Array Value) (l : List α) (n c : Nat) (hn : n = l.length) (hc : l.length ≤ c) (hcs : cs.toList = E.cells l) : SlX E (W.alloc (.cells cs E.t)).heap.size (W.alloc (.cells cs E.t)) (.slice (some ⟨W.heap.size, 0, none⟩) n c) l := by
  subst hn
  refine ⟨some ⟨W.heap.size, 0, none⟩, c, rfl, hc, fun _ => ⟨W.heap.size, 0, rfl, by simp, fun j u hj => ?_⟩⟩
  have : cs[j]? = some u := by rw [← Array.getElem?_toList, hcs]; exact hj
  rw [Nat.zero_add, cell_of_row _ W.heap.size j cs E.t (0, 0) (heap_last W _)]
  exact this
end

end Go.Proofs.Ytefndmjimmbhnaa
end
