/- Words on the disk's map of names: a map from texts to pointers, read and written. No condition. -/
import Derived.Test.YtefndmjimmbhnaaZ00
import Derived.DeepKeys4
import Derived.Maps.Own
import Derived.Maps.RangeRun
section
set_option linter.unusedVariables false
set_option linter.unusedSimpArgs false
set_option maxRecDepth 20000
namespace Go.Proofs.Ytefndmjimmbhnaa
open Go.RowKit
open Go.ChangeMaps (setBlock heap_setBlock_same heap_setBlock_other)

theorem strLaw : WideMaps.KeyLaw Try.prog 9 := WideMaps.string_law Try.underlying9
theorem strLit (s : ByteArray) (h : s.size ≤ 9223372036854775807) : ∃ l, keyOf Try.prog 9 (.string s) = some l := by
  exact ⟨_, WideMaps.keyOf_string_mk Try.underlying9 (by unfold maxLen; exact h)⟩
abbrev ptrV (a : Nat) : Value := .pointer (some ⟨a, 0, none⟩)
def entV (l : List (ByteArray × Nat)) : List (Value × Value) := l.map fun p => (Value.string p.1, ptrV p.2)
/-- Block b is a map of these names to these pages, in the order in which they were laid. -/
structure MapS (w : World) (b : Nat) (l : List (ByteArray × Nat)) : Prop where
  ex : ∃ es clock, w.heap[b]? = some (.map es clock) ∧ es.toList.map (fun e => (e.key, e.val)) = entV l ∧ (es.toList.map (·.born)).Nodup ∧ ∀ e ∈ es.toList, e.born < clock
  keys : (l.map (·.1)).Nodup
  ok : ∀ p ∈ l, p.1.size ≤ 9223372036854775807
section
variable {w w1 : World} {b : Nat} {l : List (ByteArray × Nat)}
theorem MapS.lt (h : MapS w b l) : b < w.heap.size := by
  obtain ⟨es, clock, h1, _⟩ := h.ex
  exact (Array.getElem?_eq_some_iff.1 h1).1
theorem MapS.of_block (h : MapS w b l) (e : w1.heap[b]? = w.heap[b]?) : MapS w1 b l := by
  obtain ⟨⟨es, clock, h1, h2, h3, h4⟩, hk, ho⟩ := h
  exact ⟨⟨es, clock, e.trans h1, h2, h3, h4⟩, hk, ho⟩
theorem MapS.below (h : MapS w b l) (hb : Below w.heap.size w w1) : MapS w1 b l := h.of_block (hb.block b h.lt)
theorem MapS.but {S : Nat → Prop} (h : MapS w b l) (hb : But S w w1) (hs : ¬ S b) : MapS w1 b l := h.of_block (hb.block b h.lt hs)
theorem MapS.grown {row : Option Nat} (h : MapS w b l) (hg : w.grownBy w1 row) (hs : some b ≠ row) : MapS w1 b l := h.of_block (hg.block b h.lt hs)
theorem MapS.new (w : World) : MapS (w.alloc (.map #[] 0)) w.heap.size [] := ⟨⟨#[], 0, heap_last w _, rfl, by simp, by simp⟩, by simp, by simp⟩
/-- the page of a name -/
def pageOf (l : List (ByteArray × Nat)) (s : ByteArray) : Option Nat := (l.find? fun p => decide (p.1 = s)).map (·.2)
theorem ent_get {es : List MapEntry} (h : es.map (fun e => (e.key, e.val)) = entV l) {j : Nat} {e : MapEntry} (hj : es[j]? = some e) : ∃ p, l[j]? = some p ∧ e.key = .string p.1 ∧ e.val = ptrV p.2 := by
  have := congrArg (·[j]?) h
  simp only [List.getElem?_map, hj, Option.map_some, entV] at this
  cases hl : l[j]? with
  | none => rw [hl] at this; cases this
  | some p =>
    rw [hl] at this
    simp only [Option.map_some, Option.some.injEq, Prod.mk.injEq] at this
    exact ⟨p, rfl, this.1, this.2⟩
theorem ent_mem {es : List MapEntry} (h : es.map (fun e => (e.key, e.val)) = entV l) {e : MapEntry} (he : e ∈ es) : ∃ p ∈ l, e.key = .string p.1 ∧ e.val = ptrV p.2 := by
  obtain ⟨j, hj, rfl⟩ := List.getElem_of_mem he
  obtain ⟨p, hp, h1, h2⟩ := ent_get h (List.getElem?_eq_getElem hj)
  exact ⟨p, List.mem_of_getElem? hp, h1, h2⟩
theorem ent_back {es : List MapEntry} (h : es.map (fun e => (e.key, e.val)) = entV l) {p : ByteArray × Nat} (hp : p ∈ l) : ∃ e ∈ es, e.key = .string p.1 := by
  have : (Value.string p.1, ptrV p.2) ∈ entV l := List.mem_map.2 ⟨p, hp, rfl⟩
  rw [← h] at this
  obtain ⟨e, he, e2⟩ := List.mem_map.1 this
  injection e2 with e3 e4
  exact ⟨e, he, e3⟩
theorem pair_uniq (hk : (l.map (·.1)).Nodup) {p q : ByteArray × Nat} (hp : p ∈ l) (hq : q ∈ l) (h : p.1 = q.1) : p = q := by
  induction l with
  | nil => cases hp
  | cons x l ih =>
    rw [List.map_cons, List.nodup_cons] at hk
    rcases List.mem_cons.1 hp with rfl | hp'
    · rcases List.mem_cons.1 hq with rfl | hq'
      · rfl
      · exact absurd (List.mem_map.2 ⟨q, hq', h.symm⟩) hk.1
    · rcases List.mem_cons.1 hq with rfl | hq'
      · exact absurd (List.mem_map.2 ⟨p, hp', h⟩) hk.1
      · exact ih hk.2 hp' hq'
theorem pageOf_some (hk : (l.map (·.1)).Nodup) {p : ByteArray × Nat} (hp : p ∈ l) : pageOf l p.1 = some p.2 := by
  unfold pageOf
  cases hf : l.find? (fun q => decide (q.1 = p.1)) with
  | none => exact absurd (List.find?_eq_none.1 hf p hp) (by simp)
  | some q =>
    have h1 := List.find?_some hf
    have h2 := List.mem_of_find?_eq_some hf
    rw [pair_uniq hk h2 hp (by simpa using h1)]; rfl
theorem pageOf_none {s : ByteArray} (h : ∀ p ∈ l, p.1 ≠ s) : pageOf l s = none := by
  unfold pageOf
  rw [List.find?_eq_none.2 (fun p hp => by simpa using h p hp)]; rfl
theorem MapS.find (h : MapS w b l) (s : ByteArray) (hs : s.size ≤ 9223372036854775807) : ∃ es clock, w.heap[b]? = some (.map es clock) ∧ es.toList.map (fun e => (e.key, e.val)) = entV l ∧ (es.toList.map (·.born)).Nodup ∧ (∀ e ∈ es.toList, e.born < clock) ∧
    ((pageOf l s = none ∧ (∀ p ∈ l, p.1 ≠ s) ∧ (Instr.findKey 9 (.string s) es.toList).run Try.prog w = .ok none w) ∨
     (∃ j p, (Instr.findKey 9 (.string s) es.toList).run Try.prog w = .ok (some (j, ptrV p.2)) w ∧ l[j]? = some p ∧ p.1 = s ∧ pageOf l s = some p.2)) := by
  obtain ⟨⟨es, clock, h1, h2, h3, h4⟩, hk, ho⟩ := h
  obtain ⟨lx, hl⟩ := strLit s hs
  refine ⟨es, clock, h1, h2, h3, h4, ?_⟩
  rcases strLaw.find w hl es.toList (fun e he => by
    obtain ⟨p, hp, e1, _⟩ := ent_mem h2 he
    rw [e1]; exact strLit p.1 (ho p hp)) with ⟨hr, hn⟩ | ⟨j, e, hr, hj, he⟩
  · have hne : ∀ p ∈ l, p.1 ≠ s := fun p hp e => by
      obtain ⟨x, hx, ex⟩ := ent_back h2 hp
      exact hn x hx (by rw [ex, e])
    exact .inl ⟨pageOf_none hne, hne, hr⟩
  · obtain ⟨p, hp, e1, e2⟩ := ent_get h2 hj
    have e3 : p.1 = s := by rw [e1] at he; injection he
    refine .inr ⟨j, p, by rw [hr, e2], hp, e3, ?_⟩
    rw [← e3]; exact pageOf_some hk (List.mem_of_getElem? hp)
def optP (o : Option Nat) : Value := .pointer (o.map fun a => ⟨a, 0, none⟩)
theorem MapS.look (h : MapS w b l) (s : ByteArray) (hs : s.size ≤ 9223372036854775807) : (Instr.lookup 65 (.map (some b)) (.string s) false).run Try.prog w = .ok (optP (pageOf l s)) w := by
  obtain ⟨es, clock, h1, _, _, _, hf⟩ := h.find s hs
  obtain ⟨lx, hl⟩ := strLit s hs
  have hck := strLaw.check w es.isEmpty hl
  have hz : (zeroValue 82).run Try.prog w = .ok (.pointer none) w := by simp [go_sem]
  unfold Instr.lookup
  rcases hf with ⟨hn, _, hr⟩ | ⟨j, p, hr, _, _, hp⟩
  · simp [run_underlying Try.underlying65, MapKept.run_getObj_map h1, hck, hr, hz, hn, Result.andThen, optP]
  · simp [run_underlying Try.underlying65, MapKept.run_getObj_map h1, hck, hr, hz, hp, Result.andThen, optP, ptrV]
theorem grow_setBlock {es : Array MapEntry} {clock : Nat} {o' : Obj} (h1 : w.heap[b]? = some (.map es clock)) : w.grownBy (setBlock w b o') (some b) := ⟨rfl, rfl, rfl, by simp [setBlock], fun i _ hi => heap_setBlock_other h1 _ (fun e => hi (by rw [e]))⟩
theorem MapS.upd (h : MapS w b l) (s : ByteArray) (a : Nat) (hs : s.size ≤ 9223372036854775807) (hn : ∀ p ∈ l, p.1 ≠ s) :
    ∃ w', (Instr.mapUpdate 65 (.map (some b)) (.string s) (ptrV a)).run Try.prog w = .ok () w' ∧ MapS w' b (l ++ [(s, a)]) ∧ w.grownBy w' (some b) := by
  have hk := h.keys; have ho := h.ok
  obtain ⟨es, clock, h1, h2, h3, h4, hf⟩ := h.find s hs
  obtain ⟨lx, hl⟩ := strLit s hs
  have hck := strLaw.check w false hl
  rcases hf with ⟨_, _, hr⟩ | ⟨j, p, _, hj, e, _⟩
  · refine ⟨setBlock w b (.map (es.push { key := .string s, val := ptrV a, born := clock }) (clock + 1)), ?_, ⟨⟨_, _, heap_setBlock_same h1 _, ?_, ?_, ?_⟩, ?_, ?_⟩, grow_setBlock h1⟩
    · unfold Instr.mapUpdate
      simp [run_underlying Try.underlying65, MapKept.run_getObj_map h1, hck, hr, MapKept.run_setObj_map _ h1, Result.andThen, setBlock]
    · rw [Array.toList_push, List.map_append, h2]; simp [entV]
    · rw [Array.toList_push, List.map_append, List.nodup_append]
      refine ⟨h3, by simp, fun x hx y hy => ?_⟩
      obtain ⟨e, he, rfl⟩ := List.mem_map.1 hx
      simp at hy
      have := h4 e he
      omega
    · intro e he
      rw [Array.toList_push, List.mem_append] at he
      rcases he with he | he
      · have := h4 e he; omega
      · rw [List.mem_singleton] at he; subst he; simp
    · rw [List.map_append, List.nodup_append]
      refine ⟨hk, by simp, fun x hx y hy => ?_⟩
      obtain ⟨p, hp, rfl⟩ := List.mem_map.1 hx
      simp at hy
      subst hy
      exact hn p hp
    · intro p hp
      rcases List.mem_append.1 hp with hp | hp
      · exact ho p hp
      · rw [List.mem_singleton.1 hp]; exact hs
  · exact absurd e (hn p (List.mem_of_getElem? hj))
theorem map_erase {α β : Type} (f : α → β) : ∀ (l : List α) (j : Nat), (l.eraseIdx j).map f = (l.map f).eraseIdx j
  | [], j => by simp
  | x :: l, 0 => rfl
  | x :: l, j + 1 => by rw [List.eraseIdx_cons_succ, List.map_cons, List.map_cons, List.eraseIdx_cons_succ, map_erase f l j]
theorem erase_filter (hk : (l.map (·.1)).Nodup) {j : Nat} {p : ByteArray × Nat} (hj : l[j]? = some p) : l.eraseIdx j = l.filter fun q => !decide (q.1 = p.1) := by
  induction l generalizing j with
  | nil => simp at hj
  | cons x l ih =>
    rw [List.map_cons, List.nodup_cons] at hk
    cases j with
    | zero =>
      simp at hj
      subst hj
      rw [List.eraseIdx_zero, List.tail_cons, List.filter_cons_of_neg (by simp)]
      exact (List.filter_eq_self.2 fun q hq => by
        have : q.1 ≠ x.1 := fun e => hk.1 (List.mem_map.2 ⟨q, hq, e⟩)
        simpa using this).symm
    | succ j =>
      rw [List.getElem?_cons_succ] at hj
      have hne : x.1 ≠ p.1 := fun e => hk.1 (List.mem_map.2 ⟨p, List.mem_of_getElem? hj, e.symm⟩)
      rw [List.eraseIdx_cons_succ, ih hk.2 hj, List.filter_cons_of_pos (by simpa using hne)]
theorem MapS.del (h : MapS w b l) (s : ByteArray) (hs : s.size ≤ 9223372036854775807) :
    ∃ w', (∀ ty, (Builtin.delete_ #[65, 9] ty #[.map (some b), .string s]).run Try.prog w = .ok (.tuple #[]) w') ∧ MapS w' b (l.filter fun p => !decide (p.1 = s)) ∧ w.grownBy w' (some b) := by
  have hk := h.keys; have ho := h.ok
  obtain ⟨es, clock, h1, h2, h3, h4, hf⟩ := h.find s hs
  obtain ⟨lx, hl⟩ := strLit s hs
  have hck := strLaw.check w es.isEmpty hl
  have hkf : ((l.filter fun p => !decide (p.1 = s)).map (·.1)).Nodup := List.Pairwise.sublist (List.Sublist.map _ List.filter_sublist) hk
  have hof : ∀ p ∈ l.filter (fun p => !decide (p.1 = s)), p.1.size ≤ 9223372036854775807 := fun p hp => ho p (List.mem_filter.1 hp).1
  rcases hf with ⟨_, hne, hr⟩ | ⟨j, p, hr, hj, e, _⟩
  · refine ⟨setBlock w b (.map es clock), ?_, ⟨⟨_, _, heap_setBlock_same h1 _, ?_, h3, h4⟩, hkf, hof⟩, grow_setBlock h1⟩
    · intro ty
      unfold Builtin.delete_
      simp [run_underlying Try.underlying65, MapKept.run_getObj_map h1, hck, hr, MapKept.run_setObj_map _ h1, Result.andThen, setBlock]
    · rw [h2, List.filter_eq_self.2 (fun p hp => by simpa using hne p hp)]
  · have he : (es.eraseIdxIfInBounds j).toList = es.toList.eraseIdx j := by simp
    refine ⟨setBlock w b (.map (es.eraseIdxIfInBounds j) clock), ?_, ⟨⟨_, _, heap_setBlock_same h1 _, ?_, ?_, ?_⟩, hkf, hof⟩, grow_setBlock h1⟩
    · intro ty
      unfold Builtin.delete_
      simp [run_underlying Try.underlying65, MapKept.run_getObj_map h1, hck, hr, MapKept.run_setObj_map _ h1, Result.andThen, setBlock]
    · subst e
      rw [he, map_erase, h2, ← erase_filter hk hj]
      unfold entV
      rw [map_erase]
    · rw [he]; exact List.Pairwise.sublist (List.Sublist.map _ (List.eraseIdx_sublist _ _)) h3
    · intro e' he'
      rw [he] at he'
      exact h4 e' (List.mem_of_mem_eraseIdx he')
end
end Go.Proofs.Ytefndmjimmbhnaa
end
