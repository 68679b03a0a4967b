/- Contracts of purge's having: a map of a list's keys. Conditions: keys of the bounds. -/
import Derived.Test.YtmjeifbadjdnfaaDoorHa
import Derived.DeepKeys4
import Derived.Maps.Own
set_option linter.unusedVariables false
set_option linter.unusedSimpArgs false
set_option maxRecDepth 20000
namespace Go.Proofs.YtmjeifbadjdnfaaDoor
open Go.RowKit Go.Sort
open Go.ChangeMaps (setBlock heap_setBlock_same heap_setBlock_other)

def kyVal (k : Ky) : Value := .agg #[.string k.t, .string k.p, .int .i64 k.r, .string k.c]
structure KyOk (k : Ky) : Prop where
  t : k.t.size ≤ 9223372036854775807
  p : k.p.size ≤ 9223372036854775807
  r : In64 k.r
  c : k.c.size ≤ 9223372036854775807
theorem keyLaw : WideMaps.KeyLaw Tryd.prog 29 := deep_law_laid (m := 3) (by kernel_rfl) (by decide) (of_decide_eq_true (by kernel_rfl)) (by kernel_rfl) (by kernel_rfl)
theorem kyLit (k : Ky) (h : KyOk k) : ∃ l, keyOf Tryd.prog 29 (kyVal k) = some l := by
  obtain ⟨h1, h2, h3, h4⟩ := h
  have e0 : Tryd.prog.keyType 29 = true := by kernel_rfl
  have e1 : (kyVal k).formed Tryd.prog 29 = true := by kernel_rfl
  unfold keyOf
  rw [Tryd.underlying29]
  simp only [e0, e1, Bool.and_self, if_true]
  obtain ⟨m, hm⟩ : ∃ m, Tryd.prog.types.size = m + 1 := ⟨Tryd.prog.types.size - 1, by have : 0 < Tryd.prog.types.size := of_decide_eq_true (by kernel_rfl); omega⟩
  have s9 : ∀ b : ByteArray, b.size ≤ 9223372036854775807 → Tryd.prog.keyLits (m + 1) 9 [.string b] = some [.string b.data.toList] := fun b h => by
    unfold Program.keyLits
    rw [Tryd.underlying9]
    simp [h, maxLen]
  have s3 : Tryd.prog.keyLits (m + 1) 3 [.int .i64 k.r] = some [.int .i64 k.r] := by
    unfold Program.keyLits
    rw [Tryd.underlying3]
    have : (Lit.int IntKind.i64 k.r).wf = true := by
      unfold In64 at h3
      simp [Lit.wf, IntKind.min, IntKind.max, IntKind.signed, IntKind.bits]; omega
    simp [this]
  have c29 : Tryd.prog.cellsOf 29 = 4 := by kernel_rfl
  have c9 : Tryd.prog.cellsOf 9 = 1 := by kernel_rfl
  have c3 : Tryd.prog.cellsOf 3 = 1 := by kernel_rfl
  rw [hm]
  unfold Program.keyLits
  rw [Tryd.underlying29]
  have hc : (kyVal k).cells.toList = [.string k.t, .string k.p, .int .i64 k.r, .string k.c] := rfl
  rw [hc]
  simp [c29, c9, c3, s9 _ h1, s9 _ h2, s9 _ h4, s3]

instance : DecidableEq Ky := fun a b => decidable_of_iff (a.t = b.t ∧ a.p = b.p ∧ a.r = b.r ∧ a.c = b.c) (by cases a; cases b; simp)
theorem kyVal_inj {a b : Ky} (h : kyVal a = kyVal b) : a = b := by
  cases a; cases b
  simp [kyVal] at h
  simp [h]
/-- Block b is a map of which the keys are these, all with true. -/
structure MapK (w : World) (b : Nat) (ks : List Ky) : Prop where
  ex : ∃ es clock, w.heap[b]? = some (.map es clock) ∧ (∀ e ∈ es.toList, ∃ k ∈ ks, e.key = kyVal k ∧ e.val = .bool true) ∧ (∀ k ∈ ks, ∃ e ∈ es.toList, e.key = kyVal k)
  ok : ∀ k ∈ ks, KyOk k
theorem MapK.below {w w1 : World} {b : Nat} {ks : List Ky} (h : MapK w b ks) (hb : Below w.heap.size w w1) : MapK w1 b ks := by
  obtain ⟨⟨es, clock, h1, h2, h3⟩, h4⟩ := h
  have hlt : b < w.heap.size := by
    rcases Nat.lt_or_ge b w.heap.size with h | h
    · exact h
    · rw [Array.getElem?_eq_none h] at h1; cases h1
  exact ⟨⟨es, clock, (hb.block b hlt).trans h1, h2, h3⟩, h4⟩
theorem MapK.lt {w : World} {b : Nat} {ks : List Ky} (h : MapK w b ks) : b < w.heap.size := by
  obtain ⟨es, clock, h1, _⟩ := h.ex
  rcases Nat.lt_or_ge b w.heap.size with h | h
  · exact h
  · rw [Array.getElem?_eq_none h] at h1; cases h1
theorem MapK.find {w : World} {b : Nat} {ks : List Ky} (h : MapK w b ks) (k : Ky) (hk : KyOk k) : ∃ es clock, w.heap[b]? = some (.map es clock) ∧ (∀ e ∈ es.toList, ∃ k ∈ ks, e.key = kyVal k ∧ e.val = .bool true) ∧ (∀ k ∈ ks, ∃ e ∈ es.toList, e.key = kyVal k) ∧
    ((k ∉ ks ∧ (Instr.findKey 29 (kyVal k) es.toList).run Tryd.prog w = .ok none w) ∨ (k ∈ ks ∧ ∃ j e, (Instr.findKey 29 (kyVal k) es.toList).run Tryd.prog w = .ok (some (j, .bool true)) w ∧ es[j]? = some e ∧ e.key = kyVal k)) := by
  obtain ⟨⟨es, clock, h1, h2, h3⟩, h4⟩ := h
  obtain ⟨l, hl⟩ := kyLit k hk
  refine ⟨es, clock, h1, h2, h3, ?_⟩
  rcases keyLaw.find w hl es.toList (fun e he => by
    obtain ⟨k', hk', e1, _⟩ := h2 e he
    rw [e1]; exact kyLit k' (h4 k' hk')) with ⟨hr, hn⟩ | ⟨j, e, hr, hj, he⟩
  · refine .inl ⟨fun hm => ?_, hr⟩
    obtain ⟨e, he, ek⟩ := h3 k hm
    exact hn e he ek
  · have hmem : e ∈ es.toList := List.mem_of_getElem? hj
    obtain ⟨k', hk', e1, e2⟩ := h2 e hmem
    have : k' = k := kyVal_inj (e1.symm.trans he)
    subst this
    exact .inr ⟨hk', j, e, by rw [hr, e2], by rw [← Array.getElem?_toList]; exact hj, he⟩
theorem MapK.look {w : World} {b : Nat} {ks : List Ky} (h : MapK w b ks) (k : Ky) (hk : KyOk k) : (Instr.lookup 98 (.map (some b)) (kyVal k) false).run Tryd.prog w = .ok (.bool (decide (k ∈ ks))) w := by
  obtain ⟨es, clock, h1, h2, h3, hf⟩ := h.find k hk
  obtain ⟨l, hl⟩ := kyLit k hk
  have hck := keyLaw.check w es.isEmpty hl
  have hz : (zeroValue 4).run Tryd.prog w = .ok (.bool false) w := by go_simp
  unfold Instr.lookup
  rcases hf with ⟨hn, hr⟩ | ⟨hm, j, e, hr, _⟩
  · simp [run_underlying Tryd.underlying98, MapKept.run_getObj_map h1, hck, hr, hz, hn, Result.andThen]
  · simp [run_underlying Tryd.underlying98, MapKept.run_getObj_map h1, hck, hr, hz, hm, Result.andThen]
theorem MapK.upd {w : World} {b : Nat} {ks : List Ky} (h : MapK w b ks) (k : Ky) (hk : KyOk k) : ∃ w', (Instr.mapUpdate 98 (.map (some b)) (kyVal k) (.bool true)).run Tryd.prog w = .ok () w' ∧ MapK w' b (ks ++ [k]) ∧ w.grownBy w' (some b) := by
  obtain ⟨es, clock, h1, h2, h3, hf⟩ := h.find k hk
  obtain ⟨l, hl⟩ := kyLit k hk
  have hck := keyLaw.check w false hl
  have hst := keyLaw.stays w hl
  have hok : ∀ k' ∈ ks ++ [k], KyOk k' := fun k' h' => by
    rcases List.mem_append.1 h' with h' | h'
    · exact h.ok k' h'
    · rw [List.mem_singleton.1 h']; exact hk
  have grow_ : ∀ o, w.grownBy (setBlock w b o) (some b) := fun o => ⟨rfl, rfl, rfl, by simp [setBlock], fun i _ hi => heap_setBlock_other h1 _ (fun e => hi (by rw [e]))⟩
  rcases hf with ⟨hn, hr⟩ | ⟨hm, j, e, hr, hj, he⟩
  · refine ⟨setBlock w b (.map (es.push { key := kyVal k, val := .bool true, born := clock }) (clock + 1)), ?_, ⟨⟨_, _, heap_setBlock_same h1 _, ?_, ?_⟩, hok⟩, grow_ _⟩
    · unfold Instr.mapUpdate
      simp [run_underlying Tryd.underlying98, MapKept.run_getObj_map h1, hck, hr, MapKept.run_setObj_map _ h1, Result.andThen, setBlock]
    · intro e he
      rw [Array.toList_push, List.mem_append] at he
      rcases he with he | he
      · obtain ⟨k', hk', e1, e2⟩ := h2 e he
        exact ⟨k', List.mem_append_left _ hk', e1, e2⟩
      · rw [List.mem_singleton] at he
        subst he
        exact ⟨k, by simp, rfl, rfl⟩
    · intro k' hk'
      rw [Array.toList_push]
      rcases List.mem_append.1 hk' with h' | h'
      · obtain ⟨e, he, ek⟩ := h3 k' h'
        exact ⟨e, List.mem_append_left _ he, ek⟩
      · rw [List.mem_singleton.1 h']
        exact ⟨_, List.mem_append_right _ (List.mem_singleton.2 rfl), rfl⟩
  · have hst2 : (Instr.keyThatStays (((es[j]?).map (·.key)).getD (kyVal k)) (kyVal k)).run Tryd.prog w = .ok (kyVal k) w := by rw [hj]; simp [he, hst]
    refine ⟨setBlock w b (.map (es.modify j fun e => { e with key := kyVal k, val := .bool true }) clock), ?_, ⟨⟨_, _, heap_setBlock_same h1 _, ?_, ?_⟩, hok⟩, grow_ _⟩
    · unfold Instr.mapUpdate
      simp [run_underlying Tryd.underlying98, MapKept.run_getObj_map h1, hck, hr, MapKept.run_setObj_map _ h1, Result.andThen, setBlock, hst2]
    · intro e' he'
      rw [Array.mem_toList_iff, Array.mem_iff_getElem?] at he'
      obtain ⟨i, hi⟩ := he'
      rw [Array.getElem?_modify] at hi
      split at hi
      · rw [Option.map_eq_some_iff] at hi
        obtain ⟨a, _, rfl⟩ := hi
        exact ⟨k, by simp, rfl, rfl⟩
      · obtain ⟨k', hk', e1, e2⟩ := h2 e' (Array.mem_toList_iff.2 (Array.mem_iff_getElem?.2 ⟨i, hi⟩))
        exact ⟨k', List.mem_append_left _ hk', e1, e2⟩
    · intro k' hk'
      have hk2 : k' ∈ ks := by
        rcases List.mem_append.1 hk' with h' | h'
        · exact h'
        · rw [List.mem_singleton.1 h']; exact hm
      obtain ⟨e', he', ek⟩ := h3 k' hk2
      rw [Array.mem_toList_iff, Array.mem_iff_getElem?] at he'
      obtain ⟨i, hi⟩ := he'
      by_cases hij : j = i
      · subst hij
        rw [hj] at hi
        injection hi with hi
        subst hi
        exact ⟨{ e with key := kyVal k, val := .bool true }, Array.mem_toList_iff.2 (Array.mem_iff_getElem?.2 ⟨j, by rw [Array.getElem?_modify, if_pos rfl, hj]; rfl⟩), by rw [← ek, he]⟩
      · exact ⟨e', Array.mem_toList_iff.2 (Array.mem_iff_getElem?.2 ⟨i, by rw [Array.getElem?_modify, if_neg hij]; exact hi⟩), ek⟩
end Go.Proofs.YtmjeifbadjdnfaaDoor
