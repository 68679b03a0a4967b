/- Contracts of the disk's unlink and fault, and of On. No condition but what a disk is; texts have room. Words on ranging over the disk's map of names, in whatever order. No condition. Contracts of the disk's free, New, On, Arm and Start. No condition but what a disk is. -/
import Derived.Test.YtefndmjimmbhnaaZ31
section
set_option linter.unusedVariables false
set_option linter.unusedSimpArgs false
set_option maxRecDepth 50000
namespace Go.Proofs.Ytefndmjimmbhnaa
open Go.RowKit Go.Shelf

theorem pageOf_get (D : Dsk) (nm : ByteArray) : pageOf (D.l.map fun f => (f.n, f.a)) nm = (D.get nm).map (·.a) := by
  unfold pageOf Dsk.get
  induction D.l with
  | nil => rfl
  | cons x l ih =>
    rw [List.map_cons]
    by_cases e : x.n = nm
    · rw [List.find?_cons_of_pos (by simpa using e), List.find?_cons_of_pos (by simpa using e)]; rfl
    · rw [List.find?_cons_of_neg (by simpa using e), List.find?_cons_of_neg (by simpa using e), ih]
theorem DiskW.look {w : World} {D : Dsk} (h : DiskW w D) (nm : ByteArray) (hs : nm.size ≤ 9223372036854775807) : (Instr.lookup 65 (.map (some D.m)) (.string nm) false).run Try.prog w = .ok (.pointer (((D.get nm).map (·.a)).map fun a => ⟨a, 0, none⟩)) w := by
  have := h.mp.look nm hs
  rwa [pageOf_get] at this
theorem DiskW.pageIs {w : World} {D : Dsk} (h : DiskW w D) {f : Fil} (hf : f ∈ D.l) : Is w f.a := by obtain ⟨c, h1, _⟩ := (h.pg f hf).ex; exact ⟨_, _, h1⟩
theorem unlink_end {D : Dsk} {w w1 : World} (h : DiskW w D) {f : Fil} {nm : ByteArray} (hg : D.get nm = some f) (hl : D.line = forgetL D.line f.a) (hm : MapS w1 D.m ((D.l.map fun f => (f.n, f.a)).filter fun p => !decide (p.1 = nm))) (hgr : w.grownBy w1 (some D.m)) : Mv w D w1 (D.unlink nm) := by
  have hd := h.dist
  have eU : D.unlink nm = { D with l := D.l.filter fun g : Fil => !decide (g.n = nm), line := forgetL D.line f.a } := by unfold Dsk.unlink; rw [hg]
  have hS := But.of_grown hgr
  have mem : ∀ g ∈ (D.unlink nm).l, g ∈ D.l := fun g hg2 => ((h.ok.unlink nm).2.1 g hg2).1
  have e1 : (D.unlink nm).d = D.d := by rw [eU]
  have e2 : (D.unlink nm).m = D.m := by rw [eU]
  have e3 : (D.unlink nm).lr = D.lr := by rw [eU]
  refine Mv.mk' hS (fun k hk => .inr (.inl hk)) e1 ?_ ?_ (fun g hg2 => ?_) (h.ok.unlink nm).1 (fun k hk => .inl ?_)
  · have hmain := MainW.but (D := D) h.main hS hd.dm (fun k e e2 => hd.ml (by rw [e, e2]))
    obtain ⟨ops, lc, h1, h2⟩ := hmain
    rw [hl] at h1 h2
    rw [eU]
    exact ⟨ops, lc, h1, h2⟩
  · rw [e2, eU]
    show MapS w1 D.m ((D.l.filter fun g : Fil => !decide (g.n = nm)).map fun f => (f.n, f.a))
    have : ((D.l.filter fun g : Fil => !decide (g.n = nm)).map fun f => (f.n, f.a)) = (D.l.map fun f => (f.n, f.a)).filter fun p => !decide (p.1 = nm) := by
      rw [List.filter_map]; rfl
    rw [this]; exact hm
  · exact (h.pg g (mem g hg2)).but hS (hd.ma g (mem g hg2)) (fun k e e2 => hd.mr g (mem g hg2) (by rw [e, e2]))
  · rcases hk with hk | hk | hk | ⟨g, hg2, hk⟩
    · exact .inl (hk.trans e1)
    · exact .inr (.inl (hk.trans e2))
    · exact .inr (.inr (.inl (e3 ▸ hk)))
    · exact .inr (.inr (.inr ⟨g, mem g hg2, hk⟩))
theorem forget_twice (line : List (Nat × Nat)) (a : Nat) : forgetL (forgetL line a) a = forgetL line a := by
  unfold forgetL; rw [List.filter_filter]; simp
set_option maxHeartbeats 1000000 in
theorem unlink_any (D : Dsk) (nm : ByteArray) (w : World) (h : DiskW w D) (hs : nm.size ≤ 9223372036854775807) :
    Calls Try.prog 83 #[ptrV D.d, .string nm] w fun e w' => e = .returned (.tuple #[]) ∧ Mv w D w' (D.unlink nm) := by
  obtain ⟨ops, lc, hm, hrow⟩ := h.main
  have LK := h.look nm hs
  have c1 := hm.cell 1 rfl
  have HH := Lib.hid h
  cases hg : D.get nm with
  | none =>
    have eU : D.unlink nm = D := by unfold Dsk.unlink; rw [hg]
    rw [hg] at LK
    rw [eU]
    have FIN := Lib.hid (Mv.refl h (Below.refl _ w))
    clear hm hrow h eU hg
    simp only [ptrV, Option.map_none] at *
    go_enter Try.func83, Try.ntmps83
    go_wp2_with fail
    go_end0
    exact ⟨rfl, FIN.out⟩
  | some f =>
    obtain ⟨hf, ef⟩ := get_mem hg
    have FG := Lib.hid (forget_any D f w h hf)
    have HG := Lib.hid hg
    rw [hg] at LK
    clear hm hrow h hg
    simp only [ptrV, Option.map_some] at *
    go_enter Try.func83, Try.ntmps83
    go_wp2_with fail
    refine FG.out.mono ?_
    rintro e w1 ⟨rfl, hmv⟩
    have HMV := Lib.hid hmv
    obtain ⟨ops1, lc1, hm1, _⟩ := hmv.dw.main
    have d1 := hm1.cell 1 rfl
    obtain ⟨w2, hdel, hM2, hg2⟩ := hmv.dw.mp.del nm hs
    have FIN := Lib.hid (hmv.trans (unlink_end hmv.dw (f := f) (nm := nm) HG.out (forget_twice _ _).symm hM2 hg2))
    have EU := Lib.hid (show ({ D with line := forgetL D.line f.a } : Dsk).unlink nm = D.unlink nm by
      unfold Dsk.unlink
      rw [HG.out, show ({ D with line := forgetL D.line f.a } : Dsk).get nm = some f from HG.out]
      show ({ D with l := D.l.filter fun g : Fil => !decide (g.n = nm), line := forgetL (forgetL D.line f.a) f.a } : Dsk) = { D with l := D.l.filter fun g : Fil => !decide (g.n = nm), line := forgetL D.line f.a }
      rw [forget_twice])
    clear hmv hm1 hM2 hg2 c1 FG LK
    go_wp2_with fail
    go_end0
    exact ⟨rfl, by rw [← EU.out]; exact FIN.out⟩
/-- the errors that come first -/
def faultC (D : Dsk) (xs : List ByteArray) (wanted : Bool) : Int :=
  if D.dark = true then 9 else if (xs.any fun x => !diskNameB x) = true then 3 else if wanted = true ∧ D.get (xs.getD 0 ⟨#[]⟩) = none then 4 else 0
theorem map_not_nil (W : World) (mp : Nat) : (binOp .eql 65 (.map (some mp)) (.map none)).run Try.prog W = .ok (.bool false) W := by
  simp [binOp, go_sem, run_equal_map_nil W _ _ _ (some mp) Try.underlying65, Result.andThen]
theorem ask_nil (w : World) : Calls Try.prog 43 #[.slice none 0 0, .func (.func 44) #[] #[]] w fun e w' => e = .returned (.bool false) ∧ Below w.heap.size w w' := by
  have H : Calls Try.prog 68 #[.slice none 0 0, .func (.func 44) #[] #[]] w fun e w' => e = .returned (.int .i64 (-1)) ∧ Below w.heap.size w w' := by
    go_enter Try.func68, Try.ntmps68
    go_wp2_with fail
    refine wp_loop_rounds 1 ?_
    rw [rounds_succ]
    go_wp2_with fail
    go_ret
    exact ⟨rfl, Below.refl _ _⟩
  go_enter Try.func43, Try.ntmps43
  go_wp2_with fail
  refine H.mono ?_
  rintro e w1 ⟨rfl, hb⟩
  go_wp2_with fail
  go_ret
  exact ⟨rfl, hb⟩
/-- the names that a call asks for, or none -/
def NamesN (w : World) (v : Value) (xs : List ByteArray) : Prop := Names w v xs ∨ (v = .slice none 0 0 ∧ xs = [])
theorem askN_any (v : Value) (xs : List ByteArray) (hl : xs.length ≤ 1000) (hs : ∀ x ∈ xs, x.size ≤ 140737488351232) (w : World) (hv : NamesN w v xs) :
    Calls Try.prog 43 #[v, .func (.func 44) #[] #[]] w fun e w' => e = .returned (.bool (xs.any (fun x => !diskNameB x))) ∧ Below w.heap.size w w' := by
  rcases hv with hv | ⟨rfl, rfl⟩
  · exact ask_any v xs hl hs w hv
  · exact ask_nil w
set_option maxHeartbeats 1000000 in
theorem fault_any (D : Dsk) (v : Value) (xs : List ByteArray) (wanted : Bool) (w : World) (h : DiskW w D) (hl : xs.length ≤ 1000) (hs : ∀ x ∈ xs, x.size ≤ 140737488351232) (hv : NamesN w v xs) (hw : wanted = true → 0 < xs.length) :
    Calls Try.prog 23 #[ptrV D.d, v, .bool wanted] w fun e w' => e = .returned (.int .i64 (faultC D xs wanted)) ∧ Below w.heap.size w w' := by
  obtain ⟨ops, lc, hm, _⟩ := h.main
  have c1 := hm.cell 1 rfl; have c3 := hm.cell 3 rfl
  have NN := fun W => map_not_nil W D.m
  have AK := Lib.hid (askN_any v xs hl hs w hv)
  obtain ⟨dk, hdk⟩ : ∃ b, D.dark = b := ⟨_, rfl⟩
  rw [hdk] at c3
  have HH := Lib.hid h; have HV := Lib.hid hv; have HW := Lib.hid hw; have HSZ := Lib.hid hs
  have HDK := Lib.hid hdk
  clear hm hdk hv hw h hs
  unfold faultC
  rw [HDK.out]
  simp only [ptrV] at *
  cases dk with
  | true =>
    rw [if_pos rfl]
    go_enter Try.func23, Try.ntmps23
    go_wp2_with fail
    go_ret
    exact ⟨rfl, Below.refl _ _⟩
  | false =>
    rw [if_neg (by simp)]
    cases hany : xs.any fun x => !diskNameB x with
    | true =>
      rw [hany] at AK
      rw [if_pos rfl]
      clear hany
      go_enter Try.func23, Try.ntmps23
      go_wp2_with fail
      refine AK.out.mono ?_
      rintro e w1 ⟨rfl, hb⟩
      have HB := Lib.hid hb
      clear hb c1 c3 AK
      go_wp2_with fail
      go_ret
      exact ⟨rfl, HB.out⟩
    | false =>
      rw [hany] at AK
      rw [if_neg (by simp)]
      clear hany
      cases wanted with
      | false =>
        rw [if_neg (by simp)]
        go_enter Try.func23, Try.ntmps23
        go_wp2_with fail
        refine AK.out.mono ?_
        rintro e w1 ⟨rfl, hb⟩
        have HB := Lib.hid hb
        clear hb c1 c3 AK
        go_wp2_with fail
        go_region
        go_wp2_with fail
        go_ret
        exact ⟨rfl, HB.out.drew⟩
      | true =>
        have h0 := HW.out rfl
        obtain ⟨x, hx⟩ : ∃ x, xs.getD 0 ⟨#[]⟩ = x := ⟨_, rfl⟩
        have hx0 : xs[0] = x := by rw [← hx, List.getD_eq_getElem?_getD, List.getElem?_eq_getElem h0]; rfl
        have hxs := HSZ.out x (by rw [← hx0]; exact List.getElem_mem _)
        have hn : Names w v xs := by
          rcases HV.out with h | ⟨_, h⟩
          · exact h
          · subst h; simp at h0
        obtain ⟨gn, cn, rfl, hcn⟩ := hn.ex
        have n0 := hcn 0 h0
        rw [hx0] at n0
        have N0 := Lib.hid n0
        have h0i : (0 : Int) < (xs.length : Int) := by omega
        rw [hx]
        clear hcn n0 hn hx hx0
        obtain ⟨o, ho⟩ : ∃ o, D.get x = o := ⟨_, rfl⟩
        have HO := Lib.hid ho
        rw [ho]
        clear ho
        obtain ⟨r, hr⟩ : ∃ r : Int, (if true = true ∧ o = none then (4 : Int) else 0) = r := ⟨_, rfl⟩
        rw [hr]
        have HRR := Lib.hid hr
        clear hr
        go_enter Try.func23, Try.ntmps23
        go_wp2_with fail
        refine AK.out.mono ?_
        rintro e w1 ⟨rfl, hb⟩
        have HB := Lib.hid hb
        have LK := (HH.out.below (Below.drew hb)).look x (by omega)
        rw [HO.out] at LK
        have n0 := cell_keep hb N0.out
        have d1 := cell_keep hb c1
        clear hb c1 c3 AK
        cases o with
        | none =>
          obtain rfl : r = 4 := by rw [← HRR.out]; simp
          simp only [Option.map_none] at LK
          go_wp2_with fail
          go_region
          go_wp2_with fail
          go_ret
          exact ⟨rfl, HB.out.drew⟩
        | some f =>
          obtain rfl : r = 0 := by rw [← HRR.out]; simp
          simp only [Option.map_some] at LK
          go_wp2_with fail
          go_region
          go_wp2_with fail
          go_ret
          exact ⟨rfl, HB.out.drew⟩
end Go.Proofs.Ytefndmjimmbhnaa
end

section
set_option linter.unusedVariables false
set_option linter.unusedSimpArgs false
set_option maxRecDepth 20000
namespace Go.Proofs.Ytefndmjimmbhnaa
open Go.RowKit
open Go.ChangeMaps (setBlock)

def kvE (e : MapEntry) : Value × Value := (e.key, e.val)
/-- r is an iterator over the map m, which holds l; left: what is still to come. -/
structure Rng (w : World) (m r : Nat) (l left : List (ByteArray × Nat)) : Prop where
  ex : ∃ es clock since c0 seen, w.heap[m]? = some (.map es clock) ∧ w.heap[r]? = some (.mapIter (some m) since seen c0) ∧ since ≤ c0 ∧ since ≤ clock ∧ (∀ x ∈ es.toList, x.born < since) ∧ (es.toList.map (·.born)).Nodup ∧ es.toList.map kvE = entV l ∧ (leftOf es seen).toList.map kvE = entV left
  keys : (l.map (·.1)).Nodup
  lkeys : (left.map (·.1)).Nodup
theorem Rng.of_blocks {w w1 : World} {m r : Nat} {l left : List (ByteArray × Nat)} (h : Rng w m r l left) (h1 : w1.heap[m]? = w.heap[m]?) (h2 : w1.heap[r]? = w.heap[r]?) : Rng w1 m r l left := by
  obtain ⟨⟨es, clock, since, c0, seen, a1, a2, a3⟩, hk, hk2⟩ := h
  exact ⟨⟨es, clock, since, c0, seen, h1.trans a1, h2.trans a2, a3⟩, hk, hk2⟩
theorem Rng.lt {w : World} {m r : Nat} {l left : List (ByteArray × Nat)} (h : Rng w m r l left) : m < w.heap.size ∧ r < w.heap.size := by
  obtain ⟨⟨es, clock, since, c0, seen, a1, a2, _⟩, _⟩ := h
  exact ⟨(Array.getElem?_eq_some_iff.1 a1).1, (Array.getElem?_eq_some_iff.1 a2).1⟩
theorem Rng.ne {w : World} {m r : Nat} {l left : List (ByteArray × Nat)} (h : Rng w m r l left) : m ≠ r := by
  rintro rfl
  obtain ⟨⟨es, clock, since, c0, seen, a1, a2, _⟩, _⟩ := h
  rw [a1] at a2; cases a2
theorem Rng.below {w w1 : World} {m r : Nat} {l left : List (ByteArray × Nat)} (h : Rng w m r l left) (hb : Below w.heap.size w w1) : Rng w1 m r l left := h.of_blocks (hb.block m h.lt.1) (hb.block r h.lt.2)
theorem Rng.but {S : Nat → Prop} {w w1 : World} {m r : Nat} {l left : List (ByteArray × Nat)} (h : Rng w m r l left) (hb : But S w w1) (h1 : ¬ S m) (h2 : ¬ S r) : Rng w1 m r l left := h.of_blocks (hb.block m h.lt.1 h1) (hb.block r h.lt.2 h2)
theorem leftOf_none (es : Array MapEntry) : (leftOf es #[]).toList = es.toList := by
  unfold leftOf
  rw [Array.toList_filter]
  exact List.filter_eq_self.2 fun x _ => by simp
theorem Rng.start {w : World} {m : Nat} {l : List (ByteArray × Nat)} (h : MapS w m l) :
    ∃ w0, (Instr.range 65 (.map (some m))).run Try.prog w = .ok (.pointer (some ⟨w.heap.size, 0, none⟩)) w0 ∧ Rng w0 m w.heap.size l l ∧ Below w.heap.size w w0 := by
  obtain ⟨es, clock, h1, h2, h3, h4⟩ := h.ex
  have hb := below_alloc (Below.refl _ w) (.mapIter (some m) clock #[] clock)
  exact ⟨_, run_range_map w _ _ _ m es clock Try.underlying65 h1, ⟨⟨es, clock, clock, clock, #[], (hb.block m h.lt).trans h1, heap_last w _, Nat.le_refl _, Nat.le_refl _, h4, h3, h2, by rw [leftOf_none]; exact h2⟩, h.keys, h.keys⟩, hb⟩
theorem leftOf_push (es : Array MapEntry) (seen : Array Nat) (b : Nat) : (leftOf es (seen.push b)).toList = (leftOf es seen).toList.filter fun x => !(x.born == b) := by
  unfold leftOf
  rw [Array.toList_filter, Array.toList_filter, List.filter_filter]
  refine List.filter_congr fun x _ => ?_
  rw [contains_push]
  cases seen.contains x.born <;> cases (x.born == b) <;> rfl
theorem kv_filter (q : MapEntry → Bool) (q' : ByteArray × Nat → Bool) : ∀ (L : List MapEntry) (left : List (ByteArray × Nat)), L.map kvE = entV left → (∀ x ∈ L, ∀ p ∈ left, kvE x = (Value.string p.1, ptrV p.2) → q x = q' p) → (L.filter q).map kvE = entV (left.filter q')
  | [], [], _, _ => rfl
  | [], p :: left, h, _ => by simp [entV] at h
  | x :: L, [], h, _ => by simp [entV] at h
  | x :: L, p :: left, h, hq => by
    have h1 : kvE x = (Value.string p.1, ptrV p.2) ∧ L.map kvE = entV left := by
      unfold entV at h
      rw [List.map_cons, List.map_cons] at h
      injection h with h1 h2
      exact ⟨h1, h2⟩
    have ih := kv_filter q q' L left h1.2 (fun y hy z hz => hq y (List.mem_cons_of_mem _ hy) z (List.mem_cons_of_mem _ hz))
    have e := hq x (List.mem_cons_self ..) p (List.mem_cons_self ..) h1.1
    rw [List.filter_cons, List.filter_cons, e]
    split
    · unfold entV at ih ⊢
      rw [List.map_cons, List.map_cons, ih, h1.1]
    · exact ih
theorem key_inj {l : List MapEntry} (hk : (l.map (·.key)).Nodup) {x e : MapEntry} (hx : x ∈ l) (he : e ∈ l) (h : x.key = e.key) : x = e := by
  induction l with
  | nil => cases hx
  | cons y l ih =>
    rw [List.map_cons, List.nodup_cons] at hk
    rcases List.mem_cons.1 hx with rfl | hx'
    · rcases List.mem_cons.1 he with rfl | he'
      · rfl
      · exact absurd (List.mem_map.2 ⟨e, he', h.symm⟩) hk.1
    · rcases List.mem_cons.1 he with rfl | he'
      · exact absurd (List.mem_map.2 ⟨x, hx', h⟩) hk.1
      · exact ih hk.2 hx' he'
theorem Rng.next {w : World} {m r : Nat} {l left : List (ByteArray × Nat)} (h : Rng w m r l left) (ty : TypeId) :
    (left = [] ∧ (Instr.next (.pointer (some ⟨r, 0, none⟩)) false ty).run Try.prog w = .ok (.tuple #[.bool false]) w) ∨
    ∃ p ∈ left, p ∈ l ∧ ∃ w1, (Instr.next (.pointer (some ⟨r, 0, none⟩)) false ty).run Try.prog w = .ok (.tuple #[.bool true, .string p.1, ptrV p.2]) w1 ∧ Rng w1 m r l (left.filter fun q => !decide (q.1 = p.1)) ∧ But (· = r) w w1 ∧
      (Instr.entry (.pointer (some ⟨r, 0, none⟩))).run Try.prog w1 = .ok (.tuple #[.string p.1, ptrV p.2]) w1 := by
  obtain ⟨⟨es, clock, since, c0, seen, a1, a2, a3, hsc, a4, a5, a6, a7⟩, hk, hk2⟩ := h
  rcases run_next_at (P := Try.prog) w ty r m since c0 seen es clock a2 a1 a4 a3 with ⟨h0, hr⟩ | ⟨e, he, w1, hw1, hr⟩
  · refine .inl ⟨?_, hr⟩
    have : (leftOf es seen).toList = [] := List.eq_nil_of_length_eq_zero (by rw [Array.length_toList]; exact h0)
    rw [this] at a7
    cases left with
    | nil => rfl
    | cons p l => simp [entV] at a7
  · obtain ⟨p, hp, hpe⟩ : ∃ p ∈ left, kvE e = (Value.string p.1, ptrV p.2) := by
      have : kvE e ∈ entV left := by rw [← a7]; exact List.mem_map.2 ⟨e, he, rfl⟩
      obtain ⟨p, hp, e2⟩ := List.mem_map.1 this
      exact ⟨p, hp, e2.symm⟩
    have hees := (mem_left he).1
    obtain ⟨p', hp', hpe'⟩ : ∃ p ∈ l, kvE e = (Value.string p.1, ptrV p.2) := by
      have : kvE e ∈ entV l := by rw [← a6]; exact List.mem_map.2 ⟨e, hees, rfl⟩
      obtain ⟨p, hp, e2⟩ := List.mem_map.1 this
      exact ⟨p, hp, e2.symm⟩
    have epp : p' = p := by
      rw [hpe] at hpe'
      simp only [Prod.mk.injEq, Value.string.injEq, ptrV, Value.pointer.injEq, Option.some.injEq, Addr.mk.injEq, and_true] at hpe'
      exact Prod.ext hpe'.1.symm hpe'.2.symm
    subst epp
    have ek : e.key = .string p'.1 := by have := congrArg Prod.fst hpe; exact this
    have ev : e.val = ptrV p'.2 := by have := congrArg Prod.snd hpe; exact this
    have hm1 : w1.heap[m]? = w.heap[m]? ∧ w1.heap[r]? = w.heap[r]? ∧ But (· = r) w w1 := by
      rcases hw1 with rfl | rfl
      · exact ⟨rfl, rfl, But.refl _ _⟩
      · exact ⟨rfl, rfl, (But.refl _ _).drew⟩
    have hne : m ≠ r := by rintro rfl; rw [a1] at a2; cases a2
    have hr1 := hm1.2.1.trans a2
    have b1 : (setBlock w1 r (.mapIter (some m) since (seen.push e.born) clock)).heap[m]? = some (.map es clock) := by
      have : (setBlock w1 r (.mapIter (some m) since (seen.push e.born) clock)).heap[m]? = w1.heap[m]? := by simp [setBlock, Array.getElem?_setIfInBounds, Ne.symm hne]
      rw [this, hm1.1, a1]
    have b2 : (setBlock w1 r (.mapIter (some m) since (seen.push e.born) clock)).heap[r]? = some (.mapIter (some m) since (seen.push e.born) clock) := by
      have hlt : r < w1.heap.size := (Array.getElem?_eq_some_iff.1 hr1).1
      simp [setBlock, Array.getElem?_setIfInBounds, hlt]
    refine .inr ⟨p', hp, hp', _, by rw [hr, ek, ev], ⟨⟨es, clock, since, clock, seen.push e.born, b1, b2, hsc, hsc, a4, a5, a6, ?_⟩, hk, List.Pairwise.sublist (List.Sublist.map _ List.filter_sublist) hk2⟩, ?_, by rw [run_entry_at _ r m since seen es clock e b2 b1 hees a5, ek, ev]⟩
    · rw [leftOf_push]
      refine kv_filter _ _ _ _ a7 (fun x hx q hq hxq => ?_)
      congr 1
      have hxes := (mem_left hx).1
      have xk : x.key = .string q.1 := by have := congrArg Prod.fst hxq; exact this
      by_cases hb : x.born = e.born
      · have : x = e := born_inj a5 hxes hees hb
        subst this
        rw [ek] at xk; injection xk with xk
        rw [xk]; simp
      · have : q.1 ≠ p'.1 := fun e2 => by
          have h3 : x.key = e.key := by rw [xk, ek, e2]
          have h4 : x = e := by
            have hkk : (es.toList.map (·.key)).Nodup := by
              have h5 : es.toList.map (·.key) = l.map fun p => Value.string p.1 := by
                have := congrArg (List.map Prod.fst) a6
                unfold entV at this
                rwa [List.map_map, List.map_map] at this
              rw [h5]
              have := hk
              rw [List.nodup_iff_pairwise_ne, List.pairwise_map] at this ⊢
              exact this.imp fun h e => h (by injection e)
            exact key_inj hkk hxes hees h3
          exact hb (by rw [h4])
        rw [decide_eq_false this, beq_eq_false_iff_ne.2 hb]
    · exact hm1.2.2.trans ⟨rfl, rfl, rfl, by simp [setBlock], fun k hk2 hn => by simp [setBlock, Array.getElem?_setIfInBounds, Ne.symm hn]⟩
def leftN (w : World) (m r : Nat) : Nat := match w.heap[m]?, w.heap[r]? with
  | some (.map es _), some (.mapIter _ _ seen _) => (leftOf es seen).size
  | _, _ => 0
theorem Rng.leftN_eq {w : World} {m r : Nat} {l left : List (ByteArray × Nat)} (h : Rng w m r l left) : leftN w m r = left.length := by
  obtain ⟨⟨es, clock, since, c0, seen, a1, a2, a3, hsc, a4, a5, a6, a7⟩, hk, hk2⟩ := h
  unfold leftN
  rw [a1, a2]
  have := congrArg List.length a7
  unfold entV at this
  rw [List.length_map, List.length_map, Array.length_toList] at this
  exact this
theorem left_less {left : List (ByteArray × Nat)} {p : ByteArray × Nat} (h : p ∈ left) : (left.filter fun q => !decide (q.1 = p.1)).length < left.length := by
  induction left with
  | nil => cases h
  | cons x left ih =>
    rcases List.mem_cons.1 h with rfl | h
    · rw [List.filter_cons_of_neg (by simp)]
      exact Nat.lt_succ_of_le (List.length_filter_le _ _)
    · have := ih h
      rw [List.filter_cons]
      split
      · simpa using this
      · exact Nat.lt_succ_of_lt this
end Go.Proofs.Ytefndmjimmbhnaa
end

section
set_option linter.unusedVariables false
set_option linter.unusedSimpArgs false
set_option maxRecDepth 50000
namespace Go.Proofs.Ytefndmjimmbhnaa
open Go.RowKit Go.Shelf

def wtP (D : Dsk) (p : ByteArray × Nat) : Nat := match D.get p.1 with
  | some f => sect f.b.length + 1
  | none => 0
def sumP (D : Dsk) (left : List (ByteArray × Nat)) : Nat := (left.map (wtP D)).sum
theorem sumP_all {D : Dsk} (h : D.Ok) : sumP D (D.l.map fun f => (f.n, f.a)) = D.used := by
  unfold sumP Dsk.used
  rw [List.map_map]
  congr 1
  refine List.map_congr_left fun f hf => ?_
  show wtP D (f.n, f.a) = _
  unfold wtP
  rw [get_of h.names hf]
theorem sumP_drop {D : Dsk} {left : List (ByteArray × Nat)} (hk : (left.map (·.1)).Nodup) {p : ByteArray × Nat} (hp : p ∈ left) : sumP D (left.filter fun q => !decide (q.1 = p.1)) + wtP D p = sumP D left := by
  unfold sumP
  induction left with
  | nil => cases hp
  | cons x left ih =>
    rw [List.map_cons, List.nodup_cons] at hk
    rcases List.mem_cons.1 hp with rfl | hp'
    · rw [List.filter_cons_of_neg (by simp)]
      have : (left.filter fun q => !decide (q.1 = p.1)) = left := List.filter_eq_self.2 fun q hq => by
        have : q.1 ≠ p.1 := fun e => hk.1 (List.mem_map.2 ⟨q, hq, e⟩)
        simpa using this
      rw [this, List.map_cons, List.sum_cons]; omega
    · have hne : x.1 ≠ p.1 := fun e => hk.1 (List.mem_map.2 ⟨p, hp', e.symm⟩)
      rw [List.filter_cons_of_pos (by simpa using hne), List.map_cons, List.sum_cons, List.map_cons, List.sum_cons]
      have := ih hk.2 hp'
      omega
theorem sect_le (n : Nat) : sect n ≤ n := by rw [sect_eq]; omega
theorem size_used {D : Dsk} (h : D.Ok) {f : Fil} (hf : f ∈ D.l) : sect f.b.length + 1 ≤ D.used := by
  have := sum_drop (fun f : Fil => sect f.b.length + 1) h.names hf rfl
  unfold Dsk.used
  omega
theorem size_len {D : Dsk} (h : D.Ok) {f : Fil} (hf : f ∈ D.l) : f.b.length ≤ 17179869184 := by
  have h1 := size_used h hf
  have h2 := h.used
  have h3 := h.room1
  have h4 := sect_eq f.b.length
  omega
set_option maxHeartbeats 1000000 in
theorem free_any (D : Dsk) (w : World) (h : DiskW w D) : Calls Try.prog 79 #[ptrV D.d] w fun e w' => e = .returned (.int .i64 (D.room - D.used)) ∧ Below w.heap.size w w' := by
  obtain ⟨ops, lc, hm, _⟩ := h.main
  have c0 := hm.cell 0 rfl; have c1 := hm.cell 1 rfl
  obtain ⟨w0, hrange, hR0, hB0⟩ := Rng.start h.mp
  have HR0 := Lib.hid hR0; have HB0 := Lib.hid hB0
  have HH := Lib.hid h
  have SA := Lib.hid (sumP_all h.ok)
  obtain ⟨r0, hr0⟩ : ∃ r, w.heap.size = r := ⟨_, rfl⟩
  rw [hr0] at hrange HR0
  have U := Lib.hid h.ok.used; have R1 := Lib.hid h.ok.room1; have R0 := Lib.hid h.ok.room0
  have GETP := Lib.hid (fun (p : ByteArray × Nat) (hp : p ∈ D.l.map fun f => (f.n, f.a)) => show ∃ f ∈ D.l, p = (f.n, f.a) ∧ wtP D p = sect f.b.length + 1 from by
    obtain ⟨f, hf, rfl⟩ := List.mem_map.1 hp
    exact ⟨f, hf, rfl, by unfold wtP; rw [get_of h.ok.names hf]⟩)
  have HLEN := Lib.hid (fun f hf => size_len h.ok (f := f) hf)
  obtain ⟨room, hroom⟩ : ∃ r, D.room = r := ⟨_, rfl⟩
  rw [hroom] at c0 U R1 R0 ⊢
  have HR := Lib.hid hr0
  clear hm h hR0 hB0 hr0 hroom
  simp only [ptrV] at *
  go_enter Try.func79, Try.ntmps79
  go_wp2_with fail
  clear c0 c1 hrange
  go_loopw [3] (fun v3 wr => ∃ left : List (ByteArray × Nat), v3 = .int .i64 (room - D.used + sumP D left) ∧ Hid (Rng wr D.m r0 (D.l.map fun f => (f.n, f.a)) left) ∧ Hid (sumP D left ≤ D.used) ∧ Hid (Below w.heap.size w wr)) (fun _ wr => leftN wr D.m r0)
  case atStart => exact ⟨_, by rw [SA.out, show room - (D.used : Int) + (D.used : Int) = room by omega], HR0, Lib.hid (by rw [SA.out]; exact Nat.le_refl _), HB0⟩
  case round =>
    obtain ⟨left, rfl, HRG, HS, HB⟩ := hrel
    rcases HRG.out.next 0 with ⟨e0, hnext⟩ | ⟨p, hp, hpl, w1, hnext, hR1, hB1, hent⟩
    · subst e0
      go_wp2_with fail
      go_ret
      exact ⟨ret_i (by show room - (D.used : Int) + ((0 : Nat) : Int) = _; omega), HB.out⟩
    · obtain ⟨f, hf, rfl, hwt⟩ := GETP.out p hpl
      have hsum : sumP D (left.filter fun q => !decide (q.1 = f.n)) + (sect f.b.length + 1) = sumP D left := by have := sumP_drop (D := D) HRG.out.lkeys hp; rw [hwt] at this; exact this
      have hpg := ((HH.out.below HB.out).pg f hf).but hB1 (fun e => by have := (HH.out.foot_lt f.a (.inr (.inr (.inr ⟨f, hf, .inl rfl⟩)))); rw [HR.out] at this; omega) (fun k hk e => by have := (HH.out.foot_lt k (.inr (.inr (.inr ⟨f, hf, .inr hk⟩)))); rw [HR.out] at this; omega)
      obtain ⟨c, hb, _⟩ := hpg.ex
      have d0 := hb.cell 0 rfl
      have hlen := HLEN.out f hf
      have SEC := Lib.hid (fun W => sectors_any f.b.length (by omega) W)
      have HB' := Lib.hid (show Below w.heap.size w w1 from HB.out.trans (hB1.below (by have := HB.out.size; omega) (fun k hk => by rw [hk, ← HR.out]; exact Nat.le_refl _)))
      have HSS := HS.out
      have hsl := sect_le f.b.length
      have RG1 := Lib.hid (show Rng w1 D.m r0 (D.l.map fun f => (f.n, f.a)) (left.filter fun q => !decide (q.1 = f.n)) from hR1)
      have q1 : wrap64 ((sect f.b.length : Int) + 1) = (sect f.b.length : Int) + 1 := by unfold wrap64; omega
      have hu := U.out; have hr1 := R1.out; have hr0 := R0.out
      have q2 : wrap64 (room - (D.used : Int) + (sumP D left : Int) - ((sect f.b.length : Int) + 1)) = room - (D.used : Int) + (sumP D (left.filter fun q => !decide (q.1 = f.n)) : Int) := by unfold wrap64; omega
      have S2 := Lib.hid (show sumP D (left.filter fun q => !decide (q.1 = f.n)) ≤ D.used by omega)
      have MS := Lib.hid (show leftN w1 D.m r0 = (left.filter fun q => !decide (q.1 = f.n)).length from hR1.leftN_eq)
      have ML := Lib.hid (show leftN wr D.m r0 = left.length from HRG.out.leftN_eq)
      have LL := Lib.hid (left_less hp)
      have q3 : wrap64 (room - (D.used : Int) + (sumP D left : Int)) = room - (D.used : Int) + (sumP D left : Int) := by unfold wrap64; omega
      obtain ⟨V2, hV2⟩ : ∃ V : Int, room - (D.used : Int) + (sumP D (left.filter fun q => !decide (q.1 = f.n)) : Int) = V := ⟨_, rfl⟩
      obtain ⟨V1, hV1⟩ : ∃ V : Int, room - (D.used : Int) + (sumP D left : Int) = V := ⟨_, rfl⟩
      obtain ⟨k, hk⟩ : ∃ k : Nat, sect f.b.length = k := ⟨_, rfl⟩
      rw [hV2, hV1, hk] at q2
      rw [hk] at q1 SEC
      have HV2 := Lib.hid hV2
      rw [hV1]
      simp only [ptrV, rowV] at *
      clear hsum hpg hb hwt hlen HSS hsl hu hr1 hr0 q3 hV2 hV1 hk hR1 hB1 hp hpl
      go_wp2_with fail
      refine (SEC.out _).mono ?_
      rintro e w2 ⟨rfl, hb2⟩
      have RG2 := Lib.hid (RG1.out.below hb2); have HB2 := Lib.hid (below_tr HB'.out hb2)
      have MS2 := Lib.hid (show leftN w2 D.m r0 = (left.filter fun q => !decide (q.1 = f.n)).length from RG2.out.leftN_eq)
      clear hb2 d0 hnext hent
      go_wp2_with fail
      refine ⟨⟨left.filter fun q => !decide (q.1 = f.n), by rw [q2, HV2.out], RG2, S2, HB2⟩, ?_⟩
      rw [MS2.out, ML.out]
      exact LL.out
theorem on_any (D : Dsk) (w : World) (h : DiskW w D) : Calls Try.prog 12 #[ptrV D.d] w fun e w' => e = .returned (.bool (!D.dark)) ∧ Below w.heap.size w w' := by
  have F := Lib.hid (fault_any D (.slice none 0 0) [] false w h (by simp) (by simp) (.inr ⟨rfl, rfl⟩) (by simp))
  have e : faultC D [] false = if D.dark = true then 9 else 0 := by unfold faultC; simp
  rw [e] at F
  clear e h
  generalize D.dark = dk at *
  simp only [ptrV] at *
  cases dk with
  | true =>
    rw [if_pos rfl] at F
    go_enter Try.func12, Try.ntmps12
    go_wp2_with fail
    refine F.out.mono ?_
    rintro e w1 ⟨rfl, hb⟩
    go_wp2_with fail
    go_ret
    exact ⟨rfl, hb⟩
  | false =>
    rw [if_neg (by simp)] at F
    go_enter Try.func12, Try.ntmps12
    go_wp2_with fail
    refine F.out.mono ?_
    rintro e w1 ⟨rfl, hb⟩
    go_wp2_with fail
    go_ret
    exact ⟨rfl, hb⟩
/-- cells of the disk's own block are turned -/
theorem Mv.cells {w W1 : World} {D : Dsk} (h : DiskW w D) (hB : But (· = D.d) w W1) (dark : Bool) (plan keep : Int) (ops : Int) (lc : Nat) (hok : ({ D with dark := dark, plan := plan, keep := keep } : Dsk).Ok) (hrow : OwnX eM w 0 (rowV D.lr D.line.length lc) D.line)
    (hm : Blk W1 D.d 68 #[.int .i64 D.room, .map (some D.m), rowV D.lr D.line.length lc, .bool dark, .int .i64 ops, .int .i64 plan, .int .i64 keep]) : Mv w D W1 { D with dark := dark, plan := plan, keep := keep } :=
  Mv.main h hB { D with dark := dark, plan := plan, keep := keep } rfl rfl rfl (.inl rfl) ⟨ops, lc, hm, ownX_but hrow hB (by rw [rowV_own]; exact fun k e e2 => h.dist.dl (by rw [e, e2]))⟩ hok
theorem But.put (w : World) (d i : Nat) (u : Value) : But (· = d) w (w.setCell ⟨d, i, none⟩ u) := (But.refl (· = d) w).setCell (p := ⟨d, i, none⟩) rfl u
theorem start_any (D : Dsk) (w : World) (h : DiskW w D) : Calls Try.prog 15 #[ptrV D.d] w fun e w' => e = .returned (.tuple #[]) ∧ Mv w D w' { D with dark := false, plan := 0 } := by
  have F := Lib.hid (fault_any D (.slice none 0 0) [] false w h (by simp) (by simp) (.inr ⟨rfl, rfl⟩) (by simp))
  have e : faultC D [] false = if D.dark = true then 9 else 0 := by unfold faultC; simp
  have hne : (faultC D [] false != 1) = true := by rw [e]; split <;> decide
  have HH := Lib.hid h
  generalize faultC D [] false = c at *
  clear e h
  simp only [ptrV] at *
  go_enter Try.func15, Try.ntmps15
  go_wp2_with fail
  refine F.out.mono ?_
  rintro e w1 ⟨rfl, hb⟩
  have h1 := HH.out.below hb
  have HB := Lib.hid hb
  obtain ⟨ops, lc, hm, hrow⟩ := h1.main
  have d3 := hm.cell 3 rfl; have d5 := hm.cell 5 rfl
  have f3 := hm.frozen 3; have f5 := hm.frozen 5
  have ok : ({ D with dark := false, plan := 0, keep := D.keep } : Dsk).Ok := { h1.ok with plan0 := Int.le_refl _, plan1 := (by show (0 : Int) ≤ 9223372036854775807; decide) }
  have FIN := Lib.hid (Mv.head HH.out hb (Mv.cells h1 ((But.put w1 D.d 3 (.bool false)).trans (But.put _ D.d 5 (.int .i64 0))) false 0 D.keep ops lc ok hrow ((hm.put 3 (.bool false)).put 5 (.int .i64 0))))
  clear hm hrow h1 hb ok F
  go_wp2_with fail
  go_end0
  exact ⟨rfl, FIN.out⟩
set_option maxHeartbeats 1000000 in
theorem arm_any (D : Dsk) (n k : Int) (w : World) (h : DiskW w D) (hd : D.dark = false) (hn : 0 ≤ n) (hn1 : n ≤ 9223372036854775807) (hk0 : -9223372036854775808 ≤ k) (hk1 : k ≤ 9223372036854775807) :
    Calls Try.prog 9 #[ptrV D.d, .int .i64 n, .int .i64 k] w fun e w' => e = .returned (.int .i64 0) ∧ Mv w D w' { D with plan := n, keep := k } := by
  have F := Lib.hid (fault_any D (.slice none 0 0) [] false w h (by simp) (by simp) (.inr ⟨rfl, rfl⟩) (by simp))
  have e : faultC D [] false = 0 := by unfold faultC; simp [hd]
  rw [e] at F
  have HH := Lib.hid h
  have hnn : ¬ n < 0 := by omega
  have hok : ({ D with dark := false, plan := n, keep := k } : Dsk).Ok := { h.ok with plan0 := hn, plan1 := hn1, keep0 := hk0, keep1 := hk1 }
  have eD : ({ D with dark := false, plan := n, keep := k } : Dsk) = { D with plan := n, keep := k } := by rw [← hd]
  have OK := Lib.hid hok; have ED := Lib.hid eD
  clear e h hok eD hn1 hk0 hk1 hn
  simp only [ptrV] at *
  go_enter Try.func9, Try.ntmps9
  go_wp2_with fail
  refine F.out.mono ?_
  rintro e w1 ⟨rfl, hb⟩
  have h1 := HH.out.below hb
  obtain ⟨ops, lc, hm, hrow⟩ := h1.main
  rw [hd] at hm
  have d5 := hm.cell 5 rfl; have d6 := hm.cell 6 rfl
  have f5 := hm.frozen 5; have f6 := hm.frozen 6
  have FIN := Lib.hid (Mv.head HH.out hb (Mv.cells h1 ((But.put w1 D.d 5 (.int .i64 n)).trans (But.put _ D.d 6 (.int .i64 k))) false n k ops lc OK.out hrow ((hm.put 5 (.int .i64 n)).put 6 (.int .i64 k))))
  rw [ED.out] at FIN
  clear hm hrow h1 hb F
  go_wp2_with fail
  go_ret
  exact ⟨rfl, FIN.out⟩
end Go.Proofs.Ytefndmjimmbhnaa
end
