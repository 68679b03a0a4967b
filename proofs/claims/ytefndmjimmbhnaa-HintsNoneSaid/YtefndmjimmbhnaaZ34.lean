/- Contract of the closures of the disk's Create, Sync and Rename. No condition but what a disk is, and room. Contracts of the disk's Create, Sync and Rename where nothing is wrong. Names are good, the disk is not dark. Contracts of the disk's Sync and Rename where nothing is wrong. Names are good, the disk is not dark, the file is there. -/
import Derived.Test.YtefndmjimmbhnaaZ33
section
set_option linter.unusedVariables false
set_option linter.unusedSimpArgs false
set_option maxRecDepth 50000
namespace Go.Proofs.Ytefndmjimmbhnaa
open Go.RowKit Go.Shelf

theorem unlink_parts (D : Dsk) (nm : ByteArray) : (D.unlink nm).d = D.d ∧ (D.unlink nm).m = D.m ∧ (D.unlink nm).lr = D.lr ∧ (D.unlink nm).room = D.room ∧ (D.unlink nm).dark = D.dark ∧ (D.unlink nm).plan = D.plan ∧ (D.unlink nm).keep = D.keep := by
  unfold Dsk.unlink
  cases D.get nm <;> exact ⟨rfl, rfl, rfl, rfl, rfl, rfl, rfl⟩
theorem unlink_name {D : Dsk} (ok : D.Ok) (nm : ByteArray) : ∀ p ∈ ((D.unlink nm).l.map fun f => (f.n, f.a)), p.1 ≠ nm := by
  intro p hp
  obtain ⟨f, hf, rfl⟩ := List.mem_map.1 hp
  exact ((ok.unlink nm).2.1 f hf).2
theorem Mv.create {w w1 W1 W2 : World} {D : Dsk} {nm : ByteArray} (h : Mv w D w1 (D.unlink nm)) (hb : Below w1.heap.size w1 W1) (hpg : Blk W1 w1.heap.size 86 #[.slice none 0 0, .int .i64 0]) (hg : W1.grownBy W2 (some D.m))
    (hm : MapS W2 D.m (((D.unlink nm).l.map fun f => (f.n, f.a)) ++ [(nm, w1.heap.size)])) (ok : (D.create nm w1.heap.size).Ok) : Mv w D W2 (D.create nm w1.heap.size) := by
  obtain ⟨e1, e2, e3, _⟩ := unlink_parts D nm
  have hd := h.dw.dist
  have dw1 := h.dw.below hb
  have hS := But.of_grown hg
  have hB : But (· = D.m) w1 W2 := (But.of_below _ hb).trans hS
  refine h.trans (Mv.mk' hB (fun k hk => .inr (.inl (hk.trans e2.symm))) rfl ?_ ?_ (fun f hf => ?_) ok (fun k hk => ?_))
  · exact MainW.but (D := D.unlink nm) h.dw.main hB (by rw [← e2]; exact hd.dm) (fun k e e4 => hd.ml (by rw [e, e4, ← e2]))
  · show MapS W2 (D.unlink nm).m (((D.unlink nm).l ++ [(⟨nm, w1.heap.size, none, [], 0⟩ : Fil)]).map fun f => (f.n, f.a))
    rw [e2, List.map_append]; exact hm
  · rcases List.mem_append.1 hf with hf | hf
    · exact (h.dw.pg f hf).but hB (by rw [← e2]; exact hd.ma f hf) (fun k e e4 => hd.mr f hf (by rw [e, e4, ← e2]))
    · rw [List.mem_singleton.1 hf]
      have hlt := h.dw.foot_lt D.m (.inr (.inl e2.symm))
      exact ⟨0, hpg.but hS (by omega), own_eB.1 (OwnX.nil _ _)⟩
  · rcases hk with hk | hk | hk | ⟨f, hf, hk⟩
    · exact .inl (.inl hk)
    · exact .inl (.inr (.inl hk))
    · exact .inl (.inr (.inr (.inl hk)))
    · rcases List.mem_append.1 hf with hf | hf
      · exact .inl (.inr (.inr (.inr ⟨f, hf, hk⟩)))
      · rw [List.mem_singleton.1 hf] at hk
        rcases hk with hk | hk
        · exact .inr (by rw [hk]; exact Nat.le_refl _)
        · cases hk
set_option maxHeartbeats 1000000 in
theorem create1_any (D : Dsk) (nm : ByteArray) (b0 b1 : Nat) (w : World) (h : DiskW w D) (hz : nm.size ≤ 40) (hr : D.get nm = none → D.l.length < 48 ∧ (D.used : Int) + 1 ≤ D.room) (h0 : w.cell? ⟨b0, 0, none⟩ = some (ptrV D.d)) (h1 : w.cell? ⟨b1, 0, none⟩ = some (.string nm)) (o0 : ¬ D.foot b0) (o1 : ¬ D.foot b1) :
    Calls Try.prog 82 #[ptrV b0, ptrV b1] w fun e w' => e = .returned (.tuple #[]) ∧ ∃ F, (∃ a, F = D.create nm a) ∧ Mv w D w' F := by
  have UL := Lib.hid (unlink_any D nm w h (by omega))
  have HH := Lib.hid h; have HR := Lib.hid hr; have O0 := Lib.hid o0; have O1 := Lib.hid o1; have H0 := Lib.hid h0; have H1 := Lib.hid h1
  have HZ := Lib.hid hz
  clear h hr o0 o1 hz
  simp only [ptrV] at *
  go_enter Try.func82, Try.ntmps82
  go_wp2_with fail
  refine UL.out.mono ?_
  rintro e w1 ⟨rfl, hmv⟩
  have HMV := Lib.hid hmv
  obtain ⟨e1, e2, _⟩ := unlink_parts D nm
  have c0 := hmv.but.cell H0.out O0.out
  have c1 := hmv.but.cell H1.out O1.out
  obtain ⟨ops, lc, hm, _⟩ := hmv.dw.main
  rw [e1, e2] at hm
  have d1 : w1.cell? ⟨D.d, 1, none⟩ = some (.map (some D.m)) := hm.cell 1 rfl
  have B1 := Below.drew (below_alloc (Below.refl w1.heap.size w1) (.cells #[.slice none 0 0, .int .i64 0] 86))
  have kb := (Blk.new w1 86 #[.slice none 0 0, .int .i64 0]).drew
  have A1 := below_alloc (Below.refl w1.heap.size w1) (.cells #[.slice none 0 0, .int .i64 0] 86)
  have x0 := cell_keep A1 c0; have x1 := cell_keep A1 c1; have x2 := cell_keep A1 d1
  have mp1 := hmv.dw.mp.below B1
  rw [e2] at mp1
  obtain ⟨w2, hup, hM2, hg2⟩ := mp1.upd nm w1.heap.size (by have := HZ.out; omega) (unlink_name HH.out.ok nm)
  have ok : (D.create nm w1.heap.size).Ok := HH.out.ok.create nm w1.heap.size (fun f hf e => by have := HH.out.foot_lt f.a (.inr (.inr (.inr ⟨f, hf, .inl rfl⟩))); have := hmv.but.size; omega) HZ.out HR.out
  have FIN := Lib.hid (Mv.create hmv B1 kb hg2 hM2 ok)
  clear hmv hm B1 A1 kb mp1 hM2 hg2 ok h0 h1 UL
  simp only [ptrV] at *
  go_wp2_with fail
  go_region
  go_wp2_with fail
  go_end0
  exact ⟨rfl, _, ⟨_, rfl⟩, FIN.out⟩
theorem mapl_id (D : Dsk) : D.mapl id = D := by
  unfold Dsk.mapl; rw [List.map_id]
theorem syn_keeps (nm : ByteArray) : KeepsN (fun f : Fil => if f.n = nm then { f with wr := f.b.length } else f) := by
  refine ⟨fun f => ?_, fun f => ?_, fun f => ?_⟩ <;> (split <;> rfl)
theorem Mv.synced {w W1 : World} {D : Dsk} {nm : ByteArray} {f : Fil} (h : DiskW w D) (hg : D.get nm = some f) (hB : But (· = f.a) w W1) (hpg : PgW W1 { f with wr := f.b.length }) : Mv w D W1 (D.setF nm fun f : Fil => { f with wr := f.b.length }) := by
  obtain ⟨hf, ef⟩ := get_mem hg
  have h0 : DiskW w (D.mapl id) := by rw [mapl_id]; exact h
  have := Mv.page h0 ⟨fun _ => rfl, fun _ => rfl, fun _ => rfl⟩ (syn_keeps nm) hf hB (fun g _ hne => by show (if g.n = nm then _ else g) = g; rw [if_neg (by rw [← ef]; exact hne)]) (by show PgW W1 (if f.n = nm then _ else f); rw [if_pos ef]; exact hpg)
    (mapl_ok h.ok (syn_keeps nm) (fun g hg => by show (if g.n = nm then ({ g with wr := g.b.length } : Fil) else g).wr ≤ (if g.n = nm then ({ g with wr := g.b.length } : Fil) else g).b.length; split; exact Nat.le_refl _; exact h.ok.wr g hg) (fun g hg => ⟨g.b.length, by show (if g.n = nm then ({ g with wr := g.b.length } : Fil) else g).b = _; rw [List.take_length]; split <;> rfl⟩)) h.ok
  rw [mapl_id] at this
  exact this
theorem sync_eq {D : Dsk} {nm : ByteArray} {f : Fil} (hg : D.get nm = some f) : D.sync nm = { D.setF nm (fun f : Fil => { f with wr := f.b.length }) with line := forgetL D.line f.a } := by unfold Dsk.sync; rw [hg]
set_option maxHeartbeats 1000000 in
theorem sync1_any (D : Dsk) (nm : ByteArray) (f : Fil) (b0 b1 : Nat) (w : World) (h : DiskW w D) (hg : D.get nm = some f) (hz : nm.size ≤ 40) (h0 : w.cell? ⟨b0, 0, none⟩ = some (ptrV D.d)) (h1 : w.cell? ⟨b1, 0, none⟩ = some (.string nm)) (o0 : ¬ D.foot b0) (o1 : ¬ D.foot b1) :
    Calls Try.prog 87 #[ptrV b0, ptrV b1] w fun e w' => e = .returned (.tuple #[]) ∧ ∃ F, F = D.sync nm ∧ Mv w D w' F := by
  have LK := (h.below (Below.drew (Below.refl _ w))).look nm (by omega)
  rw [hg] at LK
  obtain ⟨hf, ef⟩ := get_mem hg
  obtain ⟨ops, lc, hm, _⟩ := h.main
  have d1 : w.cell? ⟨D.d, 1, none⟩ = some (.map (some D.m)) := hm.cell 1 rfl
  obtain ⟨c, hpb, hpo⟩ := (h.pg f hf).ex
  have p0 := hpb.cell 0 rfl; have p1 := hpb.cell 1 rfl; have fz := hpb.frozen 1
  have har := h.dist.ar f hf f hf
  have hBu := (But.refl (· = f.a) w).drew.trans (But.put w.drew f.a 1 (.int .i64 (f.b.length : Int)))
  have hmv : Mv w D (w.drew.setCell ⟨f.a, 1, none⟩ (.int .i64 (f.b.length : Int))) (D.setF nm fun f : Fil => { f with wr := f.b.length }) :=
    Mv.synced h hg hBu ⟨c, hpb.drew.put 1 _, ownB_but hpo hBu (by rw [rowV_own]; exact fun k e e2 => har (by rw [e, e2]))⟩
  have hf2 : ({ f with wr := f.b.length } : Fil) ∈ (D.setF nm fun f : Fil => { f with wr := f.b.length }).l := List.mem_map.2 ⟨f, hf, by rw [if_pos ef]⟩
  have FG := Lib.hid (forget_any _ _ _ hmv.dw hf2)
  have HMV := Lib.hid hmv
  have x0 := hmv.but.cell h0 o0
  have SE := Lib.hid (sync_eq hg)
  have B0 := Lib.hid h0; have O0 := Lib.hid o0
  clear hmv hf2 hBu har hpb hpo hm hf ef hg h o0 o1 hz
  simp only [ptrV, rowV, Option.map_some] at *
  go_enter Try.func87, Try.ntmps87
  go_wp2_with fail
  go_region
  go_wp2_with fail
  refine FG.out.mono ?_
  rintro e w1 ⟨rfl, hmv⟩
  have FIN := Lib.hid (HMV.out.trans hmv)
  clear hmv FG h0 h1 x0 d1 p0 p1 fz LK
  go_wp2_with fail
  go_end0
  exact ⟨rfl, _, SE.out.symm, FIN.out⟩
theorem ba_ne {a b : ByteArray} (h : a ≠ b) : (a.toList == b.toList) = false := by
  rw [beq_eq_false_iff_ne]
  intro e
  apply h
  have : a.data.toList = b.data.toList := by simpa [ByteArray.toList_eq] using e
  exact ByteArray.ext (Array.toList_inj.1 this)
theorem Mv.renamed {w w1 W2 : World} {D : Dsk} {nm tn : ByteArray} {f : Fil} (h : Mv w D w1 (D.unlink tn)) (hne : nm ≠ tn) (hg : D.get nm = some f) (hB : But (· = D.m) w1 W2)
    (hm : MapS W2 D.m ((((D.unlink tn).l.map fun f => (f.n, f.a)) ++ [(tn, f.a)]).filter fun p => !decide (p.1 = nm))) (ok : (D.rename nm tn).Ok) : Mv w D W2 (D.rename nm tn) := by
  obtain ⟨e1, e2, e3, _⟩ := unlink_parts D tn
  have hd := h.dw.dist
  have hgE : (D.unlink tn).get nm = some f := by rw [get_unlink hne]; exact hg
  have hfE := (get_mem hgE).1
  have eR : D.rename nm tn = { D.unlink tn with l := ((D.unlink tn).l ++ [{ f with n := tn }]).filter fun g : Fil => !decide (g.n = nm) } := by unfold Dsk.rename; rw [if_neg hne, hg]
  rw [eR] at ok ⊢
  have mem : ∀ g ∈ (((D.unlink tn).l ++ [({ f with n := tn } : Fil)]).filter fun g : Fil => !decide (g.n = nm)), g ∈ (D.unlink tn).l ∨ g = { f with n := tn } := fun g hg2 => by
    rcases List.mem_append.1 (List.mem_filter.1 hg2).1 with h1 | h1
    · exact .inl h1
    · exact .inr (List.mem_singleton.1 h1)
  refine h.trans (Mv.mk' hB (fun k hk => .inr (.inl (hk.trans e2.symm))) rfl ?_ ?_ (fun g hg2 => ?_) ok (fun k hk => .inl ?_))
  · exact MainW.but (D := D.unlink tn) h.dw.main hB (by rw [← e2]; exact hd.dm) (fun k e e4 => hd.ml (by rw [e, e4, ← e2]))
  · show MapS W2 (D.unlink tn).m ((((D.unlink tn).l ++ [({ f with n := tn } : Fil)]).filter fun g : Fil => !decide (g.n = nm)).map fun f => (f.n, f.a))
    have : ((((D.unlink tn).l ++ [({ f with n := tn } : Fil)]).filter fun g : Fil => !decide (g.n = nm)).map fun f => (f.n, f.a)) = (((D.unlink tn).l.map fun f => (f.n, f.a)) ++ [(tn, f.a)]).filter fun p => !decide (p.1 = nm) := by
      rw [show (((D.unlink tn).l.map fun f => (f.n, f.a)) ++ [(tn, f.a)]) = ((D.unlink tn).l ++ [({ f with n := tn } : Fil)]).map fun f => (f.n, f.a) by rw [List.map_append]; rfl, List.filter_map]; rfl
    rw [this, e2]; exact hm
  · have key : ∀ g ∈ (D.unlink tn).l, PgW W2 g := fun g hg3 => (h.dw.pg g hg3).but hB (by rw [← e2]; exact hd.ma g hg3) (fun k e e4 => hd.mr g hg3 (by rw [e, e4, ← e2]))
    rcases mem g hg2 with h1 | h1
    · exact key g h1
    · rw [h1]; obtain ⟨c, k1, k2⟩ := (key f hfE).ex; exact ⟨c, k1, k2⟩
  · rcases hk with hk | hk | hk | ⟨g, hg2, hk⟩
    · exact .inl hk
    · exact .inr (.inl hk)
    · exact .inr (.inr (.inl hk))
    · rcases mem g hg2 with h1 | h1
      · exact .inr (.inr (.inr ⟨g, h1, hk⟩))
      · rw [h1] at hk; exact .inr (.inr (.inr ⟨f, hfE, hk⟩))
set_option maxHeartbeats 1000000 in
theorem rename1_any (D : Dsk) (nm tn : ByteArray) (f : Fil) (b0 b1 b2 : Nat) (w : World) (h : DiskW w D) (hg : D.get nm = some f) (hz : nm.size ≤ 40) (hz2 : tn.size ≤ 40) (h0 : w.cell? ⟨b0, 0, none⟩ = some (.string nm)) (h1 : w.cell? ⟨b1, 0, none⟩ = some (.string tn)) (h2 : w.cell? ⟨b2, 0, none⟩ = some (ptrV D.d)) (o0 : ¬ D.foot b0) (o1 : ¬ D.foot b1) (o2 : ¬ D.foot b2) :
    Calls Try.prog 89 #[ptrV b0, ptrV b1, ptrV b2] w fun e w' => e = .returned (.tuple #[]) ∧ ∃ F, F = D.rename nm tn ∧ Mv w D w' F := by
  by_cases hne : nm = tn
  · subst hne
    have FIN := Lib.hid (Mv.refl h (Below.refl _ w))
    have E := Lib.hid (show D = D.rename nm nm by unfold Dsk.rename; rw [if_pos rfl])
    clear h hg o0 o1 o2 hz hz2
    simp only [ptrV] at *
    go_enter Try.func89, Try.ntmps89
    go_wp2_with fail
    refine bodyPost_ret (results_none rfl _ _ _) rfl ?_
    exact ⟨rfl, _, E.out, FIN.out⟩
  · have UL := Lib.hid (unlink_any D tn w h (by omega))
    have BN := ba_ne hne
    have HH := Lib.hid h; have HG := Lib.hid hg; have O0 := Lib.hid o0; have O1 := Lib.hid o1; have O2 := Lib.hid o2; have H0 := Lib.hid h0; have H1 := Lib.hid h1; have H2 := Lib.hid h2
    have HZ := Lib.hid hz; have HZ2 := Lib.hid hz2; have HNE := Lib.hid hne
    clear h hg o0 o1 o2 hz hz2
    simp only [ptrV] at *
    go_enter Try.func89, Try.ntmps89
    go_wp2_with fail
    refine UL.out.mono ?_
    rintro e w1 ⟨rfl, hmv⟩
    have HMV := Lib.hid hmv
    obtain ⟨e1, e2, _⟩ := unlink_parts D tn
    have c0 := hmv.but.cell H0.out O0.out
    have c1 := hmv.but.cell H1.out O1.out
    have c2 := hmv.but.cell H2.out O2.out
    obtain ⟨ops, lc, hm, _⟩ := hmv.dw.main
    rw [e1, e2] at hm
    have d1 : w1.cell? ⟨D.d, 1, none⟩ = some (.map (some D.m)) := hm.cell 1 rfl
    have B1 := Below.drew (Below.refl w1.heap.size w1)
    have LK := (hmv.dw.below B1).look nm (by have := HZ.out; omega)
    rw [get_unlink HNE.out, HG.out, e2] at LK
    have mp1 := hmv.dw.mp.below B1
    rw [e2] at mp1
    obtain ⟨w2, hup, hM2, hg2⟩ := mp1.upd tn f.a (by have := HZ2.out; omega) (unlink_name HH.out.ok tn)
    have bu2 : But (· = D.m) w1 w2 := (But.of_below _ B1).trans (But.of_grown hg2)
    have hO : ∀ k, ¬ D.foot k → k ≠ D.m := fun k hk e => hk (.inr (.inl e))
    have y0 := bu2.cell c0 (hO _ O0.out)
    have y2 := bu2.cell c2 (hO _ O2.out)
    have hdm : D.d ≠ D.m := HH.out.dist.dm
    have y3 := bu2.cell d1 hdm
    have B3 := Below.drew (Below.refl w2.heap.size w2)
    obtain ⟨w3, hdel, hM3, hg3⟩ := (hM2.below B3).del nm (by have := HZ.out; omega)
    have bu3 : But (· = D.m) w1 w3 := bu2.trans ((But.of_below _ B3).trans (But.of_grown hg3))
    have FIN := Lib.hid (Mv.renamed hmv HNE.out HG.out bu3 hM3 (HH.out.ok.rename nm tn HZ2.out))
    clear hmv hm B1 mp1 hM2 hg2 bu2 hO hdm B3 hM3 hg3 bu3 h0 h1 h2 UL
    simp only [ptrV, Option.map_some] at *
    go_wp2_with fail
    go_region
    clear c0 c1 c2 d1 LK hup
    go_wp2_with fail
    go_region
    clear y0 y2 y3 hdel
    go_wp2_with fail
    go_end0
    exact ⟨rfl, _, rfl, FIN.out⟩
end Go.Proofs.Ytefndmjimmbhnaa
end

section
set_option linter.unusedVariables false
set_option linter.unusedSimpArgs false
set_option maxRecDepth 50000
namespace Go.Proofs.Ytefndmjimmbhnaa
open Go.RowKit Go.Shelf

theorem MapS.len {w : World} {b : Nat} {l : List (ByteArray × Nat)} (h : MapS w b l) (ty : TypeId) : (Builtin.len_ #[65] ty #[.map (some b)]).run Try.prog w = .ok (.int .i64 (l.length : Int)) w := by
  obtain ⟨es, clock, h1, h2, _⟩ := h.ex
  have e : es.size = l.length := by
    have := congrArg List.length h2
    unfold entV at this
    rwa [List.length_map, List.length_map, Array.length_toList] at this
  rw [run_len_map w _ ty b es clock (by rw [Try.underlying65]; rfl) h1, e]; rfl
theorem good_size {s : ByteArray} (h : diskNameB s = true) : s.size ≤ 40 := by
  unfold diskNameB at h
  simp only [Bool.and_eq_true, decide_eq_true_eq] at h
  exact h.1.2
theorem asked_new (W : World) (s : ByteArray) : Names (W.alloc (.cells #[.string s] 9)) (.slice (some ⟨W.heap.size, 0, none⟩) 1 1) [s] := by
  refine ⟨W.heap.size, 1, rfl, fun j hj => ?_⟩
  obtain rfl : j = 0 := by simpa using hj
  exact (Blk.new W 9 #[.string s]).cell 0 rfl
theorem faultC_one {D : Dsk} {nm : ByteArray} (hd : D.dark = false) (hg : diskNameB nm = true) (wanted : Bool) (hw : wanted = true → D.get nm ≠ none) : faultC D [nm] wanted = 0 := by
  unfold faultC
  rw [hd, if_neg (by simp), if_neg (by simp [hg]), if_neg]
  rintro ⟨h1, h2⟩
  exact hw h1 h2
theorem tick_same (D : Dsk) : D.tick.d = D.d ∧ D.tick.l = D.l ∧ D.tick.dark = D.dark ∧ D.tick.keep = D.keep ∧ D.tick.room = D.room := ⟨rfl, rfl, rfl, rfl, rfl⟩
set_option maxHeartbeats 2000000 in
theorem create_any (D : Dsk) (nm : ByteArray) (w : World) (h : DiskW w D) (hd : D.dark = false) (hg : diskNameB nm = true) (hr : D.get nm = none → D.l.length < 48 ∧ (D.used : Int) + 1 ≤ D.room) :
    Calls Try.prog 53 #[ptrV D.d, .string nm] w fun e w' => (D.plan = 1 ∧ e = .returned (.int .i64 9) ∧ Mv w D w' (D.tick.crash D.keep)) ∨ (D.plan ≠ 1 ∧ e = .returned (.int .i64 0) ∧ ∃ a, Mv w D w' (D.tick.create nm a)) := by
  have hz := good_size hg
  have B0 := below_alloc (below_alloc (Below.refl _ w) (.cells #[ptrV D.d] 29)) (.cells #[.string nm] 9)
  have k0 := ((Blk.new w 29 #[ptrV D.d]).alloc (.cells #[.string nm] 9)).alloc (.cells #[.string nm] 9)
  have k1 := (Blk.new (w.alloc (.cells #[ptrV D.d] 29)) 9 #[.string nm]).alloc (.cells #[.string nm] 9)
  have B1 := below_alloc B0 (.cells #[.string nm] 9)
  rw [show (w.alloc (.cells #[ptrV D.d] 29)).heap.size = w.heap.size + 1 by simp] at k1
  have FT := fault_any D _ [nm] false _ (h.below B1) (by simp) (by simp; omega) (.inl (asked_new _ nm)) (by simp)
  rw [faultC_one hd hg false (by simp)] at FT
  rw [show ((w.alloc (.cells #[ptrV D.d] 29)).alloc (.cells #[.string nm] 9)).heap.size = w.heap.size + 1 + 1 by simp] at FT
  have FTH := Lib.hid FT
  have x0 := (k0.cell 0 rfl); have x1 := (k1.cell 0 rfl)
  have p0 := ((Blk.new w 29 #[ptrV D.d]).alloc (.cells #[.string nm] 9)).cell 0 rfl
  have p1 := (Blk.new (w.alloc (.cells #[ptrV D.d] 29)) 9 #[.string nm]).cell 0 rfl
  rw [show (w.alloc (.cells #[ptrV D.d] 29)).heap.size = w.heap.size + 1 by simp] at p1
  have X0 := Lib.hid x0; have X1 := Lib.hid x1
  have BB1 := Lib.hid B1; have HH := Lib.hid h; have HR := Lib.hid hr; have HD := Lib.hid hd; have HZ := Lib.hid hz
  clear h hr hd hg hz B0 B1 k0 k1 FT x0 x1
  simp only [ptrV] at *
  go_enter Try.func53, Try.ntmps53
  go_wp2_with fail
  refine FTH.out.mono ?_
  rintro e w1 ⟨rfl, hb⟩
  have BX := Lib.hid (below_tr BB1.out hb)
  have Y0 := Lib.hid (cell_keep hb X0.out); have Y1 := Lib.hid (cell_keep hb X1.out)
  have dw1 := HH.out.below BX.out
  have FAR := Lib.hid (fun k (hk : w.heap.size ≤ k) => HH.out.fresh hk)
  have PF := Lib.hid (fun w2 (h2 : InW w1 w2) => (perform_any D 81 82 #[] #[ptrV w.heap.size, ptrV (w.heap.size + 1)] (enters_of Try.func81 (by kernel_rfl) rfl) (enters_of Try.func82 (by kernel_rfl) rfl)
    (fun E => E = D.tick) (fun E F => ∃ a, F = E.create nm a) w2 (dw1.below h2) (fun E hE => by subst hE; exact ⟨HD.out, rfl⟩)
    (fun W hmv => (none_any W).mono fun e w' hx => ⟨hx.1, D.tick, rfl, Mv.refl hmv.dw hx.2⟩)
    (fun W E hE hmv _ => by
      subst hE
      exact create1_any D.tick nm w.heap.size (w.heap.size + 1) W hmv.dw HZ.out HR.out (hmv.but.cell (cell_keep h2 Y0.out) (FAR.out _ (Nat.le_refl _))) (hmv.but.cell (cell_keep h2 Y1.out) (FAR.out (w.heap.size + 1) (by omega))) (FAR.out _ (Nat.le_refl _)) (FAR.out (w.heap.size + 1) (by omega)))).mono
    (show ∀ e w', _ → ((D.plan = 1 ∧ e = .returned (.int .i64 9) ∧ Mv w D w' (D.tick.crash D.keep)) ∨ (D.plan ≠ 1 ∧ e = .returned (.int .i64 0) ∧ ∃ a, Mv w D w' (D.tick.create nm a))) from by
      intro e w' hx
      rcases hx with ⟨h1, h2', E, rfl, h3⟩ | ⟨h1, h2', E, F, rfl, ⟨a, rfl⟩, h3⟩
      · exact .inl ⟨h1, h2', Mv.head HH.out (below_tr BX.out h2) h3⟩
      · exact .inr ⟨h1, h2', a, Mv.head HH.out (below_tr BX.out h2) h3⟩))
  obtain ⟨ops, lc, hm, _⟩ := dw1.main
  have y0 := Y0.out; have y1 := Y1.out
  have d1 : w1.cell? ⟨D.d, 1, none⟩ = some (.map (some D.m)) := hm.cell 1 rfl
  have LEN := fun ty => (dw1.below (Below.drew (Below.refl _ w1))).mp.len ty
  have LK := (dw1.below (Below.drew (Below.refl _ w1))).look nm (by have := HZ.out; omega)
  have FR := Lib.hid (fun W' (hW : InW w1 W') => free_any D W' (dw1.below hW))
  have LKW := Lib.hid (fun W' (hW : InW w1 W') => (dw1.below hW).look nm (by have := HZ.out; omega))
  have LENW := Lib.hid (fun W' (hW : InW w1 W') => (dw1.below hW).mp.len)
  obtain ⟨o, ho⟩ : ∃ o, D.get nm = o := ⟨_, rfl⟩
  have HO := Lib.hid ho
  rw [ho] at LK LKW
  clear hb X0 X1 BB1 FTH hm dw1 ho
  simp only [ptrV] at *
  cases o with
  | some f =>
    clear LEN FR LKW LENW
    simp only [Option.map_some] at LK
    go_wp2_with fail
    go_region
    clear LK y0 y1 d1
    have PF2 := PF.out w1.drew (InW.drew (InW.refl _))
    have z0 := Y0.out; have z1 := Y1.out
    go_wp2_with fail
    refine PF2.mono ?_
    rintro e w3 (⟨a1, rfl, a3⟩ | ⟨a1, rfl, a3⟩)
    · have A1 := Lib.hid a1; have A3 := Lib.hid a3
      clear a1 a3 PF2 z0 z1
      go_wp2_with fail
      go_ret
      exact .inl ⟨A1.out, rfl, A3.out⟩
    · have A1 := Lib.hid a1; have A3 := Lib.hid a3
      clear a1 a3 PF2 z0 z1
      go_wp2_with fail
      go_ret
      exact .inr ⟨A1.out, rfl, A3.out⟩
  | none =>
    obtain ⟨hr1, hr2⟩ := HR.out HO.out
    simp only [Option.map_none] at LK LKW
    obtain ⟨fr, hfr⟩ : ∃ x, D.room - (D.used : Int) = x := ⟨_, rfl⟩
    rw [hfr] at FR
    have q1 : ¬ fr < 1 := by omega
    obtain ⟨ln, hln⟩ : ∃ x : Int, ((D.l.map fun f => (f.n, f.a)).length : Int) = x := ⟨_, rfl⟩
    rw [hln] at LEN LENW
    have q2 : ¬ 48 ≤ ln := by rw [← hln, List.length_map]; omega
    clear hr1 hr2 hfr hln
    go_upto_region 4 with (fail)
    have LX := LENW.out
    go_region_held3 (fun W' => InW w1 W' ∧ W'.cell? ⟨w.heap.size, 0, none⟩ = some (.pointer (some ⟨D.d, 0, none⟩)) ∧ W'.cell? ⟨w.heap.size + 1, 0, none⟩ = some (.string nm) ∧ W'.cell? ⟨D.d, 1, none⟩ = some (.map (some D.m)))
      (first
        | with_reducible assumption
        | (refine ⟨InW.drew (InW.refl _), ?_, ?_, ?_⟩ <;> first | exact y0 | exact y1 | exact d1)
        | (have iw := (by with_reducible assumption : InW w1 _ ∧ _); exact ⟨InW.tr iw.1 (by with_reducible assumption), cell_keep (by with_reducible assumption) iw.2.1, cell_keep (by with_reducible assumption) iw.2.2.1, cell_keep (by with_reducible assumption) iw.2.2.2⟩))
      (first
        | (go_at_call 79; with_reducible refine (FR.out _ (And.left (by with_reducible assumption))).mono ?_; rintro e wA ⟨rfl, hbA⟩)
        | fail)
    all_goals (
      have iwA := Lib.hid (show InW w1 wA from InW.tr (InW.drew (InW.refl _)) hbA)
      have PF2 := PF.out wA iwA.out
      have z0 := cell_keep iwA.out Y0.out; have z1 := cell_keep iwA.out Y1.out
      clear LX LEN LK FR LKW LENW y0 y1 d1
      go_wp2_with fail
      refine PF2.mono ?_
      rintro e w3 (⟨a1, rfl, a3⟩ | ⟨a1, rfl, a3⟩)
      · have A1 := Lib.hid a1; have A3 := Lib.hid a3
        clear a1 a3 PF2 z0 z1
        go_wp2_with fail
        go_ret
        exact .inl ⟨A1.out, rfl, A3.out⟩
      · have A1 := Lib.hid a1; have A3 := Lib.hid a3
        clear a1 a3 PF2 z0 z1
        go_wp2_with fail
        go_ret
        exact .inr ⟨A1.out, rfl, A3.out⟩)
end Go.Proofs.Ytefndmjimmbhnaa
end

section
set_option linter.unusedVariables false
set_option linter.unusedSimpArgs false
set_option maxRecDepth 50000
namespace Go.Proofs.Ytefndmjimmbhnaa
open Go.RowKit Go.Shelf

set_option maxHeartbeats 2000000 in
theorem sync_any (D : Dsk) (nm : ByteArray) (f : Fil) (w : World) (h : DiskW w D) (hd : D.dark = false) (hg : diskNameB nm = true) (hf : D.get nm = some f) :
    Calls Try.prog 57 #[ptrV D.d, .string nm] w fun e w' => (D.plan = 1 ∧ e = .returned (.int .i64 9) ∧ Mv w D w' (D.tick.crash D.keep)) ∨ (D.plan ≠ 1 ∧ e = .returned (.int .i64 0) ∧ Mv w D w' (D.tick.sync nm)) := by
  have hz := good_size hg
  have B0 := below_alloc (below_alloc (Below.refl _ w) (.cells #[ptrV D.d] 29)) (.cells #[.string nm] 9)
  have k0 := ((Blk.new w 29 #[ptrV D.d]).alloc (.cells #[.string nm] 9)).alloc (.cells #[.string nm] 9)
  have k1 := (Blk.new (w.alloc (.cells #[ptrV D.d] 29)) 9 #[.string nm]).alloc (.cells #[.string nm] 9)
  have B1 := below_alloc B0 (.cells #[.string nm] 9)
  rw [show (w.alloc (.cells #[ptrV D.d] 29)).heap.size = w.heap.size + 1 by simp] at k1
  have FT := fault_any D _ [nm] true _ (h.below B1) (by simp) (by simp; omega) (.inl (asked_new _ nm)) (by simp)
  rw [faultC_one hd hg true (by simp [hf])] at FT
  rw [show ((w.alloc (.cells #[ptrV D.d] 29)).alloc (.cells #[.string nm] 9)).heap.size = w.heap.size + 1 + 1 by simp] at FT
  have FTH := Lib.hid FT
  have x0 := (k0.cell 0 rfl); have x1 := (k1.cell 0 rfl)
  have p0 := ((Blk.new w 29 #[ptrV D.d]).alloc (.cells #[.string nm] 9)).cell 0 rfl
  have p1 := (Blk.new (w.alloc (.cells #[ptrV D.d] 29)) 9 #[.string nm]).cell 0 rfl
  rw [show (w.alloc (.cells #[ptrV D.d] 29)).heap.size = w.heap.size + 1 by simp] at p1
  have X0 := Lib.hid x0; have X1 := Lib.hid x1
  have BB1 := Lib.hid B1; have HH := Lib.hid h; have HF := Lib.hid hf; have HD := Lib.hid hd; have HZ := Lib.hid hz
  clear h hf hd hg hz B0 B1 k0 k1 FT x0 x1
  simp only [ptrV] at *
  go_enter Try.func57, Try.ntmps57
  go_wp2_with fail
  refine FTH.out.mono ?_
  rintro e w1 ⟨rfl, hb⟩
  have BX := Lib.hid (below_tr BB1.out hb)
  have Y0 := Lib.hid (cell_keep hb X0.out); have Y1 := Lib.hid (cell_keep hb X1.out)
  have dw1 := HH.out.below BX.out
  have FAR := Lib.hid (fun k (hk : w.heap.size ≤ k) => HH.out.fresh hk)
  have PF := Lib.hid (fun w2 (h2 : InW w1 w2) => (perform_any D 81 87 #[] #[ptrV w.heap.size, ptrV (w.heap.size + 1)] (enters_of Try.func81 (by kernel_rfl) rfl) (enters_of Try.func87 (by kernel_rfl) rfl)
    (fun E => E = D.tick) (fun E F => F = E.sync nm) w2 (dw1.below h2) (fun E hE => by subst hE; exact ⟨HD.out, rfl⟩)
    (fun W hmv => (none_any W).mono fun e w' hx => ⟨hx.1, D.tick, rfl, Mv.refl hmv.dw hx.2⟩)
    (fun W E hE hmv _ => by
      subst hE
      exact sync1_any D.tick nm f w.heap.size (w.heap.size + 1) W hmv.dw HF.out HZ.out (hmv.but.cell (cell_keep h2 Y0.out) (FAR.out _ (Nat.le_refl _))) (hmv.but.cell (cell_keep h2 Y1.out) (FAR.out (w.heap.size + 1) (by omega))) (FAR.out _ (Nat.le_refl _)) (FAR.out (w.heap.size + 1) (by omega)))).mono
    (show ∀ e w', _ → ((D.plan = 1 ∧ e = .returned (.int .i64 9) ∧ Mv w D w' (D.tick.crash D.keep)) ∨ (D.plan ≠ 1 ∧ e = .returned (.int .i64 0) ∧ Mv w D w' (D.tick.sync nm))) from by
      intro e w' hx
      rcases hx with ⟨h1, h2', E, rfl, h3⟩ | ⟨h1, h2', E, F, rfl, rfl, h3⟩
      · exact .inl ⟨h1, h2', Mv.head HH.out (below_tr BX.out h2) h3⟩
      · exact .inr ⟨h1, h2', Mv.head HH.out (below_tr BX.out h2) h3⟩))
  have PF2 := PF.out w1 (InW.refl _)
  have y0 := Y0.out; have y1 := Y1.out
  clear hb X0 X1 BB1 FTH dw1 PF
  simp only [ptrV] at *
  go_wp2_with fail
  refine PF2.mono ?_
  rintro e w3 (⟨a1, rfl, a3⟩ | ⟨a1, rfl, a3⟩)
  · have A1 := Lib.hid a1; have A3 := Lib.hid a3
    clear a1 a3 PF2 y0 y1
    go_wp2_with fail
    go_ret
    exact .inl ⟨A1.out, rfl, A3.out⟩
  · have A1 := Lib.hid a1; have A3 := Lib.hid a3
    clear a1 a3 PF2 y0 y1
    go_wp2_with fail
    go_ret
    exact .inr ⟨A1.out, rfl, A3.out⟩
theorem asked_two (W : World) (s t : ByteArray) : Names (W.alloc (.cells #[.string s, .string t] 9)) (.slice (some ⟨W.heap.size, 0, none⟩) 2 2) [s, t] := by
  refine ⟨W.heap.size, 2, rfl, fun j hj => ?_⟩
  have hb := Blk.new W 9 #[.string s, .string t]
  rcases j with _ | j
  · exact hb.cell 0 rfl
  · obtain rfl : j = 0 := by simp at hj; omega
    exact hb.cell 1 rfl
theorem faultC_two {D : Dsk} {nm tn : ByteArray} (hd : D.dark = false) (hg : diskNameB nm = true) (hg2 : diskNameB tn = true) (hw : D.get nm ≠ none) : faultC D [nm, tn] true = 0 := by
  unfold faultC
  rw [hd, if_neg (by simp), if_neg (by simp [hg, hg2]), if_neg]
  rintro ⟨h1, h2⟩
  exact hw h2
set_option maxHeartbeats 2000000 in
theorem rename_any (D : Dsk) (nm tn : ByteArray) (f : Fil) (w : World) (h : DiskW w D) (hd : D.dark = false) (hg : diskNameB nm = true) (hg2 : diskNameB tn = true) (hf : D.get nm = some f) :
    Calls Try.prog 59 #[ptrV D.d, .string nm, .string tn] w fun e w' => (D.plan = 1 ∧ e = .returned (.int .i64 9) ∧ Mv w D w' (D.tick.crash D.keep)) ∨ (D.plan ≠ 1 ∧ e = .returned (.int .i64 0) ∧ Mv w D w' (D.tick.rename nm tn)) := by
  have hz := good_size hg; have hz2 := good_size hg2
  obtain ⟨W1, hW1⟩ : ∃ W, w.alloc (.cells #[ptrV D.d] 29) = W := ⟨_, rfl⟩
  have s1 : W1.heap.size = w.heap.size + 1 := by rw [← hW1]; simp
  have k0 := Blk.new w 29 #[ptrV D.d]
  have B0 := below_alloc (Below.refl _ w) (.cells #[ptrV D.d] 29)
  rw [hW1] at k0 B0
  have k1 := (Blk.new W1 9 #[.string nm])
  rw [s1] at k1
  have k2 := Blk.new (W1.alloc (.cells #[.string nm] 9)) 9 #[.string tn]
  rw [show (W1.alloc (.cells #[.string nm] 9)).heap.size = w.heap.size + 1 + 1 by simp [s1]] at k2
  have B1 := below_alloc (below_alloc (below_alloc B0 (.cells #[.string nm] 9)) (.cells #[.string tn] 9)) (.cells #[.string nm, .string tn] 9)
  have r0 := (k0.alloc (.cells #[.string nm] 9)).alloc (.cells #[.string tn] 9)
  have r1 := k1.alloc (.cells #[.string tn] 9)
  have FT := fault_any D _ [nm, tn] true _ (h.below B1) (by simp) (by simp; omega) (.inl (asked_two _ nm tn)) (by simp)
  rw [faultC_two hd hg hg2 (by simp [hf])] at FT
  rw [show ((W1.alloc (.cells #[.string nm] 9)).alloc (.cells #[.string tn] 9)).heap.size = w.heap.size + 1 + 1 + 1 by simp [s1]] at FT
  have FTH := Lib.hid FT
  have p0 := r0.cell 0 rfl; have p1 := r1.cell 0 rfl; have p2 := k2.cell 0 rfl
  have X0 := Lib.hid ((r0.alloc (.cells #[.string nm, .string tn] 9)).cell 0 rfl)
  have X1 := Lib.hid ((r1.alloc (.cells #[.string nm, .string tn] 9)).cell 0 rfl)
  have X2 := Lib.hid ((k2.alloc (.cells #[.string nm, .string tn] 9)).cell 0 rfl)
  have BB1 := Lib.hid B1; have HH := Lib.hid h; have HF := Lib.hid hf; have HD := Lib.hid hd; have HZ := Lib.hid hz; have HZ2 := Lib.hid hz2
  subst hW1
  clear h hf hd hg hg2 hz hz2 B0 B1 k0 k1 k2 r0 r1 FT s1
  simp only [ptrV] at *
  go_enter Try.func59, Try.ntmps59
  go_wp2_with fail
  refine FTH.out.mono ?_
  rintro e w1 ⟨rfl, hb⟩
  have BX := Lib.hid (below_tr BB1.out hb)
  have Y0 := Lib.hid (cell_keep hb X0.out); have Y1 := Lib.hid (cell_keep hb X1.out); have Y2 := Lib.hid (cell_keep hb X2.out)
  have dw1 := HH.out.below BX.out
  have FAR := Lib.hid (fun k (hk : w.heap.size ≤ k) => HH.out.fresh hk)
  have PF := Lib.hid (fun w2 (h2 : InW w1 w2) => (perform_any D 81 89 #[] #[ptrV (w.heap.size + 1), ptrV (w.heap.size + 1 + 1), ptrV w.heap.size] (enters_of Try.func81 (by kernel_rfl) rfl) (enters_of Try.func89 (by kernel_rfl) rfl)
    (fun E => E = D.tick) (fun E F => F = E.rename nm tn) w2 (dw1.below h2) (fun E hE => by subst hE; exact ⟨HD.out, rfl⟩)
    (fun W hmv => (none_any W).mono fun e w' hx => ⟨hx.1, D.tick, rfl, Mv.refl hmv.dw hx.2⟩)
    (fun W E hE hmv _ => by
      subst hE
      exact rename1_any D.tick nm tn f (w.heap.size + 1) (w.heap.size + 1 + 1) w.heap.size W hmv.dw HF.out HZ.out HZ2.out (hmv.but.cell (cell_keep h2 Y1.out) (FAR.out (w.heap.size + 1) (by omega))) (hmv.but.cell (cell_keep h2 Y2.out) (FAR.out (w.heap.size + 1 + 1) (by omega))) (hmv.but.cell (cell_keep h2 Y0.out) (FAR.out _ (Nat.le_refl _))) (FAR.out (w.heap.size + 1) (by omega)) (FAR.out (w.heap.size + 1 + 1) (by omega)) (FAR.out _ (Nat.le_refl _)))).mono
    (show ∀ e w', _ → ((D.plan = 1 ∧ e = .returned (.int .i64 9) ∧ Mv w D w' (D.tick.crash D.keep)) ∨ (D.plan ≠ 1 ∧ e = .returned (.int .i64 0) ∧ Mv w D w' (D.tick.rename nm tn))) from by
      intro e w' hx
      rcases hx with ⟨h1, h2', E, rfl, h3⟩ | ⟨h1, h2', E, F, rfl, rfl, h3⟩
      · exact .inl ⟨h1, h2', Mv.head HH.out (below_tr BX.out h2) h3⟩
      · exact .inr ⟨h1, h2', Mv.head HH.out (below_tr BX.out h2) h3⟩))
  have PF2 := PF.out w1 (InW.refl _)
  have y0 := Y0.out; have y1 := Y1.out; have y2 := Y2.out
  clear hb X0 X1 X2 BB1 FTH dw1 PF
  simp only [ptrV] at *
  go_wp2_with fail
  refine PF2.mono ?_
  rintro e w3 (⟨a1, rfl, a3⟩ | ⟨a1, rfl, a3⟩)
  · have A1 := Lib.hid a1; have A3 := Lib.hid a3
    clear a1 a3 PF2 y0 y1 y2
    go_wp2_with fail
    go_ret
    exact .inl ⟨A1.out, rfl, A3.out⟩
  · have A1 := Lib.hid a1; have A3 := Lib.hid a3
    clear a1 a3 PF2 y0 y1 y2
    go_wp2_with fail
    go_ret
    exact .inr ⟨A1.out, rfl, A3.out⟩
end Go.Proofs.Ytefndmjimmbhnaa
end
