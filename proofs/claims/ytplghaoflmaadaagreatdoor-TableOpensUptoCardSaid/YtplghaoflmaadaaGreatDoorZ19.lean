/- A block of ten cells, filled again. It speaks of no program; no condition. Contracts of cell.fold's join and of cell.Norm, at any cells. Condition: room (the row's own bound). Contracts of the table writer's frame, of the filter of cells, the program's and the reference's. Conditions: room. -/
import Derived.Test.YtplghaoflmaadaaGreatDoorZ00
import Derived.Test.YtplghaoflmaadaaGreatDoorZ18
import Derived.Deep.MidRow
import Derived.Test.YtplghaoflmaadaaGreatDoorZ05
import Derived.Test.YtplghaoflmaadaaGreatDoorZ08
import Derived.Test.YtplghaoflmaadaaGreatDoorZ04
import Derived.Test.YtplghaoflmaadaaGreatDoorZ11
import Derived.Test.YtplghaoflmaadaaGreatDoorZ12
section
set_option linter.unusedVariables false
set_option linter.unusedSimpArgs false
namespace Go.Proofs.YtplghaoflmaadaaGreatDoor
open Go.RowKit

theorem Blk.put10 {w : World} {g : Nat} {t : TypeId} {a0 a1 a2 a3 a4 a5 a6 a7 a8 a9 : Value} (h : Blk w g t #[a0, a1, a2, a3, a4, a5, a6, a7, a8, a9]) (u0 u1 u2 u3 u4 u5 u6 u7 u8 u9 : Value) :
    Blk ((((((((((w.setCell ⟨g, 0, none⟩ u0).setCell ⟨g, 1, none⟩ u1).setCell ⟨g, 2, none⟩ u2).setCell ⟨g, 3, none⟩ u3).setCell ⟨g, 4, none⟩ u4).setCell ⟨g, 5, none⟩ u5).setCell ⟨g, 6, none⟩ u6).setCell ⟨g, 7, none⟩ u7).setCell ⟨g, 8, none⟩ u8).setCell ⟨g, 9, none⟩ u9) g t #[u0, u1, u2, u3, u4, u5, u6, u7, u8, u9] := by
  have h0 : Blk (w.setCell ⟨g, 0, none⟩ u0) g t #[u0, a1, a2, a3, a4, a5, a6, a7, a8, a9] := h.put 0 u0
  have h1 : Blk ((w.setCell ⟨g, 0, none⟩ u0).setCell ⟨g, 1, none⟩ u1) g t #[u0, u1, a2, a3, a4, a5, a6, a7, a8, a9] := h0.put 1 u1
  have h2 : Blk (((w.setCell ⟨g, 0, none⟩ u0).setCell ⟨g, 1, none⟩ u1).setCell ⟨g, 2, none⟩ u2) g t #[u0, u1, u2, a3, a4, a5, a6, a7, a8, a9] := h1.put 2 u2
  have h3 : Blk ((((w.setCell ⟨g, 0, none⟩ u0).setCell ⟨g, 1, none⟩ u1).setCell ⟨g, 2, none⟩ u2).setCell ⟨g, 3, none⟩ u3) g t #[u0, u1, u2, u3, a4, a5, a6, a7, a8, a9] := h2.put 3 u3
  have h4 : Blk (((((w.setCell ⟨g, 0, none⟩ u0).setCell ⟨g, 1, none⟩ u1).setCell ⟨g, 2, none⟩ u2).setCell ⟨g, 3, none⟩ u3).setCell ⟨g, 4, none⟩ u4) g t #[u0, u1, u2, u3, u4, a5, a6, a7, a8, a9] := h3.put 4 u4
  have h5 : Blk ((((((w.setCell ⟨g, 0, none⟩ u0).setCell ⟨g, 1, none⟩ u1).setCell ⟨g, 2, none⟩ u2).setCell ⟨g, 3, none⟩ u3).setCell ⟨g, 4, none⟩ u4).setCell ⟨g, 5, none⟩ u5) g t #[u0, u1, u2, u3, u4, u5, a6, a7, a8, a9] := h4.put 5 u5
  have h6 : Blk (((((((w.setCell ⟨g, 0, none⟩ u0).setCell ⟨g, 1, none⟩ u1).setCell ⟨g, 2, none⟩ u2).setCell ⟨g, 3, none⟩ u3).setCell ⟨g, 4, none⟩ u4).setCell ⟨g, 5, none⟩ u5).setCell ⟨g, 6, none⟩ u6) g t #[u0, u1, u2, u3, u4, u5, u6, a7, a8, a9] := h5.put 6 u6
  have h7 : Blk ((((((((w.setCell ⟨g, 0, none⟩ u0).setCell ⟨g, 1, none⟩ u1).setCell ⟨g, 2, none⟩ u2).setCell ⟨g, 3, none⟩ u3).setCell ⟨g, 4, none⟩ u4).setCell ⟨g, 5, none⟩ u5).setCell ⟨g, 6, none⟩ u6).setCell ⟨g, 7, none⟩ u7) g t #[u0, u1, u2, u3, u4, u5, u6, u7, a8, a9] := h6.put 7 u7
  have h8 : Blk (((((((((w.setCell ⟨g, 0, none⟩ u0).setCell ⟨g, 1, none⟩ u1).setCell ⟨g, 2, none⟩ u2).setCell ⟨g, 3, none⟩ u3).setCell ⟨g, 4, none⟩ u4).setCell ⟨g, 5, none⟩ u5).setCell ⟨g, 6, none⟩ u6).setCell ⟨g, 7, none⟩ u7).setCell ⟨g, 8, none⟩ u8) g t #[u0, u1, u2, u3, u4, u5, u6, u7, u8, a9] := h7.put 8 u8
  have h9 : Blk ((((((((((w.setCell ⟨g, 0, none⟩ u0).setCell ⟨g, 1, none⟩ u1).setCell ⟨g, 2, none⟩ u2).setCell ⟨g, 3, none⟩ u3).setCell ⟨g, 4, none⟩ u4).setCell ⟨g, 5, none⟩ u5).setCell ⟨g, 6, none⟩ u6).setCell ⟨g, 7, none⟩ u7).setCell ⟨g, 8, none⟩ u8).setCell ⟨g, 9, none⟩ u9) g t #[u0, u1, u2, u3, u4, u5, u6, u7, u8, u9] := h8.put 9 u9
  exact h9
end Go.Proofs.YtplghaoflmaadaaGreatDoor
end

section
set_option linter.unusedVariables false
set_option linter.unusedSimpArgs false
set_option maxRecDepth 50000
namespace Go.Proofs.YtplghaoflmaadaaGreatDoor
open Go.RowKit Go.Sort
open Go.Lib hiding intOf

/-- an element is stored, at a plain list of operations -/
theorem st_el {α : Type} {E : El α} {ops : Array Oper} {rest : List Oper} {o : Oper} {a : Act} {Q : Exit → Act → World → Prop} {W : World} (hgd : o.guard = none) (x y : Operand) (ho : o.op = .store E.t x y)
    (base g k n c : Nat) (l : List α) (v : α) (hx : a.eval x = .pointer (some ⟨g, k * E.size, none⟩)) (hy : a.eval y = .agg (E.enc v).toArray) (HO : OwnX E W base (.slice (some ⟨g, 0, none⟩) n c) l) (hk : k < l.length)
    (h : ∀ w1, OwnX E w1 base (.slice (some ⟨g, 0, none⟩) n c) (l.set k v) → W.grownBy w1 (some g) → wpList Tryz.prog ops Q rest (a.put o.dst undef) w1) : wpList Tryz.prog ops Q (o :: rest) a W := by
  obtain ⟨i0, hi, hz0, hz1, hz2⟩ := info_parts E.info
  have hth : W.there g (k * E.size) (E.enc v).toArray.size := fun j hj => by
    have hj' : j < E.size := by simpa [E.len] using hj
    refine ⟨?_, HO.frozen _⟩
    rw [HO.cell k j hk (u := (E.enc l[k])[j]'(by rw [E.len]; exact hj')) (List.getElem?_eq_getElem _)]; rfl
  refine wpList_store_mid hgd E.t x y ho g (k * E.size) (E.enc v).toArray hx hy hth (by rw [hi]; simp [hz1, E.len]) (all_oneCell_toArray (E.one v)) ?_
  obtain ⟨_, h2, h3⟩ := OwnX.sto (P := Tryz.prog) HO k hk v
  exact h _ h2 h3
theorem OwnX.ten {w : World} {base g n c : Nat} {l : List Cel} (h : OwnX eC w base (.slice (some ⟨g, 0, none⟩) n c) l) (i : Nat) (hi : i < l.length) : Ten w g (i * 10) l[i] :=
  ⟨h.cell i 0 hi rfl, h.cell i 1 hi rfl, h.cell i 2 hi rfl, h.cell i 3 hi rfl, h.cell i 4 hi rfl, h.cell i 5 hi rfl, h.cell i 6 hi rfl, h.cell i 7 hi rfl, h.cell i 8 hi rfl, h.cell i 9 hi rfl⟩
theorem Blk.ten {w : World} {g : Nat} {t : TypeId} {x : Cel} (h : Blk w g t (celEnc x).toArray) : Ten w g 0 x :=
  ⟨h.cell 0 rfl, h.cell 1 rfl, h.cell 2 rfl, h.cell 3 rfl, h.cell 4 rfl, h.cell 5 rfl, h.cell 6 rfl, h.cell 7 rfl, h.cell 8 rfl, h.cell 9 rfl⟩

set_option maxHeartbeats 2000000 in
theorem norm3_c (a b : Cel) (w : World) : Calls Tryz.prog 70 #[.agg (celEnc a).toArray, .agg (celEnc b).toArray] w fun e w' => e = .returned (.agg (celEnc ⟨a.k, joinP a.v b.v⟩).toArray) ∧ Below w.heap.size w w' := by
  have q := fun W => QP.of (P := Tryz.prog) (W := W) fun W' _ => join_any a.v b.v W'
  have b1 := (((Blk.new w 61 (celEnc a).toArray).alloc (.cells (celEnc b).toArray 61)).alloc (.cells zCel.cells 61)).ten
  have b2 := ((Blk.new (w.alloc (.cells (celEnc a).toArray 61)) 61 (celEnc b).toArray).alloc (.cells zCel.cells 61)).ten
  have b3 := Blk.new ((w.alloc (.cells (celEnc a).toArray 61)).alloc (.cells (celEnc b).toArray 61)) 61 zCel.cells
  have B0 := below_alloc (below_alloc (below_alloc (Below.refl _ w) (.cells (celEnc a).toArray 61)) (.cells (celEnc b).toArray 61)) (.cells zCel.cells 61)
  rw [show (w.alloc (.cells (celEnc a).toArray 61)).heap.size = w.heap.size + 1 by simp] at b2
  rw [show ((w.alloc (.cells (celEnc a).toArray 61)).alloc (.cells (celEnc b).toArray 61)).heap.size = w.heap.size + 1 + 1 by simp] at b3
  generalize joinP a.v b.v = j at *
  obtain ⟨⟨t, p, r, c⟩, ⟨x1, x2, x3, x4, x5, x6⟩⟩ := a
  obtain ⟨⟨t', p', r', c'⟩, ⟨y1, y2, y3, y4, y5, y6⟩⟩ := b
  obtain ⟨j1, j2, j3, j4, j5, j6⟩ := j
  have HB0 := Lib.hid B0; have B1 := Lib.hid b1; have B2 := Lib.hid b2; have B3 := Lib.hid b3; have Q1 := Lib.hid q
  clear b1 b2 b3 B0 q
  simp only [celEnc, vrEnc, zCel, Value.cells] at *
  go_enter Tryz.func70, Tryz.ntmps70
  go_wp2_with fail
  generalize ((w.alloc (.cells #[.string t, .string p, .int .i64 r, .string c, .int .i64 x1, .bool x2, .int .i64 x3, .int .i64 x4, .int .i64 x5, .string x6] 61)).alloc (.cells #[.string t', .string p', .int .i64 r', .string c', .int .i64 y1, .bool y2, .int .i64 y3, .int .i64 y4, .int .i64 y5, .string y6] 61)).alloc (.cells #[.string ⟨#[]⟩, .string ⟨#[]⟩, .int .i64 0, .string ⟨#[]⟩, .int .i64 0, .bool false, .int .i64 0, .int .i64 0, .int .i64 0, .string ⟨#[]⟩] 61) = W at *
  have q1 := Lib.hid (Q1.out W)
  have k1 := fun dr os => (B1.out.keep (below_regrown W dr os))
  have k2 := fun dr os => (B2.out.keep (below_regrown W dr os))
  have f0 := fun dr os => (k1 dr os).c0; have f1 := fun dr os => (k1 dr os).c1; have f2 := fun dr os => (k1 dr os).c2; have f3 := fun dr os => (k1 dr os).c3; have f4 := fun dr os => (k1 dr os).c4
  have f5 := fun dr os => (k1 dr os).c5; have f6 := fun dr os => (k1 dr os).c6; have f7 := fun dr os => (k1 dr os).c7; have f8 := fun dr os => (k1 dr os).c8; have f9 := fun dr os => (k1 dr os).c9
  have g4 := fun dr os => (k2 dr os).c4
  have g5 := fun dr os => (k2 dr os).c5; have g6 := fun dr os => (k2 dr os).c6; have g7 := fun dr os => (k2 dr os).c7; have g8 := fun dr os => (k2 dr os).c8; have g9 := fun dr os => (k2 dr os).c9
  simp only [Nat.zero_add] at f0 f1 f2 f3 f4 f5 f6 f7 f8 f9 g4 g5 g6 g7 g8 g9
  clear k1 k2
  refine wp_region_quiet_tail 7 (by kernel_rfl) (by kernel_rfl) ?_
  simp only [List.take_succ_cons, List.take_zero, List.drop_succ_cons, List.drop_zero]
  repeat (quiet_step (first | with_reducible exact q1.out.at _ _))
  refine wpQuiet_nil ?_
  intro w3 hw3
  have hb3 := regrown_below hw3
  have b3 := B3.out.below hb3
  have HB := Lib.hid (below_tr HB0.out hb3)
  have z0 := b3.cell 0 rfl; have z1 := b3.cell 1 rfl; have z2 := b3.cell 2 rfl; have z3 := b3.cell 3 rfl; have z4 := b3.cell 4 rfl; have z5 := b3.cell 5 rfl; have z6 := b3.cell 6 rfl; have z7 := b3.cell 7 rfl; have z8 := b3.cell 8 rfl; have z9 := b3.cell 9 rfl
  have fz := b3.frozen
  have Z := Lib.hid b3
  clear hw3 hb3 b3 f0 f1 f2 f3 f4 f5 f6 f7 f8 f9 g4 g5 g6 g7 g8 g9 q1
  go_wp2_with fail
  refine ret_gen (fun w2 => Blk w2 (w.heap.size + 1 + 1) 61 #[.string t, .string p, .int .i64 r, .string c, .int .i64 j1, .bool j2, .int .i64 j3, .int .i64 j4, .int .i64 j5, .string j6] ∧ Below w.heap.size w w2) ⟨Z.out.put10 _ _ _ _ _ _ _ _ _ _, by repeat (first | with_reducible exact HB.out | refine Below.setCell ?_ (by simp; try omega) _)⟩ ?_
  rintro w2 ⟨bk, hb2⟩
  exact bodyPost_ret (v := .agg #[.string t, .string p, .int .i64 r, .string c, .int .i64 j1, .bool j2, .int .i64 j3, .int .i64 j4, .int .i64 j5, .string j6]) (by simp [results, Tryz.results70, go_sem, bk.cell 0 rfl, bk.cell 1 rfl, bk.cell 2 rfl, bk.cell 3 rfl, bk.cell 4 rfl, bk.cell 5 rfl, bk.cell 6 rfl, bk.cell 7 rfl, bk.cell 8 rfl, bk.cell 9 rfl]) rfl ⟨rfl, hb2⟩
end Go.Proofs.YtplghaoflmaadaaGreatDoor
end

section
set_option linter.unusedVariables false
set_option linter.unusedSimpArgs false
set_option maxRecDepth 50000
namespace Go.Proofs.YtplghaoflmaadaaGreatDoor
open Go.RowKit Go.Sort
open Go.Lib hiding intOf

theorem frameL_pos (b : List UInt8) (h : b.length ≤ 262144) : 0 < (frameL b).length := by rw [frameL_length b h]; omega
/-- What frame leaves: the writer at g holds v', which owns l; else only what o owned, or nothing, was written. -/
structure Framed (g base : Nat) (o : Value) (w : World) (l : List UInt8) (v' : Value) (w' : World) : Prop where
  blk : Blk w' g 75 #[v', .bool false]
  own : OwnB w' base v' l
  but : But (fun k => k = g ∨ o.ownBlock = some k) w w'
  new : v'.ownBlock = o.ownBlock ∨ ∀ k, v'.ownBlock = some k → w.heap.size ≤ k

set_option maxHeartbeats 1000000 in
theorem frame_any (g base : Nat) (o v : Value) (l b : List UInt8) (w : World) (hk : Blk w g 75 #[o, .bool false]) (HO : OwnB w base o l) (hbase : base ≤ w.heap.size)
    (hv : ∀ W, But (fun k => k = g) w W → SlB W.heap.size W v b) (hb : b.length ≤ 262144) (hl : l.length ≤ 1000000000) :
    Calls Tryz.prog 35 #[.pointer (some ⟨g, 0, none⟩), v] w fun e w' => e = .returned (.int .i64 ((frameL b).length : Int)) ∧ ∃ v', Framed g base o w (l ++ frameL b) v' w' := by
  have b1 := But.setCell (p := ⟨g, 1, none⟩) (But.refl (fun k => k = g) w) rfl (.bool false)
  have k1 := hk.put 1 (.bool false)
  have hne := hk.ne_own (own_eB.2 HO) (by decide)
  have o1 := (own_eB.2 HO).grown (Lib.grownBy_setCell w g 1 (.bool false)) (.inr (Ne.symm hne))
  have hv0 := hv w (But.refl _ _)
  obtain ⟨a, cp, rfl, hcp, _⟩ := hv0.ex
  have hv1 := hv _ b1
  have F := Lib.hid (Frame_any _ b _ hv1 (by omega))
  have hz : (b.length : Int) ≤ 262144 := by omega
  have hz2 : ¬ (262144 : Int) < (b.length : Int) := by omega
  have fp := frameL_pos b hb
  have B1 := Lib.hid b1; have K1 := Lib.hid k1; have O1 := Lib.hid o1
  have HFL := Lib.hid (show (frameL b).length ≤ 1000000 by rw [frameL_length b hb]; omega)
  have HNE := Lib.hid hne
  have c0 := hk.cell 0 rfl; have c1 := hk.cell 1 rfl; have f0 := hk.frozen 0; have f1 := hk.frozen 1
  have hlt := hk.lt
  clear b1 k1 o1 hv1 hv0 hv hk HO hne
  generalize hff : frameL b = ff at *
  clear hff
  go_enter Tryz.func35, Tryz.ntmps35
  go_wp2_with fail
  refine F.out.mono ?_
  rintro e w2 ⟨v2, rfl, hO2, hB2⟩
  obtain ⟨g2, c2, rfl, hc2, hg2, hgl2, _⟩ := OwnX.formN (own_eB.2 hO2) ff.length rfl fp
  have k2 := K1.out.below hB2
  have o2 := O1.out.below hB2
  have HS2 := (own_eB.2 hO2).sl
  have sz := B1.out.size
  have d0 := k2.cell 0 rfl; have df := k2.frozen 0
  have hbs : base ≤ w2.heap.size := Nat.le_trans hbase (Nat.le_trans sz hB2.size)
  have hroom : l.length + ff.length ≤ 9223372036854775807 := by have := HFL.out; omega
  have hroom2 : (l.length + ff.length) * 1 ≤ 140737488355328 := by have := HFL.out; omega
  have HB2 := Lib.hid hB2; have K2 := Lib.hid k2; have O2 := Lib.hid o2; have HSS := Lib.hid HS2
  clear k2 o2 HS2 hB2
  go_wp2_with (at_builtin; go_must (refine ap_g (E := eB) (by rfl) (.tmp 24) (.tmp 25) (by rfl) base _ l _ _ ff (by rfl) (by rfl) HSS.out O2.out hbs hroom hroom2 ?_); intro v3 w3 hO3 hG3; obtain ⟨g3, c3, rfl, hc3, hg3, hgl3, _⟩ := OwnX.formN hO3 (l.length + ff.length) (by simp) (by omega); have k3 := K2.out.growV O2.out hG3 (by decide); have t0 := k3.cell 0 rfl; have tf := k3.frozen 0; have K3 := Lib.hid k3; have HO3 := Lib.hid hO3; have HG3 := Lib.hid hG3; clear k3 hO3 hG3)
  go_ret
  refine ⟨by rfl, _, ⟨K3.out.put 0 _, own_eB.1 (HO3.out.grown (Lib.grownBy_setCell w3 g 0 _) (.inr (Ne.symm (K3.out.ne_own HO3.out (by decide))))), ?_, ?_⟩⟩
  · refine But.setCell (p := ⟨g, 0, none⟩) ?_ (.inl rfl) _
    refine But.grown (But.tail (B1.out.mono fun k _ h => .inl h) HB2.out) HG3.out.1 (fun k h => .inr h)
  · rcases HG3.out.2 with h | h
    · exact .inl h
    · exact .inr fun k hk => Nat.le_trans (Nat.le_trans sz HB2.out.size) (h k hk)

theorem esc_len2 (s : List UInt8) : (esc s).length ≤ 2 * s.length := esc_len s
theorem kyL_len (k : Ky) : (kyL k).length ≤ 2 * (k.t.size + k.p.size + k.c.size) + 14 := by
  unfold kyL keyBytes
  have h1 := esc_len k.t.toList; have h2 := esc_len k.p.toList; have h3 := esc_len k.c.toList
  rw [str_len] at h1 h2 h3
  simp only [List.length_append, row8_length, List.length_cons, List.length_nil]
  omega
def keysL (L : List Cel) : List (List UInt8) := L.map fun c => kyL c.k
theorem fillF_snoc (ts : List (List UInt8)) (t bits : List UInt8) : fillF (ts ++ [t]) bits = addF 7 (fillF ts bits) t := by simp [fillF]
/-- a cell's key is not too long -/
def KeyS (L : List Cel) : Prop := ∀ c ∈ L, c.k.t.size + c.k.p.size + c.k.c.size ≤ 400000

set_option maxHeartbeats 1000000 in
theorem filter_any (v : Value) (L : List Cel) (w : World) (he : Env w) (hv : SlX eC w.heap.size w v L) (hk : KeyS L) (hn : L.length ≤ 20000) :
    Calls Tryz.prog 40 #[v] w fun e w' => ∃ g, e = .returned (.pointer (some ⟨g, 0, none⟩)) ∧ FlU 124 w.heap.size w' g 7 (bitsL L) ∧ Below w.heap.size w w' := by
  have HV := Lib.hid hv
  obtain ⟨a, cap, rfl, hc, hx⟩ := hv.ex
  have HX := Lib.hid hx; clear hx hv
  have HK := Lib.hid hk; clear hk
  have HE := Lib.hid he; clear he
  have N0 := Lib.hid (fNew_any L.length w hn)
  have HB := Lib.hid (show bitsL L = fillF (keysL L) (newF L.length) by unfold bitsL filtF keysL; simp)
  go_enter Tryz.func40, Tryz.ntmps40
  go_wp2_with fail
  refine N0.out.mono ?_
  rintro e w1 ⟨g, rfl, hF1, hB1⟩
  have HF1 := Lib.hid hF1; have HB1 := Lib.hid hB1
  clear hF1 hB1
  go_wp2_with fail
  go_loopw [5, 11] (fun _ v11 wr => ∃ i : Nat, v11 = .int .i64 (i : Int) ∧ i ≤ L.length ∧ FlU 124 w.heap.size wr g 7 (fillF (keysL (L.take i)) (newF L.length)) ∧ Below w.heap.size w wr) (fun _ v11 _ => L.length - (intOf v11).toNat)
  case atStart => exact ⟨0, rfl, by omega, HF1.out, HB1.out⟩
  case round =>
    obtain ⟨i, rfl, hi, HF, hb⟩ := hrel
    have HBw := Lib.hid hb; have HFl := Lib.hid HF; clear hb HF
    by_cases hlt : i < L.length
    · have hz : (i : Int) < (L.length : Int) := by omega
      obtain ⟨gl, o, rfl, hgl2, _⟩ := HX.out (by omega)
      have ten := (Ten.of HV.out i hlt).keep HBw.out
      have KS := HK.out L[i] (List.getElem_mem hlt)
      have EN := Lib.hid (show keysL (L.take (i + 1)) = keysL (L.take i) ++ [kyL L[i].k] by unfold keysL; rw [List.take_succ_eq_append_getElem hlt, List.map_append]; rfl)
      have KL := kyL_len L[i].k
      generalize L[i] = x at *
      obtain ⟨c0, c1, c2, c3, c4, c5, c6, c7, c8, c9⟩ := ten
      have B1 := Lib.hid (Blk.new wr 61 (celEnc x).toArray)
      have BW1 := Lib.hid (below_alloc (Below.refl _ wr) (.cells (celEnc x).toArray 61))
      obtain ⟨⟨t, p, r, q⟩, ⟨tm, dd, lc, kd, nn, ss⟩⟩ := x
      simp only [celEnc] at *
      have HKS := Lib.hid KS; have HKL := Lib.hid KL; clear KS KL
      have KB := Lib.hid (fun W (h : Below w.heap.size w W) => Bytes_any t p q r W (HE.out.below h) (by have := HKS.out; omega))
      go_wp2_with fail
      generalize hW : wr.alloc (.cells #[.string t, .string p, .int .i64 r, .string q, .int .i64 tm, .bool dd, .int .i64 lc, .int .i64 kd, .int .i64 nn, .string ss] 61) = W at *
      refine (KB.out _ (below_tr HBw.out BW1.out)).mono ?_
      rintro e w2 ⟨v2, rfl, hO2, hB2⟩
      have hF2 := (HFl.out.keep BW1.out).keep hB2
      have A2 := Lib.hid (fAdd_any v2 _ g 7 _ w.heap.size w2 hF2 (OwnB.slB hO2) (by show (kyL ⟨t, p, r, q⟩).length ≤ _; have := HKL.out; have := HKS.out; omega) (Nat.le_trans HBw.out.size (Nat.le_trans BW1.out.size hB2.size)))
      have HB2 := Lib.hid (below_tr (below_tr HBw.out BW1.out) hB2)
      clear hF2 hO2 hB2 hW
      go_wp2_with fail
      refine A2.out.mono ?_
      rintro e w3 ⟨rfl, hF3, hB3⟩
      have HF3 := Lib.hid hF3; have HB3 := Lib.hid (HB2.out.trans hB3)
      clear hF3 hB3
      go_wp2_with fail
      exact ⟨⟨i + 1, by first | rfl | go_num, by omega, by rw [EN.out, fillF_snoc]; exact HF3.out, HB3.out⟩, by simp [intOf]; omega⟩
    · have hz : ¬ (i : Int) < (L.length : Int) := by omega
      have FIN := Lib.hid (show FlU 124 w.heap.size wr g 7 (bitsL L) by rw [HB.out]; have := HFl.out; rwa [List.take_of_length_le (by omega)] at this)
      clear HFl
      go_wp2_with fail
      go_ret
      exact ⟨g, rfl, FIN.out, HBw.out⟩

set_option maxHeartbeats 1000000 in
theorem rfilter_any (v : Value) (L : List Cel) (w : World) (he : Env w) (hv : SlX eC w.heap.size w v L) (hk : KeyS L) (hn : L.length ≤ 20000) :
    Calls Tryz.prog 51 #[v] w fun e w' => ∃ g, e = .returned (.pointer (some ⟨g, 0, none⟩)) ∧ FlU 131 w.heap.size w' g 7 (bitsL L) ∧ Below w.heap.size w w' := by
  have HV := Lib.hid hv
  obtain ⟨a, cap, rfl, hc, hx⟩ := hv.ex
  have HX := Lib.hid hx; clear hx hv
  have HK := Lib.hid hk; clear hk
  have HE := Lib.hid he; clear he
  have N0 := Lib.hid (rfNew_any L.length w hn)
  have HB := Lib.hid (show bitsL L = fillF (keysL L) (newF L.length) by unfold bitsL filtF keysL; simp)
  go_enter Tryz.func51, Tryz.ntmps51
  go_wp2_with fail
  refine N0.out.mono ?_
  rintro e w1 ⟨g, rfl, hF1, hB1⟩
  have HF1 := Lib.hid hF1; have HB1 := Lib.hid hB1
  clear hF1 hB1
  go_wp2_with fail
  go_loopw [5, 11] (fun _ v11 wr => ∃ i : Nat, v11 = .int .i64 (i : Int) ∧ i ≤ L.length ∧ FlU 131 w.heap.size wr g 7 (fillF (keysL (L.take i)) (newF L.length)) ∧ Below w.heap.size w wr) (fun _ v11 _ => L.length - (intOf v11).toNat)
  case atStart => exact ⟨0, rfl, by omega, HF1.out, HB1.out⟩
  case round =>
    obtain ⟨i, rfl, hi, HF, hb⟩ := hrel
    have HBw := Lib.hid hb; have HFl := Lib.hid HF; clear hb HF
    by_cases hlt : i < L.length
    · have hz : (i : Int) < (L.length : Int) := by omega
      obtain ⟨gl, o, rfl, hgl2, _⟩ := HX.out (by omega)
      have ten := (Ten.of HV.out i hlt).keep HBw.out
      have KS := HK.out L[i] (List.getElem_mem hlt)
      have EN := Lib.hid (show keysL (L.take (i + 1)) = keysL (L.take i) ++ [kyL L[i].k] by unfold keysL; rw [List.take_succ_eq_append_getElem hlt, List.map_append]; rfl)
      have KL := kyL_len L[i].k
      generalize L[i] = x at *
      obtain ⟨c0, c1, c2, c3, c4, c5, c6, c7, c8, c9⟩ := ten
      have B1 := Lib.hid (Blk.new wr 61 (celEnc x).toArray)
      have BW1 := Lib.hid (below_alloc (Below.refl _ wr) (.cells (celEnc x).toArray 61))
      obtain ⟨⟨t, p, r, q⟩, ⟨tm, dd, lc, kd, nn, ss⟩⟩ := x
      simp only [celEnc] at *
      have HKS := Lib.hid KS; have HKL := Lib.hid KL; clear KS KL
      have KB := Lib.hid (fun W (h : Below w.heap.size w W) => rBytes_any t p q r W (HE.out.below h) (by have := HKS.out; omega))
      go_wp2_with fail
      generalize hW : wr.alloc (.cells #[.string t, .string p, .int .i64 r, .string q, .int .i64 tm, .bool dd, .int .i64 lc, .int .i64 kd, .int .i64 nn, .string ss] 61) = W at *
      refine (KB.out _ (below_tr HBw.out BW1.out)).mono ?_
      rintro e w2 ⟨v2, rfl, hO2, hB2⟩
      have hF2 := (HFl.out.keep BW1.out).keep hB2
      have A2 := Lib.hid (rfAdd_any v2 _ g 7 _ w.heap.size w2 hF2 (OwnB.slB hO2) (by show (kyL ⟨t, p, r, q⟩).length ≤ _; have := HKL.out; have := HKS.out; omega) (Nat.le_trans HBw.out.size (Nat.le_trans BW1.out.size hB2.size)))
      have HB2 := Lib.hid (below_tr (below_tr HBw.out BW1.out) hB2)
      clear hF2 hO2 hB2 hW
      go_wp2_with fail
      refine A2.out.mono ?_
      rintro e w3 ⟨rfl, hF3, hB3⟩
      have HF3 := Lib.hid hF3; have HB3 := Lib.hid (HB2.out.trans hB3)
      clear hF3 hB3
      go_wp2_with fail
      exact ⟨⟨i + 1, by first | rfl | go_num, by omega, by rw [EN.out, fillF_snoc]; exact HF3.out, HB3.out⟩, by simp [intOf]; omega⟩
    · have hz : ¬ (i : Int) < (L.length : Int) := by omega
      have FIN := Lib.hid (show FlU 131 w.heap.size wr g 7 (bitsL L) by rw [HB.out]; have := HFl.out; rwa [List.take_of_length_le (by omega)] at this)
      clear HFl
      go_wp2_with fail
      go_ret
      exact ⟨g, rfl, FIN.out, HBw.out⟩
end Go.Proofs.YtplghaoflmaadaaGreatDoor
end
