/- Contracts of cell.fold's join and of cell.Norm, at any cells. Condition: room (the row's own bound). -/
import Derived.Test.YtmjeifbadjdnfaaDoorWc
import Derived.Test.YtmjeifbadjdnfaaDoorHe
import Derived.Deep.MidRow
set_option linter.unusedVariables false
set_option linter.unusedSimpArgs false
set_option maxRecDepth 50000
namespace Go.Proofs.YtmjeifbadjdnfaaDoor
open Go.RowKit Go.Sort
open Go.Lib hiding intOf

/-- an element is stored, at a plain list of operations -/
theorem st_el {α : Type} {E : El α} {ops : Array Oper} {rest : List Oper} {o : Oper} {a : Act} {Q : Exit → Act → World → Prop} {W : World} (hgd : o.guard = none) (x y : Operand) (ho : o.op = .store E.t x y)
    (base g k n c : Nat) (l : List α) (v : α) (hx : a.eval x = .pointer (some ⟨g, k * E.size, none⟩)) (hy : a.eval y = .agg (E.enc v).toArray) (HO : OwnX E W base (.slice (some ⟨g, 0, none⟩) n c) l) (hk : k < l.length)
    (h : ∀ w1, OwnX E w1 base (.slice (some ⟨g, 0, none⟩) n c) (l.set k v) → W.grownBy w1 (some g) → wpList Tryd.prog ops Q rest (a.put o.dst undef) w1) : wpList Tryd.prog ops Q (o :: rest) a W := by
  obtain ⟨i0, hi, hz0, hz1, hz2⟩ := info_parts E.info
  have hth : W.there g (k * E.size) (E.enc v).toArray.size := fun j hj => by
    have hj' : j < E.size := by simpa [E.len] using hj
    refine ⟨?_, HO.frozen _⟩
    rw [HO.cell k j hk (u := (E.enc l[k])[j]'(by rw [E.len]; exact hj')) (List.getElem?_eq_getElem _)]; rfl
  refine wpList_store_mid hgd E.t x y ho g (k * E.size) (E.enc v).toArray hx hy hth (by rw [hi]; simp [hz1, E.len]) (all_oneCell_toArray (E.one v)) ?_
  obtain ⟨_, h2, h3⟩ := OwnX.sto (P := Tryd.prog) HO k hk v
  exact h _ h2 h3
theorem OwnX.ten {w : World} {base g n c : Nat} {l : List Cel} (h : OwnX eC w base (.slice (some ⟨g, 0, none⟩) n c) l) (i : Nat) (hi : i < l.length) : Ten w g (i * 10) l[i] :=
  ⟨h.cell i 0 hi rfl, h.cell i 1 hi rfl, h.cell i 2 hi rfl, h.cell i 3 hi rfl, h.cell i 4 hi rfl, h.cell i 5 hi rfl, h.cell i 6 hi rfl, h.cell i 7 hi rfl, h.cell i 8 hi rfl, h.cell i 9 hi rfl⟩
theorem Blk.put10 {w : World} {g : Nat} {t : TypeId} {a0 a1 a2 a3 a4 a5 a6 a7 a8 a9 : Value} (h : Blk w g t #[a0, a1, a2, a3, a4, a5, a6, a7, a8, a9]) (u0 u1 u2 u3 u4 u5 u6 u7 u8 u9 : Value) :
    Blk ((((((((((w.setCell ⟨g, 0, none⟩ u0).setCell ⟨g, 1, none⟩ u1).setCell ⟨g, 2, none⟩ u2).setCell ⟨g, 3, none⟩ u3).setCell ⟨g, 4, none⟩ u4).setCell ⟨g, 5, none⟩ u5).setCell ⟨g, 6, none⟩ u6).setCell ⟨g, 7, none⟩ u7).setCell ⟨g, 8, none⟩ u8).setCell ⟨g, 9, none⟩ u9) g t #[u0, u1, u2, u3, u4, u5, u6, u7, u8, u9] := by
  have h0 : Blk (w.setCell ⟨g, 0, none⟩ u0) g t #[u0, a1, a2, a3, a4, a5, a6, a7, a8, a9] := h.put 0 u0
  have h1 : Blk ((w.setCell ⟨g, 0, none⟩ u0).setCell ⟨g, 1, none⟩ u1) g t #[u0, u1, a2, a3, a4, a5, a6, a7, a8, a9] := h0.put 1 u1
  have h2 : Blk (((w.setCell ⟨g, 0, none⟩ u0).setCell ⟨g, 1, none⟩ u1).setCell ⟨g, 2, none⟩ u2) g t #[u0, u1, u2, a3, a4, a5, a6, a7, a8, a9] := h1.put 2 u2
  have h3 : Blk ((((w.setCell ⟨g, 0, none⟩ u0).setCell ⟨g, 1, none⟩ u1).setCell ⟨g, 2, none⟩ u2).setCell ⟨g, 3, none⟩ u3) g t #[u0, u1, u2, u3, a4, a5, a6, a7, a8, a9] := h2.put 3 u3
  have h4 : Blk (((((w.setCell ⟨g, 0, none⟩ u0).setCell ⟨g, 1, none⟩ u1).setCell ⟨g, 2, none⟩ u2).setCell ⟨g, 3, none⟩ u3).setCell ⟨g, 4, none⟩ u4) g t #[u0, u1, u2, u3, u4, a5, a6, a7, a8, a9] := h3.put 4 u4
  have h5 : Blk ((((((w.setCell ⟨g, 0, none⟩ u0).setCell ⟨g, 1, none⟩ u1).setCell ⟨g, 2, none⟩ u2).setCell ⟨g, 3, none⟩ u3).setCell ⟨g, 4, none⟩ u4).setCell ⟨g, 5, none⟩ u5) g t #[u0, u1, u2, u3, u4, u5, a6, a7, a8, a9] := h4.put 5 u5
  have h6 : Blk (((((((w.setCell ⟨g, 0, none⟩ u0).setCell ⟨g, 1, none⟩ u1).setCell ⟨g, 2, none⟩ u2).setCell ⟨g, 3, none⟩ u3).setCell ⟨g, 4, none⟩ u4).setCell ⟨g, 5, none⟩ u5).setCell ⟨g, 6, none⟩ u6) g t #[u0, u1, u2, u3, u4, u5, u6, a7, a8, a9] := h5.put 6 u6
  have h7 : Blk ((((((((w.setCell ⟨g, 0, none⟩ u0).setCell ⟨g, 1, none⟩ u1).setCell ⟨g, 2, none⟩ u2).setCell ⟨g, 3, none⟩ u3).setCell ⟨g, 4, none⟩ u4).setCell ⟨g, 5, none⟩ u5).setCell ⟨g, 6, none⟩ u6).setCell ⟨g, 7, none⟩ u7) g t #[u0, u1, u2, u3, u4, u5, u6, u7, a8, a9] := h6.put 7 u7
  have h8 : Blk (((((((((w.setCell ⟨g, 0, none⟩ u0).setCell ⟨g, 1, none⟩ u1).setCell ⟨g, 2, none⟩ u2).setCell ⟨g, 3, none⟩ u3).setCell ⟨g, 4, none⟩ u4).setCell ⟨g, 5, none⟩ u5).setCell ⟨g, 6, none⟩ u6).setCell ⟨g, 7, none⟩ u7).setCell ⟨g, 8, none⟩ u8) g t #[u0, u1, u2, u3, u4, u5, u6, u7, u8, a9] := h7.put 8 u8
  have h9 : Blk ((((((((((w.setCell ⟨g, 0, none⟩ u0).setCell ⟨g, 1, none⟩ u1).setCell ⟨g, 2, none⟩ u2).setCell ⟨g, 3, none⟩ u3).setCell ⟨g, 4, none⟩ u4).setCell ⟨g, 5, none⟩ u5).setCell ⟨g, 6, none⟩ u6).setCell ⟨g, 7, none⟩ u7).setCell ⟨g, 8, none⟩ u8).setCell ⟨g, 9, none⟩ u9) g t #[u0, u1, u2, u3, u4, u5, u6, u7, u8, u9] := h8.put 9 u9
  exact h9
theorem Blk.ten {w : World} {g : Nat} {t : TypeId} {x : Cel} (h : Blk w g t (celEnc x).toArray) : Ten w g 0 x :=
  ⟨h.cell 0 rfl, h.cell 1 rfl, h.cell 2 rfl, h.cell 3 rfl, h.cell 4 rfl, h.cell 5 rfl, h.cell 6 rfl, h.cell 7 rfl, h.cell 8 rfl, h.cell 9 rfl⟩

set_option maxHeartbeats 2000000 in
theorem norm3_c (a b : Cel) (w : World) : Calls Tryd.prog 85 #[.agg (celEnc a).toArray, .agg (celEnc b).toArray] w fun e w' => e = .returned (.agg (celEnc ⟨a.k, joinP a.v b.v⟩).toArray) ∧ Below w.heap.size w w' := by
  have q := fun W => QP.of (P := Tryd.prog) (W := W) fun W' _ => join_any a.v b.v W'
  have b1 := (((Blk.new w 35 (celEnc a).toArray).alloc (.cells (celEnc b).toArray 35)).alloc (.cells zCel.cells 35)).ten
  have b2 := ((Blk.new (w.alloc (.cells (celEnc a).toArray 35)) 35 (celEnc b).toArray).alloc (.cells zCel.cells 35)).ten
  have b3 := Blk.new ((w.alloc (.cells (celEnc a).toArray 35)).alloc (.cells (celEnc b).toArray 35)) 35 zCel.cells
  have B0 := below_alloc (below_alloc (below_alloc (Below.refl _ w) (.cells (celEnc a).toArray 35)) (.cells (celEnc b).toArray 35)) (.cells zCel.cells 35)
  rw [show (w.alloc (.cells (celEnc a).toArray 35)).heap.size = w.heap.size + 1 by simp] at b2
  rw [show ((w.alloc (.cells (celEnc a).toArray 35)).alloc (.cells (celEnc b).toArray 35)).heap.size = w.heap.size + 1 + 1 by simp] at b3
  generalize joinP a.v b.v = j at *
  obtain ⟨⟨t, p, r, c⟩, ⟨x1, x2, x3, x4, x5, x6⟩⟩ := a
  obtain ⟨⟨t', p', r', c'⟩, ⟨y1, y2, y3, y4, y5, y6⟩⟩ := b
  obtain ⟨j1, j2, j3, j4, j5, j6⟩ := j
  have HB0 := Lib.hid B0; have B1 := Lib.hid b1; have B2 := Lib.hid b2; have B3 := Lib.hid b3; have Q1 := Lib.hid q
  clear b1 b2 b3 B0 q
  simp only [celEnc, vrEnc, zCel, Value.cells] at *
  go_enter Tryd.func85, Tryd.ntmps85
  go_wp2_with fail
  generalize ((w.alloc (.cells #[.string t, .string p, .int .i64 r, .string c, .int .i64 x1, .bool x2, .int .i64 x3, .int .i64 x4, .int .i64 x5, .string x6] 35)).alloc (.cells #[.string t', .string p', .int .i64 r', .string c', .int .i64 y1, .bool y2, .int .i64 y3, .int .i64 y4, .int .i64 y5, .string y6] 35)).alloc (.cells #[.string ⟨#[]⟩, .string ⟨#[]⟩, .int .i64 0, .string ⟨#[]⟩, .int .i64 0, .bool false, .int .i64 0, .int .i64 0, .int .i64 0, .string ⟨#[]⟩] 35) = W at *
  have q1 := Lib.hid (Q1.out W)
  have k1 := fun dr os => (B1.out.keep (below_regrown W dr os))
  have k2 := fun dr os => (B2.out.keep (below_regrown W dr os))
  have f0 := fun dr os => (k1 dr os).c0; have f1 := fun dr os => (k1 dr os).c1; have f2 := fun dr os => (k1 dr os).c2; have f3 := fun dr os => (k1 dr os).c3; have f4 := fun dr os => (k1 dr os).c4
  have f5 := fun dr os => (k1 dr os).c5; have f6 := fun dr os => (k1 dr os).c6; have f7 := fun dr os => (k1 dr os).c7; have f8 := fun dr os => (k1 dr os).c8; have f9 := fun dr os => (k1 dr os).c9
  have g4 := fun dr os => (k2 dr os).c4
  have g5 := fun dr os => (k2 dr os).c5; have g6 := fun dr os => (k2 dr os).c6; have g7 := fun dr os => (k2 dr os).c7; have g8 := fun dr os => (k2 dr os).c8; have g9 := fun dr os => (k2 dr os).c9
  simp only [Nat.zero_add] at f0 f1 f2 f3 f4 f5 f6 f7 f8 f9 g4 g5 g6 g7 g8 g9
  clear k1 k2
  refine wp_region_quiet_tail 7 (by kernel_rfl) (by kernel_rfl) ?_
  simp only [List.take_succ_cons, List.take_zero, List.drop_succ_cons, List.drop_zero]
  repeat (quiet_step (first | with_reducible exact q1.out.at _ _))
  refine wpQuiet_nil ?_
  intro w3 hw3
  have hb3 := regrown_below hw3
  have b3 := B3.out.below hb3
  have HB := Lib.hid (below_tr HB0.out hb3)
  have z0 := b3.cell 0 rfl; have z1 := b3.cell 1 rfl; have z2 := b3.cell 2 rfl; have z3 := b3.cell 3 rfl; have z4 := b3.cell 4 rfl; have z5 := b3.cell 5 rfl; have z6 := b3.cell 6 rfl; have z7 := b3.cell 7 rfl; have z8 := b3.cell 8 rfl; have z9 := b3.cell 9 rfl
  have fz := b3.frozen
  have Z := Lib.hid b3
  clear hw3 hb3 b3 f0 f1 f2 f3 f4 f5 f6 f7 f8 f9 g4 g5 g6 g7 g8 g9 q1
  go_wp2_with fail
  refine ret_gen (fun w2 => Blk w2 (w.heap.size + 1 + 1) 35 #[.string t, .string p, .int .i64 r, .string c, .int .i64 j1, .bool j2, .int .i64 j3, .int .i64 j4, .int .i64 j5, .string j6] ∧ Below w.heap.size w w2) ⟨Z.out.put10 _ _ _ _ _ _ _ _ _ _, by repeat (first | with_reducible exact HB.out | refine Below.setCell ?_ (by simp; try omega) _)⟩ ?_
  rintro w2 ⟨bk, hb2⟩
  exact bodyPost_ret (v := .agg #[.string t, .string p, .int .i64 r, .string c, .int .i64 j1, .bool j2, .int .i64 j3, .int .i64 j4, .int .i64 j5, .string j6]) (by simp [results, Tryd.results85, go_sem, bk.cell 0 rfl, bk.cell 1 rfl, bk.cell 2 rfl, bk.cell 3 rfl, bk.cell 4 rfl, bk.cell 5 rfl, bk.cell 6 rfl, bk.cell 7 rfl, bk.cell 8 rfl, bk.cell 9 rfl]) rfl ⟨rfl, hb2⟩
end Go.Proofs.YtmjeifbadjdnfaaDoor
