/- The law PurgeNever. Condition: the numbers are ints. -/
import Derived.Test.YtmjeifbadjdnfaaDoorHg
import Derived.Lib.QuietBelow
set_option linter.unusedVariables false
set_option linter.unusedSimpArgs false
set_option maxRecDepth 50000
namespace Go.Proofs.YtmjeifbadjdnfaaDoor
open Go.RowKit Go.Lib Go.Sort

/-- A callee's contract, in every world that W grows into. -/
def QC (W : World) (f : FuncId) (args : Array Value) (v : Value) : Prop := ∀ d os, Calls Tryd.prog f args (grow (redrawn W d) os) fun e w'' => e = .returned v ∧ ∃ p : Regrown, w'' = grow (redrawn W p.d) p.os
theorem QC.of {W : World} {f : FuncId} {args : Array Value} {v : Value} (h : ∀ W', Below W.heap.size W W' → Calls Tryd.prog f args W' fun e w' => e = .returned v ∧ Below W'.heap.size W' w') : QC W f args v :=
  fun d os => Calls.regrown_of (h _ (below_regrown W d os))
theorem QC.same {W : World} {f : FuncId} {args : Array Value} {v : Value} (h : ∀ W', Calls Tryd.prog f args W' fun e w' => e = .returned v ∧ W' = w') : QC W f args v :=
  QC.of fun W' _ => (h W').mono fun e w' ⟨h1, h2⟩ => ⟨h1, by subst h2; exact Below.refl _ _⟩
theorem QC.at {W : World} {f : FuncId} {args : Array Value} {v : Value} (h : QC W f args v) (d : Nat) (os : Array Obj) : Calls Tryd.prog f args (grow (redrawn W d) os) fun e w'' => e = .returned v ∧ ∃ p : Regrown, w'' = grow (redrawn W p.d) p.os := h d os

/-- a version's cells and a time's -/
structure VB (W : World) (g h : Nat) (t : Int) (d : Bool) (l k n : Int) (s : ByteArray) (now gr : Int) : Prop where
  c0 : W.cell? ⟨g, 0, none⟩ = some (.int .i64 t)
  c1 : W.cell? ⟨g, 1, none⟩ = some (.bool d)
  c2 : W.cell? ⟨g, 2, none⟩ = some (.int .i64 l)
  c3 : W.cell? ⟨g, 3, none⟩ = some (.int .i64 k)
  c4 : W.cell? ⟨g, 4, none⟩ = some (.int .i64 n)
  c5 : W.cell? ⟨g, 5, none⟩ = some (.string s)
  w0 : W.cell? ⟨h, 0, none⟩ = some (.int .i64 now)
  w1 : W.cell? ⟨h, 1, none⟩ = some (.int .i64 gr)
theorem VB.keep {W W' : World} {g h : Nat} {t : Int} {d : Bool} {l k n : Int} {s : ByteArray} {now gr : Int} (b : VB W g h t d l k n s now gr) (hb : Below W.heap.size W W') : VB W' g h t d l k n s now gr :=
  ⟨cell_keep hb b.c0, cell_keep hb b.c1, cell_keep hb b.c2, cell_keep hb b.c3, cell_keep hb b.c4, cell_keep hb b.c5, cell_keep hb b.w0, cell_keep hb b.w1⟩
set_option maxHeartbeats 4000000 in
theorem PurgeNever_walk (v : Vr) (now g : Int) (w : World) (h1 : In64 v.loc) (h2 : In64 now) (h3 : In64 g) :
    Calls Tryd.prog 4 #[.agg (vrEnc v).toArray, .agg #[.int .i64 now, .int .i64 g]] w fun e w' => e = .returned (.bool true) ∧ Below w.heap.size w w' := by
  have LV := Lib.hid (fun W => lives11_any W)
  have O1 := Lib.hid (fun W => Old_any v now g W h1 h2 h3)
  have O2 := Lib.hid (fun W => Old_any v now 0 W h1 h2 (by unfold In64; omega))
  have e0 : v.dead = false → oldV v now g = false := fun h => by simp [oldV, h]
  have e1 : v.dead = true → oldV v now 0 = decide (v.loc ≤ now) := fun h => by
    unfold oldV; rw [h, Bool.true_and, Bool.eq_iff_iff]; simp only [Bool.and_eq_true, decide_eq_true_eq]; omega
  have e2 : g < 0 → oldV v now g = oldV v now 0 := fun h => by
    unfold oldV; rw [show max g 0 = 0 by omega]; simp
  have e3 : oldV v now g = true → v.loc ≤ now := fun h => by
    unfold oldV at h; simp only [Bool.and_eq_true, decide_eq_true_eq] at h; exact h.2.1
  have hb0 := below_alloc (below_alloc (Below.refl _ w) (.cells (vrEnc v).toArray 33)) (.cells #[.int .i64 now, .int .i64 g] 25)
  have HB0 := Lib.hid hb0
  have k1 := (Blk.new w 33 (vrEnc v).toArray).alloc (.cells #[.int .i64 now, .int .i64 g] 25)
  have k2 := Blk.new (w.alloc (.cells (vrEnc v).toArray 33)) 25 #[.int .i64 now, .int .i64 g]
  rw [show (w.alloc (.cells (vrEnc v).toArray 33)).heap.size = w.heap.size + 1 by simp] at k2
  generalize oldV v now g = r at *
  generalize oldV v now 0 = r0 at *
  obtain ⟨t, d, l, k, n, s⟩ := v
  simp only [vrEnc] at *
  have K1 := Lib.hid k1; have K2 := Lib.hid k2
  clear h1 h2 h3 hb0 k1 k2
  go_enter Tryd.func4, Tryd.ntmps4
  go_wp2_with fail
  have VB0 := Lib.hid (VB.mk (W := (w.alloc (.cells #[.int .i64 t, .bool d, .int .i64 l, .int .i64 k, .int .i64 n, .string s] 33)).alloc (.cells #[.int .i64 now, .int .i64 g] 25)) (K1.out.cell 0 rfl) (K1.out.cell 1 rfl) (K1.out.cell 2 rfl) (K1.out.cell 3 rfl) (K1.out.cell 4 rfl) (K1.out.cell 5 rfl) (K2.out.cell 0 rfl) (K2.out.cell 1 rfl))
  generalize ((w.alloc (.cells #[.int .i64 t, .bool d, .int .i64 l, .int .i64 k, .int .i64 n, .string s] 33)).alloc (.cells #[.int .i64 now, .int .i64 g] 25)) = W at *
  refine (O1.out _).mono ?_
  rintro e w1 ⟨rfl, hb1⟩
  have HB1 := Lib.hid hb1; clear hb1 K1 K2
  obtain ⟨c0, c1, c2, c3, c4, c5, x0, x1⟩ := VB0.out.keep HB1.out
  cases d with
  | false =>
    obtain rfl : r = false := e0 rfl
    clear e0 e1 e2 e3
    go_wp2_with fail
    refine (LV.out _).mono ?_
    rintro e w2 ⟨rfl, hb2⟩
    go_wp2_with fail
    go_ret
    exact ⟨rfl, below_tr HB0.out (below_tr HB1.out hb2)⟩
  | true =>
    have e1' := e1 rfl
    have E1 := Lib.hid e1'; have E2 := Lib.hid e2; have E3 := Lib.hid e3
    clear e0 e1 e2 e3 e1'
    by_cases hg : g < 0
    · have er := E2.out hg
      subst er
      clear E2 E3
      go_wp2_with fail
      refine (O2.out _).mono ?_
      rintro e w2 ⟨rfl, hb2⟩
      have HB2 := Lib.hid (below_tr HB1.out hb2); clear hb2 HB1
      by_cases hl : l ≤ now
      · obtain rfl : r = true := by rw [E1.out]; exact decide_eq_true hl
        clear c0 c1 c2 c3 c4 c5 x0 x1
        obtain ⟨y0, y1, y2, y3, y4, y5, z0, z1⟩ := VB0.out.keep HB2.out
        have vb := fun d os => ((VB0.out.keep HB2.out).keep (below_regrown w2 d os))
        have c0 := fun d os => (vb d os).c0; have c1 := fun d os => (vb d os).c1; have c2 := fun d os => (vb d os).c2; have c3 := fun d os => (vb d os).c3
        have c4 := fun d os => (vb d os).c4; have c5 := fun d os => (vb d os).c5; have x0 := fun d os => (vb d os).w0; have x1 := fun d os => (vb d os).w1
        clear vb
        have q1 := Lib.hid (QC.of (W := w2) fun W' h => O2.out W')
        have q2 := Lib.hid (QC.of (W := w2) fun W' h => LV.out W')
        go_wp2_with fail
        refine wp_region_quiet_below (by kernel_rfl) (by kernel_rfl) ?_
        repeat (quiet_step (first | with_reducible exact q1.out.at _ _ | with_reducible exact q2.out.at _ _))
        refine wpQuiet_nil ?_
        intro w3 hw3
        have hb3 : Below w2.heap.size w2 w3 := by obtain ⟨p, rfl⟩ := hw3; exact below_regrown _ _ _
        clear hw3
        go_wp2_with fail
        go_ret
        exact ⟨rfl, below_tr HB0.out (below_tr HB2.out hb3)⟩
      · obtain rfl : r = false := by rw [E1.out]; exact decide_eq_false hl
        have hl2 : decide (now ≥ l) = false := decide_eq_false hl
        have hl3 : now < l := by omega
        clear c0 c1 c2 c3 c4 c5 x0 x1
        obtain ⟨y0, y1, y2, y3, y4, y5, z0, z1⟩ := VB0.out.keep HB2.out
        have vb := fun d os => ((VB0.out.keep HB2.out).keep (below_regrown w2 d os))
        have c0 := fun d os => (vb d os).c0; have c1 := fun d os => (vb d os).c1; have c2 := fun d os => (vb d os).c2; have c3 := fun d os => (vb d os).c3
        have c4 := fun d os => (vb d os).c4; have c5 := fun d os => (vb d os).c5; have x0 := fun d os => (vb d os).w0; have x1 := fun d os => (vb d os).w1
        clear vb
        have q1 := Lib.hid (QC.of (W := w2) fun W' h => O2.out W')
        have q2 := Lib.hid (QC.of (W := w2) fun W' h => LV.out W')
        go_wp2_with fail
        refine wp_region_quiet_below (by kernel_rfl) (by kernel_rfl) ?_
        repeat (quiet_step (first | with_reducible exact q1.out.at _ _ | with_reducible exact q2.out.at _ _))
        refine wpQuiet_nil ?_
        intro w3 hw3
        have hb3 : Below w2.heap.size w2 w3 := by obtain ⟨p, rfl⟩ := hw3; exact below_regrown _ _ _
        clear hw3
        go_wp2_with fail
        go_ret
        exact ⟨rfl, below_tr HB0.out (below_tr HB2.out hb3)⟩
    · clear E2
      by_cases hl : l ≤ now
      · obtain rfl : r0 = true := by rw [E1.out]; exact decide_eq_true hl
        cases r with
        | true =>
          clear c0 c1 c2 c3 c4 c5 x0 x1
          obtain ⟨y0, y1, y2, y3, y4, y5, z0, z1⟩ := VB0.out.keep HB1.out
          have vb := fun d os => ((VB0.out.keep HB1.out).keep (below_regrown w1 d os))
          have c0 := fun d os => (vb d os).c0; have c1 := fun d os => (vb d os).c1; have c2 := fun d os => (vb d os).c2; have c3 := fun d os => (vb d os).c3
          have c4 := fun d os => (vb d os).c4; have c5 := fun d os => (vb d os).c5; have x0 := fun d os => (vb d os).w0; have x1 := fun d os => (vb d os).w1
          clear vb
          have q1 := Lib.hid (QC.of (W := w1) fun W' h => O2.out W')
          have q2 := Lib.hid (QC.of (W := w1) fun W' h => LV.out W')
          go_wp2_with fail
          refine wp_region_quiet_below (by kernel_rfl) (by kernel_rfl) ?_
          repeat (quiet_step (first | with_reducible exact q1.out.at _ _ | with_reducible exact q2.out.at _ _))
          refine wpQuiet_nil ?_
          intro w3 hw3
          have hb3 : Below w1.heap.size w1 w3 := by obtain ⟨p, rfl⟩ := hw3; exact below_regrown _ _ _
          clear hw3
          go_wp2_with fail
          go_ret
          exact ⟨rfl, below_tr HB0.out (below_tr HB1.out hb3)⟩
        | false =>
          clear c0 c1 c2 c3 c4 c5 x0 x1
          obtain ⟨y0, y1, y2, y3, y4, y5, z0, z1⟩ := VB0.out.keep HB1.out
          have vb := fun d os => ((VB0.out.keep HB1.out).keep (below_regrown w1 d os))
          have c0 := fun d os => (vb d os).c0; have c1 := fun d os => (vb d os).c1; have c2 := fun d os => (vb d os).c2; have c3 := fun d os => (vb d os).c3
          have c4 := fun d os => (vb d os).c4; have c5 := fun d os => (vb d os).c5; have x0 := fun d os => (vb d os).w0; have x1 := fun d os => (vb d os).w1
          clear vb
          have q1 := Lib.hid (QC.of (W := w1) fun W' h => O2.out W')
          have q2 := Lib.hid (QC.of (W := w1) fun W' h => LV.out W')
          go_wp2_with fail
          refine wp_region_quiet_below (by kernel_rfl) (by kernel_rfl) ?_
          repeat (quiet_step (first | with_reducible exact q1.out.at _ _ | with_reducible exact q2.out.at _ _))
          refine wpQuiet_nil ?_
          intro w3 hw3
          have hb3 : Below w1.heap.size w1 w3 := by obtain ⟨p, rfl⟩ := hw3; exact below_regrown _ _ _
          clear hw3
          go_wp2_with fail
          go_ret
          exact ⟨rfl, below_tr HB0.out (below_tr HB1.out hb3)⟩
      · obtain rfl : r0 = false := by rw [E1.out]; exact decide_eq_false hl
        obtain rfl : r = false := by
          cases r with
          | false => rfl
          | true => exact absurd (E3.out rfl) hl
        have hl2 : decide (now ≥ l) = false := decide_eq_false hl
        have hl3 : now < l := by omega
        clear c0 c1 c2 c3 c4 c5 x0 x1
        obtain ⟨y0, y1, y2, y3, y4, y5, z0, z1⟩ := VB0.out.keep HB1.out
        have vb := fun d os => ((VB0.out.keep HB1.out).keep (below_regrown w1 d os))
        have c0 := fun d os => (vb d os).c0; have c1 := fun d os => (vb d os).c1; have c2 := fun d os => (vb d os).c2; have c3 := fun d os => (vb d os).c3
        have c4 := fun d os => (vb d os).c4; have c5 := fun d os => (vb d os).c5; have x0 := fun d os => (vb d os).w0; have x1 := fun d os => (vb d os).w1
        clear vb
        have q1 := Lib.hid (QC.of (W := w1) fun W' h => O2.out W')
        have q2 := Lib.hid (QC.of (W := w1) fun W' h => LV.out W')
        go_wp2_with fail
        refine wp_region_quiet_below (by kernel_rfl) (by kernel_rfl) ?_
        repeat (quiet_step (first | with_reducible exact q1.out.at _ _ | with_reducible exact q2.out.at _ _))
        refine wpQuiet_nil ?_
        intro w3 hw3
        have hb3 : Below w1.heap.size w1 w3 := by obtain ⟨p, rfl⟩ := hw3; exact below_regrown _ _ _
        clear hw3
        go_wp2_with fail
        go_ret
        exact ⟨rfl, below_tr HB0.out (below_tr HB1.out hb3)⟩
end Go.Proofs.YtmjeifbadjdnfaaDoor
