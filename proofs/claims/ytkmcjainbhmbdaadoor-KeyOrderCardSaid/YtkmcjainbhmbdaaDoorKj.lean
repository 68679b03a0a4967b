/- The laws KeyPrints and KeyTells, walked: each returns true. Conditions: texts take at most the form's reach; numbers are of int64. -/
import Derived.Test.YtkmcjainbhmbdaaDoorKi
import Derived.Test.YtkmcjainbhmbdaaDoorPn
set_option linter.unusedVariables false
set_option linter.unusedSimpArgs false
set_option maxRecDepth 50000
namespace Go.Proofs.YtkmcjainbhmbdaaDoor
open Go.RowKit Go.Lib Go.Sort

/-- A callee's contract, in every world that W grows into. -/
def QC (W : World) (f : FuncId) (args : Array Value) (v : Value) : Prop := ∀ d os, Calls Tryd.prog f args (grow (redrawn W d) os) fun e w'' => e = .returned v ∧ ∃ p : Regrown, w'' = grow (redrawn W p.d) p.os
theorem QC.of {W : World} {f : FuncId} {args : Array Value} {v : Value} (h : ∀ W', Below W.heap.size W W' → Calls Tryd.prog f args W' fun e w' => e = .returned v ∧ Below W'.heap.size W' w') : QC W f args v :=
  fun d os => Calls.regrown_of (h _ (below_regrown W d os))
theorem QC.same {W : World} {f : FuncId} {args : Array Value} {v : Value} (h : ∀ W', Calls Tryd.prog f args W' fun e w' => e = .returned v ∧ W' = w') : QC W f args v :=
  QC.of fun W' _ => (h W').mono fun e w' ⟨h1, h2⟩ => ⟨h1, by subst h2; exact Below.refl _ _⟩
theorem QC.at {W : World} {f : FuncId} {args : Array Value} {v : Value} (h : QC W f args v) (d : Nat) (os : Array Obj) : Calls Tryd.prog f args (grow (redrawn W d) os) fun e w'' => e = .returned v ∧ ∃ p : Regrown, w'' = grow (redrawn W p.d) p.os := h d os

theorem great_any (t p c : ByteArray) (r : Int) (w : World) (h1 : t.size ≤ reachBytes) (h2 : p.size ≤ reachBytes) (h3 : c.size ≤ reachBytes) :
    Calls Tryd.prog 39 #[.agg #[.string t, .string p, .int .i64 r, .string c]] w fun e w' => e = .returned (.bool (decide (5000 < (t.size : Int) + p.size + c.size))) ∧ Below w.heap.size w w' := by
  have e : reachBytes = 140737488351232 := by decide
  rw [e] at h1 h2 h3
  clear e
  go_enter Tryd.func39, Tryd.ntmps39
  go_wp2_with fail
  go_ret
  exact ⟨rfl, by (repeat (first | exact Below.refl _ _ | assumption | refine below_alloc ?_ _ | refine Below.drew ?_ | refine below_drewN ?_ _ | refine below_tr ?_ (by assumption)))⟩

set_option maxHeartbeats 2000000 in
theorem KeyPrints_walk (t q c : ByteArray) (r : Int) (t' q' c' : ByteArray) (r' : Int) (w : World) (he : Env w) (x1 : t.size ≤ reachBytes) (x2 : q.size ≤ reachBytes) (x3 : c.size ≤ reachBytes) (x4 : -9223372036854775808 ≤ r) (x5 : r ≤ 9223372036854775807)
    (y1 : t'.size ≤ reachBytes) (y2 : q'.size ≤ reachBytes) (y3 : c'.size ≤ reachBytes) (y4 : -9223372036854775808 ≤ r') (y5 : r' ≤ 9223372036854775807) :
    Calls Tryd.prog 8 #[.agg #[.string t, .string q, .int .i64 r, .string c], .agg #[.string t', .string q', .int .i64 r', .string c']] w
      fun e w' => e = .returned (.bool true) ∧ Below w.heap.size w w' := by
  have G1 := Lib.hid (fun W => great_any t q c r W x1 x2 x3)
  have G2 := Lib.hid (fun W => great_any t' q' c' r' W y1 y2 y3)
  have HL := Lib.hid (fun W hE => lives4 W hE)
  have hb0 := Lib.hid (below_alloc (below_alloc (Below.refl _ w) (.cells #[.string t, .string q, .int .i64 r, .string c] 60)) (.cells #[.string t', .string q', .int .i64 r', .string c'] 60))
  have CA := Lib.hid (KB.mk (W := (w.alloc (.cells #[.string t, .string q, .int .i64 r, .string c] 60)).alloc (.cells #[.string t', .string q', .int .i64 r', .string c'] 60)) (g := w.heap.size) (t := t) (p := q) (c := c) (r := r) (by go_simp) (by go_simp) (by go_simp) (by go_simp))
  have CB := Lib.hid (KB.mk (W := (w.alloc (.cells #[.string t, .string q, .int .i64 r, .string c] 60)).alloc (.cells #[.string t', .string q', .int .i64 r', .string c'] 60)) (g := w.heap.size + 1) (t := t') (p := q') (c := c') (r := r') (by go_simp) (by go_simp) (by go_simp) (by go_simp))
  have he1 := Lib.hid (he.below hb0.out)
  clear he
  by_cases g1 : (5000 : Int) < (t.size : Int) + q.size + c.size
  · go_enter Tryd.func8, Tryd.ntmps8
    go_wp2_with fail
    refine (G1.out _).mono ?_
    rintro e w1 ⟨rfl, hb1⟩
    go_wp2_with fail
    refine (HL.out _ (he1.out.below hb1)).mono ?_
    rintro e w2 ⟨rfl, hb2⟩
    go_wp2
    go_ret
    exact ⟨rfl, below_tr hb0.out (below_tr hb1 hb2)⟩
  by_cases g2 : (5000 : Int) < (t'.size : Int) + q'.size + c'.size
  · go_enter Tryd.func8, Tryd.ntmps8
    go_wp2_with fail
    refine (G1.out _).mono ?_
    rintro e w1 ⟨rfl, hb1⟩
    obtain ⟨b0, b1, b2, b3⟩ := CB.out.keep hb1
    go_wp2_with fail
    refine (G2.out _).mono ?_
    rintro e w2 ⟨rfl, hb2⟩
    have hb2' := below_tr hb1 hb2
    go_wp2_with fail
    refine (HL.out _ (he1.out.below hb2')).mono ?_
    rintro e w3 ⟨rfl, hb3⟩
    go_wp2
    go_ret
    exact ⟨rfl, below_tr hb0.out (below_tr hb2' hb3)⟩
  have hpe : (printL t.toList q.toList r c.toList == printL t'.toList q'.toList r' c'.toList) = keyEq t q r c t' q' r' c' := by
    unfold keyEq
    rw [Bool.eq_iff_iff]; simp only [Bool.and_eq_true, beq_iff_eq, and_true]
    constructor
    · intro h; exact printL_inj _ _ _ _ _ _ _ _ h
    · rintro ⟨e1, e2, e3, e4⟩; rw [e1, e2, e3, e4]
  have hk := fun w => key_eql w t q c t' q' c' r r'
  have P1 : ∀ W, Env W → _ := fun W hE => Print_any t q c r W hE (by omega) x4 x5
  have P2 : ∀ W, Env W → _ := fun W hE => Print_any t' q' c' r' W hE (by omega) y4 y5
  generalize printL t.toList q.toList r c.toList = px at *
  generalize printL t'.toList q'.toList r' c'.toList = py at *
  generalize keyEq t q r c t' q' r' c' = kb at *
  have P1' := Lib.hid P1; have P2' := Lib.hid P2
  clear P1 P2 x1 x2 x3 x4 x5 y1 y2 y3 y4 y5
  go_enter Tryd.func8, Tryd.ntmps8
  go_wp2_with fail
  refine (G1.out _).mono ?_
  rintro e w1 ⟨rfl, hb1⟩
  obtain ⟨b0, b1, b2, b3⟩ := CB.out.keep hb1
  go_wp2_with fail
  refine (G2.out _).mono ?_
  rintro e w2 ⟨rfl, hb2⟩
  have hb2' := below_tr hb1 hb2
  clear b0 b1 b2 b3
  go_wp2_with fail
  have ca := fun d os => ((CA.out.keep hb2').all d os)
  have cb := fun d os => ((CB.out.keep hb2').all d os)
  have a0 := fun d os => (ca d os).c0; have a1 := fun d os => (ca d os).c1; have a2 := fun d os => (ca d os).c2; have a3 := fun d os => (ca d os).c3
  have b0 := fun d os => (cb d os).c0; have b1 := fun d os => (cb d os).c1; have b2 := fun d os => (cb d os).c2; have b3 := fun d os => (cb d os).c3
  have q1 := Lib.hid (QC.of (W := w2) fun W' h => P1'.out W' ((he1.out.below hb2').below h))
  have q2 := Lib.hid (QC.of (W := w2) fun W' h => P2'.out W' ((he1.out.below hb2').below h))
  have q3 := Lib.hid (QC.of (W := w2) fun W' h => HL.out W' ((he1.out.below hb2').below h))
  have HB := Lib.hid hb2'
  clear ca cb hb1 hb2 hb2'
  refine wp_region_quiet_below (by kernel_rfl) (by kernel_rfl) ?_
  repeat (quiet_step (first | with_reducible exact q1.out.at _ _ | with_reducible exact q2.out.at _ _ | with_reducible exact q3.out.at _ _))
  refine wpQuiet_nil ?_
  intro w3 hw3
  have hb3 : Below w2.heap.size w2 w3 := by obtain ⟨p, rfl⟩ := hw3; exact below_regrown _ _ _
  clear hw3
  go_wp2_with fail
  go_ret
  exact ⟨rfl, below_tr hb0.out (below_tr HB.out hb3)⟩

set_option maxHeartbeats 4000000 in
theorem KeyTells_walk (t q c : ByteArray) (r : Int) (s : ByteArray) (w : World) (he : Env w) (x1 : t.size ≤ reachBytes) (x2 : q.size ≤ reachBytes) (x3 : c.size ≤ reachBytes) (x4 : -9223372036854775808 ≤ r) (x5 : r ≤ 9223372036854775807) (y1 : s.size ≤ reachBytes) :
    Calls Tryd.prog 10 #[.agg #[.string t, .string q, .int .i64 r, .string c], .string s] w fun e w' => e = .returned (.bool true) ∧ Below w.heap.size w w' := by
  have er : reachBytes = 140737488351232 := by decide
  have G1 := Lib.hid (fun W => great_any t q c r W x1 x2 x3)
  rw [er] at x1 x2 x3 y1
  have HL := Lib.hid (fun W hE => lives4 W hE)
  have hb0 := Lib.hid (below_alloc (Below.refl _ w) (.cells #[.string t, .string q, .int .i64 r, .string c] 60))
  have CA := Lib.hid (KB.mk (W := (w.alloc (.cells #[.string t, .string q, .int .i64 r, .string c] 60))) (g := w.heap.size) (t := t) (p := q) (c := c) (r := r) (by go_simp) (by go_simp) (by go_simp) (by go_simp))
  have he1 := Lib.hid (he.below hb0.out)
  clear he er
  by_cases g1 : (5000 : Int) < (t.size : Int) + q.size + c.size
  · go_enter Tryd.func10, Tryd.ntmps10
    go_wp2_with fail
    refine (G1.out _).mono ?_
    rintro e w1 ⟨rfl, hb1⟩
    go_wp2_with fail
    refine (HL.out _ (he1.out.below hb1)).mono ?_
    rintro e w2 ⟨rfl, hb2⟩
    go_wp2
    go_ret
    exact ⟨rfl, below_tr hb0.out (below_tr hb1 hb2)⟩
  by_cases g2 : (5000 : Int) < (s.size : Int)
  · go_enter Tryd.func10, Tryd.ntmps10
    go_wp2_with fail
    refine (G1.out _).mono ?_
    rintro e w1 ⟨rfl, hb1⟩
    go_wp2_with fail
    refine (HL.out _ (he1.out.below hb1)).mono ?_
    rintro e w2 ⟨rfl, hb2⟩
    go_wp2
    go_ret
    exact ⟨rfl, below_tr hb0.out (below_tr hb1 hb2)⟩
  have hm : ∀ n : Nat, n ≤ 140737488351232 → n ≤ maxLen := fun n h => by unfold maxLen; omega
  have hk := fun w => key_eql w t q ⟨#[]⟩ t q ⟨#[]⟩ r r
  have hke : keyEq t q r ⟨#[]⟩ t q r ⟨#[]⟩ = true := by simp [keyEq]
  rw [hke] at hk
  have A1 := Lib.hid (fun W => good_any t q c r W (hm _ x1) (hm _ x2) (hm _ x3))
  have A2 := Lib.hid (fun W => rgood_any t q c r W (hm _ x1) (hm _ x2) (hm _ x3))
  have A3 := Lib.hid (fun W => name_any s W (hm _ y1))
  have A4 := Lib.hid (fun W => rname_any s W (hm _ y1))
  have A5 := Lib.hid (fun W => row_any t q c r W)
  have A6 := Lib.hid (fun W => rRow_any t q c r W)
  have A7 := Lib.hid (fun W hE => Print_any t q c r W hE (by omega) x4 x5)
  have A8 := Lib.hid (fun W => rPrint_any t q c r W (by omega) x4 x5)
  rw [good_ref] at A1
  rw [name_ref] at A3
  generalize goodR t q c = gb at *
  generalize nameR s = nb at *
  generalize printL t.toList q.toList r c.toList = pl at *
  clear x1 x2 x3 x4 x5 y1 hke hm
  go_enter Tryd.func10, Tryd.ntmps10
  go_wp2_with fail
  refine (G1.out _).mono ?_
  rintro e w1 ⟨rfl, hb1⟩
  go_wp2_with fail
  have ca := fun d os => ((CA.out.keep hb1).all d os)
  have a0 := fun d os => (ca d os).c0; have a1 := fun d os => (ca d os).c1; have a2 := fun d os => (ca d os).c2; have a3 := fun d os => (ca d os).c3
  have q1 := Lib.hid (QC.of (W := w1) fun W' h => A1.out W')
  have q2 := Lib.hid (QC.of (W := w1) fun W' h => A2.out W')
  have q3 := Lib.hid (QC.of (W := w1) fun W' h => A3.out W')
  have q4 := Lib.hid (QC.same (W := w1) fun W' => A4.out W')
  have q5 := Lib.hid (QC.of (W := w1) fun W' h => A5.out W')
  have q6 := Lib.hid (QC.of (W := w1) fun W' h => A6.out W')
  have q7 := Lib.hid (QC.of (W := w1) fun W' h => A7.out W' ((he1.out.below hb1).below h))
  have q8 := Lib.hid (QC.of (W := w1) fun W' h => A8.out W')
  have q9 := Lib.hid (QC.of (W := w1) fun W' h => HL.out W' ((he1.out.below hb1).below h))
  have HB := Lib.hid hb1
  clear ca hb1
  refine wp_region_quiet_below (by kernel_rfl) (by kernel_rfl) ?_
  repeat (quiet_step (first | with_reducible exact q1.out.at _ _ | with_reducible exact q2.out.at _ _ | with_reducible exact q3.out.at _ _ | with_reducible exact q4.out.at _ _ | with_reducible exact q5.out.at _ _ | with_reducible exact q6.out.at _ _ | with_reducible exact q7.out.at _ _ | with_reducible exact q8.out.at _ _ | with_reducible exact q9.out.at _ _))
  refine wpQuiet_nil ?_
  intro w3 hw3
  have hb3 : Below w1.heap.size w1 w3 := by obtain ⟨p, rfl⟩ := hw3; exact below_regrown _ _ _
  clear hw3
  go_wp2_with fail
  go_ret
  exact ⟨rfl, below_tr hb0.out (below_tr HB.out hb3)⟩
end Go.Proofs.YtkmcjainbhmbdaaDoor
