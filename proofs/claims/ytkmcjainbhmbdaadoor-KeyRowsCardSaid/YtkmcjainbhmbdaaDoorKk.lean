/- The laws KeyTogether and KeyRows, walked: each returns true. No condition. -/
import Derived.Test.YtkmcjainbhmbdaaDoorKj
set_option linter.unusedVariables false
set_option linter.unusedSimpArgs false
set_option maxRecDepth 50000
namespace Go.Proofs.YtkmcjainbhmbdaaDoor
open Go.RowKit Go.Lib Go.Sort

set_option maxHeartbeats 4000000 in
theorem KeyTogether_walk (t0 q0 c0 : ByteArray) (r0 : Int) (t1 q1 c1 : ByteArray) (r1 : Int) (t2 q2 c2 : ByteArray) (r2 : Int) (w : World) (he : Env w) :
    Calls Tryd.prog 9 #[.agg #[.string t0, .string q0, .int .i64 r0, .string c0], .agg #[.string t1, .string q1, .int .i64 r1, .string c1], .agg #[.string t2, .string q2, .int .i64 r2, .string c2]] w
      fun e w' => e = .returned (.bool true) ∧ Below w.heap.size w w' := by
  go_enter Tryd.func9, Tryd.ntmps9
  go_wp2_with fail
  go_region
  have hb0 := Lib.hid (below_alloc (below_alloc (below_alloc (Below.refl _ w) (.cells #[.string t0, .string q0, .int .i64 r0, .string c0] 60)) (.cells #[.string t0, .string q0, .int .i64 r1, .string c1] 60)) (.cells #[.string t2, .string q2, .int .i64 r2, .string c2] 60)).drew
  have CA := Lib.hid (KB.mk (W := (((w.alloc (.cells #[.string t0, .string q0, .int .i64 r0, .string c0] 60)).alloc (.cells #[.string t0, .string q0, .int .i64 r1, .string c1] 60)).alloc (.cells #[.string t2, .string q2, .int .i64 r2, .string c2] 60)).drew) (g := w.heap.size) (t := t0) (p := q0) (c := c0) (r := r0) (by go_simp) (by go_simp) (by go_simp) (by go_simp))
  have CB := Lib.hid (KB.mk (W := (((w.alloc (.cells #[.string t0, .string q0, .int .i64 r0, .string c0] 60)).alloc (.cells #[.string t0, .string q0, .int .i64 r1, .string c1] 60)).alloc (.cells #[.string t2, .string q2, .int .i64 r2, .string c2] 60)).drew) (g := w.heap.size + 1) (t := t0) (p := q0) (c := c1) (r := r1) (by go_simp) (by go_simp) (by go_simp) (by go_simp))
  have CC := Lib.hid (KB.mk (W := (((w.alloc (.cells #[.string t0, .string q0, .int .i64 r0, .string c0] 60)).alloc (.cells #[.string t0, .string q0, .int .i64 r1, .string c1] 60)).alloc (.cells #[.string t2, .string q2, .int .i64 r2, .string c2] 60)).drew) (g := w.heap.size + 1 + 1) (t := t2) (p := q2) (c := c2) (r := r2) (by go_simp) (by go_simp) (by go_simp) (by go_simp))
  have he1 := Lib.hid (he.below hb0.out)
  have HL := Lib.hid (fun W hE => lives4 W hE)
  have H1 := fun W => Cmp_k t0 q0 c0 t2 q2 c2 r0 r2 W
  have H2 := fun W => Cmp_k t2 q2 c2 t0 q0 c1 r2 r1 W
  have Z := kcmp_between t0 q0 r0 c0 r1 c1 t2 q2 r2 c2
  have x3 := kcmp_range t0 q0 r0 c0 t2 q2 r2 c2
  have y3 := kcmp_range t2 q2 r2 c2 t0 q0 r1 c1
  generalize kcmp t0 q0 r0 c0 t2 q2 r2 c2 = x at *
  generalize kcmp t2 q2 r2 c2 t0 q0 r1 c1 = y at *
  have H1' := Lib.hid H1; have H2' := Lib.hid H2; have Z' := Lib.hid Z
  clear H1 H2 Z he
  generalize (((w.alloc (.cells #[.string t0, .string q0, .int .i64 r0, .string c0] 60)).alloc (.cells #[.string t0, .string q0, .int .i64 r1, .string c1] 60)).alloc (.cells #[.string t2, .string q2, .int .i64 r2, .string c2] 60)).drew = W at *
  obtain ⟨a0, a1, a2, a3⟩ := CA.out
  obtain ⟨d0, d1, d2, d3⟩ := CC.out
  by_cases k1 : 0 < x
  · go_wp2_with fail
    refine (H1'.out _).mono ?_
    rintro e w2 ⟨rfl, hb2⟩
    go_wp2_with fail
    refine (HL.out _ (he1.out.below hb2)).mono ?_
    rintro e w3 ⟨rfl, hb3⟩
    go_wp2
    go_ret
    exact ⟨rfl, below_tr hb0.out (below_tr hb2 hb3)⟩
  · go_wp2_with fail
    refine (H1'.out _).mono ?_
    rintro e w2 ⟨rfl, hb2⟩
    clear a0 a1 a2 a3 d0 d1 d2 d3
    obtain ⟨b0, b1, b2, b3⟩ := CB.out.keep hb2
    obtain ⟨d0, d1, d2, d3⟩ := CC.out.keep hb2
    by_cases k2 : 0 < y
    · go_wp2_with fail
      refine (H2'.out _).mono ?_
      rintro e w3 ⟨rfl, hb3⟩
      have hb3' := below_tr hb2 hb3
      go_wp2_with fail
      refine (HL.out _ (he1.out.below hb3')).mono ?_
      rintro e w4 ⟨rfl, hb4⟩
      go_wp2
      go_ret
      exact ⟨rfl, below_tr hb0.out (below_tr hb3' hb4)⟩
    · obtain ⟨e1, e2, e3, e4⟩ := Z'.out (by omega) (by omega)
      have f1 : (t2.toList == t0.toList) = true := by simpa using e1
      have f2 : (q2.toList == q0.toList) = true := by simpa using e2
      clear e1 e2
      go_wp2_with fail
      refine (H2'.out _).mono ?_
      rintro e w3 ⟨rfl, hb3⟩
      have hb3' := below_tr hb2 hb3
      clear b0 b1 b2 b3 d0 d1 d2 d3
      obtain ⟨a0, a1, a2, a3⟩ := CA.out.keep hb3'
      obtain ⟨b0, b1, b2, b3⟩ := CB.out.keep hb3'
      obtain ⟨d0, d1, d2, d3⟩ := CC.out.keep hb3'
      by_cases k3 : r0 = r1
      · have f3 : (r0 == r1) = true := by simpa using k3
        have f4 : (r2 == r0) = true := by rw [beq_iff_eq]; omega
        have f5 : (r0 != r1) = false := by simpa using k3
        clear k3
        go_wp2_with fail
        refine (HL.out _ (he1.out.below hb3')).mono ?_
        rintro e w4 ⟨rfl, hb4⟩
        go_wp2
        go_ret
        exact ⟨rfl, below_tr hb0.out (below_tr hb3' hb4)⟩
      · have f3 : (r0 == r1) = false := by simpa using k3
        have f5 : (r0 != r1) = true := by simpa using k3
        clear k3
        go_wp2_with fail
        refine (HL.out _ (he1.out.below hb3')).mono ?_
        rintro e w4 ⟨rfl, hb4⟩
        go_wp2
        go_ret
        exact ⟨rfl, below_tr hb0.out (below_tr hb3' hb4)⟩

set_option maxHeartbeats 4000000 in
theorem KeyRows_walk (t0 q0 c0 : ByteArray) (r0 : Int) (t1 q1 c1 : ByteArray) (r1 : Int) (w : World) (he : Env w) :
    Calls Tryd.prog 11 #[.agg #[.string t0, .string q0, .int .i64 r0, .string c0], .agg #[.string t1, .string q1, .int .i64 r1, .string c1]] w
      fun e w' => e = .returned (.bool true) ∧ Below w.heap.size w w' := by
  have HL := Lib.hid (fun W hE => lives4 W hE)
  have hR := Lib.hid (fun W => row_any t0 q0 c0 r0 W)
  have hR2 := Lib.hid (fun W => row_any t0 q0 ⟨#[]⟩ r0 W)
  have H1 := fun W => Cmp_k t0 q0 ⟨#[]⟩ t0 q0 c0 r0 r0 W
  have H2 := Lib.hid (fun W => Cmp_k t0 q0 c1 t0 q0 ⟨#[]⟩ r1 r0 W)
  have H3 := Lib.hid (fun W => Cmp_k t0 q0 ⟨#[]⟩ t0 q0 c1 r0 r1 W)
  have Z := kcmp_mark t0 q0 r0 c0
  have x3 := kcmp_range t0 q0 r0 ⟨#[]⟩ t0 q0 r0 c0
  have Y := Lib.hid (kcmp_rows t0 q0 r1 c1 r0 ⟨#[]⟩)
  have X := Lib.hid (kcmp_rows t0 q0 r0 ⟨#[]⟩ r1 c1)
  generalize kcmp t0 q0 r0 ⟨#[]⟩ t0 q0 r0 c0 = x at *
  generalize kcmp t0 q0 r1 c1 t0 q0 r0 ⟨#[]⟩ = y at *
  generalize kcmp t0 q0 r0 ⟨#[]⟩ t0 q0 r1 c1 = z at *
  have hz : (x == 0) = c0.toList.isEmpty := by
    rw [Bool.eq_iff_iff, beq_iff_eq, Z.2]; simp
  have hxz : decide (0 < x) = false := by have := Z.1; simpa using this
  clear Z
  have H1' := Lib.hid H1; clear H1
  have hk := fun w => key_neq w t0 q0 ⟨#[]⟩ t0 q0 ⟨#[]⟩ r0 r0
  have hke : keyEq t0 q0 r0 ⟨#[]⟩ t0 q0 r0 ⟨#[]⟩ = true := by simp [keyEq]
  rw [hke] at hk
  have hb0 := Lib.hid (below_alloc (below_alloc (Below.refl _ w) (.cells #[.string t0, .string q0, .int .i64 r0, .string c0] 60)) (.cells #[.string t1, .string q1, .int .i64 r1, .string c1] 60))
  have CA := Lib.hid (KB.mk (W := (w.alloc (.cells #[.string t0, .string q0, .int .i64 r0, .string c0] 60)).alloc (.cells #[.string t1, .string q1, .int .i64 r1, .string c1] 60)) (g := w.heap.size) (t := t0) (p := q0) (c := c0) (r := r0) (by go_simp) (by go_simp) (by go_simp) (by go_simp))
  have CB := Lib.hid (KB.mk (W := (w.alloc (.cells #[.string t0, .string q0, .int .i64 r0, .string c0] 60)).alloc (.cells #[.string t1, .string q1, .int .i64 r1, .string c1] 60)) (g := w.heap.size + 1) (t := t1) (p := q1) (c := c1) (r := r1) (by go_simp) (by go_simp) (by go_simp) (by go_simp))
  have he1 := Lib.hid (he.below hb0.out)
  have F0 := Lib.hid (show ((w.alloc (.cells #[.string t0, .string q0, .int .i64 r0, .string c0] 60)).alloc (.cells #[.string t1, .string q1, .int .i64 r1, .string c1] 60)).frozen? ⟨w.heap.size + 1, 0, none⟩ = false by go_simp)
  have F1 := Lib.hid (show ((w.alloc (.cells #[.string t0, .string q0, .int .i64 r0, .string c0] 60)).alloc (.cells #[.string t1, .string q1, .int .i64 r1, .string c1] 60)).frozen? ⟨w.heap.size + 1, 1, none⟩ = false by go_simp)
  have he0 := Lib.hid he
  clear he hke
  go_enter Tryd.func11, Tryd.ntmps11
  go_wp2_with fail
  obtain ⟨a0, a1, a2, a3⟩ := CA.out
  generalize (w.alloc (.cells #[.string t0, .string q0, .int .i64 r0, .string c0] 60)).alloc (.cells #[.string t1, .string q1, .int .i64 r1, .string c1] 60) = W at *
  refine (hR.out _).mono ?_
  rintro e w1 ⟨rfl, hb1⟩
  clear a0 a1 a2 a3
  go_wp2_with fail
  have hb2 := Lib.hid (below_alloc hb1 (.cells #[.string t0, .string q0, .int .i64 r0, .string ⟨#[]⟩] 60))
  have CM := Lib.hid (KB.mk (W := w1.alloc (.cells #[.string t0, .string q0, .int .i64 r0, .string ⟨#[]⟩] 60)) (g := w1.heap.size) (t := t0) (p := q0) (c := ⟨#[]⟩) (r := r0) (by go_simp) (by go_simp) (by go_simp) (by go_simp))
  have hsz : W.heap.size ≤ w1.heap.size := hb1.size
  have hw0 : w.heap.size + 2 ≤ W.heap.size := by have := World.block_lt_of_cell? W _ CB.out.c0; simp at this; omega
  generalize hgm : w1.heap.size = gm at *
  have HGM := Lib.hid hgm; clear hgm
  generalize w1.alloc (.cells #[.string t0, .string q0, .int .i64 r0, .string ⟨#[]⟩] 60) = W2 at *
  have ca := fun d os => ((CA.out.keep hb2.out).all d os)
  have cm := fun d os => (CM.out.all d os)
  have a0 := fun d os => (ca d os).c0; have a1 := fun d os => (ca d os).c1; have a2 := fun d os => (ca d os).c2; have a3 := fun d os => (ca d os).c3
  have b0 := fun d os => (cm d os).c0; have b1 := fun d os => (cm d os).c1; have b2 := fun d os => (cm d os).c2; have b3 := fun d os => (cm d os).c3
  have p1 := Lib.hid (QC.of (W := W2) fun W' h => H1'.out W')
  have p2 := Lib.hid (QC.of (W := W2) fun W' h => hR2.out W')
  clear ca cm
  refine wp_region_quiet_below (by kernel_rfl) (by kernel_rfl) ?_
  repeat (quiet_step (first | with_reducible exact p1.out.at _ _ | with_reducible exact p2.out.at _ _))
  refine wpQuiet_nil ?_
  intro w3 hw3
  have hb3 : Below W2.heap.size W2 w3 := by obtain ⟨p, rfl⟩ := hw3; exact below_regrown _ _ _
  clear hw3 a0 a1 a2 a3 b0 b1 b2 b3 p1 p2 hk hz hxz
  have hb3' := Lib.hid (below_tr hb2.out hb3)
  have CA3 := Lib.hid (CA.out.keep hb3'.out)
  have CB3 := Lib.hid (CB.out.keep hb3'.out)
  have CM3 := Lib.hid (CM.out.keep hb3)
  clear hb3
  obtain ⟨a0, a1, a2, a3⟩ := CA3.out
  obtain ⟨b0, b1, b2, b3⟩ := CB3.out
  obtain ⟨m0, m1, m2, m3⟩ := CM3.out
  have f0 : w3.frozen? ⟨w.heap.size + 1, 0, none⟩ = false := (hb3'.out.frozen (p := ⟨w.heap.size + 1, 0, none⟩) (by show w.heap.size + 1 < _; omega)).trans F0.out
  have f1 : w3.frozen? ⟨w.heap.size + 1, 1, none⟩ = false := (hb3'.out.frozen (p := ⟨w.heap.size + 1, 1, none⟩) (by show w.heap.size + 1 < _; omega)).trans F1.out
  have hgm := HGM.out
  have hne : w.heap.size + 1 < gm := by omega
  have hne2 : w.heap.size < gm := by omega
  clear hgm
  go_wp2_with fail
  go_region
  have hB4 := Lib.hid (((((below_tr hb0.out hb3'.out).setCell (p := ⟨w.heap.size + 1, 0, none⟩) (by show w.heap.size ≤ w.heap.size + 1; omega) (.string t0)).setCell (p := ⟨w.heap.size + 1, 1, none⟩) (by show w.heap.size ≤ w.heap.size + 1; omega) (.string q0))).drew)
  have K4a := Lib.hid (KB.mk (W := ((w3.setCell ⟨w.heap.size + 1, 0, none⟩ (.string t0)).setCell ⟨w.heap.size + 1, 1, none⟩ (.string q0)).drew) (g := w.heap.size) (t := t0) (p := q0) (c := c0) (r := r0) (by go_simp) (by go_simp) (by go_simp) (by go_simp))
  have K4b := Lib.hid (KB.mk (W := ((w3.setCell ⟨w.heap.size + 1, 0, none⟩ (.string t0)).setCell ⟨w.heap.size + 1, 1, none⟩ (.string q0)).drew) (g := w.heap.size + 1) (t := t0) (p := q0) (c := c1) (r := r1) (by go_simp) (by go_simp) (by go_simp) (by go_simp))
  have K4m := Lib.hid (KB.mk (W := ((w3.setCell ⟨w.heap.size + 1, 0, none⟩ (.string t0)).setCell ⟨w.heap.size + 1, 1, none⟩ (.string q0)).drew) (g := gm) (t := t0) (p := q0) (c := ⟨#[]⟩) (r := r0) (by go_simp) (by go_simp) (by go_simp) (by go_simp))
  generalize ((w3.setCell ⟨w.heap.size + 1, 0, none⟩ (.string t0)).setCell ⟨w.heap.size + 1, 1, none⟩ (.string q0)).drew = W4 at *
  clear a0 a1 a2 a3 b0 b1 b2 b3 m0 m1 m2 m3 f0 f1
  obtain ⟨a0, a1, a2, a3⟩ := K4a.out
  obtain ⟨b0, b1, b2, b3⟩ := K4b.out
  obtain ⟨m0, m1, m2, m3⟩ := K4m.out
  have he4 := Lib.hid (he0.out.below hB4.out)
  rcases (show r1 < r0 ∨ (r1 ≤ r0 ∧ r0 ≤ r1) ∨ r0 < r1 by omega) with h | ⟨h, h'⟩ | h
  · have hy := Y.out h
    go_wp2_with fail
    refine (H2.out _).mono ?_
    rintro e w5 ⟨rfl, hb5⟩
    clear a0 a1 a2 a3 b0 b1 b2 b3 m0 m1 m2 m3
    obtain ⟨a0, a1, a2, a3⟩ := K4a.out.keep hb5
    obtain ⟨b0, b1, b2, b3⟩ := K4b.out.keep hb5
    go_wp2_with fail
    refine (HL.out _ (he4.out.below hb5)).mono ?_
    rintro e w6 ⟨rfl, hb6⟩
    go_wp2
    go_ret
    exact ⟨rfl, below_tr hB4.out (below_tr hb5 hb6)⟩
  · go_wp2_with fail
    refine (HL.out _ he4.out).mono ?_
    rintro e w6 ⟨rfl, hb6⟩
    go_wp2
    go_ret
    exact ⟨rfl, below_tr hB4.out hb6⟩
  · have hy := X.out h
    go_wp2_with fail
    refine (H3.out _).mono ?_
    rintro e w5 ⟨rfl, hb5⟩
    go_wp2_with fail
    refine (HL.out _ (he4.out.below hb5)).mono ?_
    rintro e w6 ⟨rfl, hb6⟩
    go_wp2
    go_ret
    exact ⟨rfl, below_tr hB4.out (below_tr hb5 hb6)⟩
end Go.Proofs.YtkmcjainbhmbdaaDoor
