/- Contracts of cell's fold at cells, of slices.Clone there, of cell.Norm: at any cells. Condition: room (the row's own bound). Contracts of the reference's Add and Norm of cells. Condition: room (the row's own bound). Contracts of slices.IndexFunc and DeleteFunc at one cell, of purge.without, Cells and Table there. -/
import Derived.Test.YtplghaoflmaadaaGreatDoorZ19
import Derived.Test.YtplghaoflmaadaaGreatDoorZ21
import Derived.Test.YtplghaoflmaadaaGreatDoorZ13
import Derived.Test.YtplghaoflmaadaaGreatDoorZ10
import Derived.Lib.LazyBuf
section
set_option linter.unusedVariables false
set_option linter.unusedSimpArgs false
set_option maxRecDepth 50000
namespace Go.Proofs.YtplghaoflmaadaaGreatDoor
open Go.RowKit Go.Sort
open Go.Lib hiding intOf

def foldP (l : List Cel) : List (Ky × Vr) := foldL joinP (l.map toP)
theorem foldP_next (L : List Cel) (i : Nat) (hi : i < L.length) : foldP (L.take (i + 1)) = foldS joinP (foldP (L.take i)) (toP L[i]) := by
  unfold foldP foldL
  rw [List.take_succ_eq_append_getElem hi, List.map_append, List.foldl_append]; rfl
theorem foldP_len (l : List Cel) : (foldP l).length ≤ l.length := by
  unfold foldP foldL
  have : ∀ (l : List Cel) (acc : List (Ky × Vr)), ((l.map toP).foldl (foldS joinP) acc).length ≤ acc.length + l.length := by
    intro l
    induction l with
    | nil => intro acc; simp
    | cons x l ih =>
      intro acc
      have h1 := ih (foldS joinP acc (toP x))
      have h2 := foldS_len (jn := joinP) acc (toP x)
      simp only [List.map_cons, List.foldl_cons, List.length_cons]; omega
  simpa using this l []
/-- room for so many cells -/
def Room (n : Nat) : Prop := n * 112 ≤ 140737488355328

set_option maxHeartbeats 8000000 in
theorem foldC_any (v : Value) (L : List Cel) (w : World) (hv : SlX eC w.heap.size w v L) (hl : Room L.length) :
    Calls Tryz.prog 68 #[v, .func (.func 69) #[] #[], .func (.func 70) #[] #[]] w
      fun e w' => ∃ v', e = .returned v' ∧ OwnX eC w' w.heap.size v' ((foldP L).map ofP) ∧ Below w.heap.size w w' := by
  have HV := Lib.hid hv
  obtain ⟨a, c, rfl, hc, hx⟩ := hv.ex
  have HX := Lib.hid hx; clear hx hv
  unfold Room at hl
  go_enter Tryz.func68, Tryz.ntmps68
  go_wp2_with fail
  go_loopw [7, 9, 10, 13] (fun v7 _ _ v13 wr => ∃ (i : Nat) (acc : List Cel), v13 = .int .i64 (i : Int) ∧ i ≤ L.length ∧ acc.length ≤ i ∧ Hid (acc.map toP = foldP (L.take i)) ∧ OwnX eC wr w.heap.size v7 acc ∧ Below w.heap.size w wr) (fun _ _ _ v13 _ => L.length - (intOf v13).toNat)
  case atStart => exact ⟨0, [], rfl, by omega, by simp, Lib.hid rfl, OwnX.nil _ _, Below.refl _ _⟩
  case round =>
    obtain ⟨i, acc, rfl, hi, hai, HF, hO, hB⟩ := hrel
    have OW := Lib.hid hO; have HB := Lib.hid hB
    clear hO hB
    by_cases hlt : i < L.length
    · have hz : (i : Int) < (L.length : Int) := by omega
      obtain ⟨gl, o, rfl, hgl2, _⟩ := HX.out (by omega)
      have ten := (Ten.of HV.out i hlt).keep HB.out
      have NEXT := Lib.hid (foldP_next L i hlt)
      generalize L[i] = x at *
      obtain ⟨c0, c1, c2, c3, c4, c5, c6, c7, c8, c9⟩ := ten
      have hbk : Blk (wr.alloc (.cells (celEnc x).toArray 61)) wr.heap.size 61 (celEnc x).toArray := Blk.new wr _ _
      have BK := Lib.hid hbk
      have B1 := Lib.hid (below_al HB.out (.cells (celEnc x).toArray 61) HB.out.size)
      have O1 := Lib.hid (OW.out.alloc (.cells (celEnc x).toArray 61))
      have APP := Lib.hid (fun W => SlX.lit (E := eC) W (celEnc x).toArray [x] 1 1 rfl (by simp) (by simp [El.cells, eC]))
      have Q2 := Lib.hid (fun y W => QP.of (P := Tryz.prog) (W := W) fun W' _ => norm2_c y x W')
      have Q3 := Lib.hid (fun y W => QP.of (P := Tryz.prog) (W := W) fun W' _ => norm3_c y x W')
      have SIZ := Lib.hid (show w.heap.size ≤ wr.heap.size from HB.out.size)
      rcases List.eq_nil_or_concat acc with rfl | ⟨acc', y, rfl⟩
      · have N2 := Lib.hid (show [x].map toP = foldP (L.take (i + 1)) by rw [NEXT.out, ← HF.out]; rfl)
        obtain ⟨⟨t, p, r, q⟩, ⟨tm, dd, lc, kd, nn, ss⟩⟩ := x
        simp only [celEnc] at *
        rcases OW.out.form with ⟨rfl, _⟩ | ⟨g7, cp7, rfl, _⟩
        all_goals
          go_wp2_with fail
          go_quiet (fail)
          have T := (BK.out.drewN nq).ten (x := ⟨⟨t, p, r, q⟩, ⟨tm, dd, lc, kd, nn, ss⟩⟩)
          have O2 := Lib.hid (O1.out.drewN (n := nq))
          have B2 := Lib.hid (below_drewN B1.out nq)
          clear c0 c1 c2 c3 c4 c5 c6 c7 c8 c9
          obtain ⟨c0, c1, c2, c3, c4, c5, c6, c7, c8, c9⟩ := T
          simp only [Nat.zero_add] at c0 c1 c2 c3 c4 c5 c6 c7 c8 c9
          generalize ((wr.alloc (.cells #[.string t, .string p, .int .i64 r, .string q, .int .i64 tm, .bool dd, .int .i64 lc, .int .i64 kd, .int .i64 nn, .string ss] 61)).drewN nq) = V at *
          have B3 := Lib.hid (below_al B2.out (.cells #[.string t, .string p, .int .i64 r, .string q, .int .i64 tm, .bool dd, .int .i64 lc, .int .i64 kd, .int .i64 nn, .string ss] 61) B2.out.size)
          have O3 := Lib.hid (O2.out.alloc (.cells #[.string t, .string p, .int .i64 r, .string q, .int .i64 tm, .bool dd, .int .i64 lc, .int .i64 kd, .int .i64 nn, .string ss] 61))
          go_wp2_with (at_builtin; go_must (refine ap_x (E := eC) rfl (.tmp 43) (.tmp 45) rfl w.heap.size _ [] _ _ [⟨⟨t, p, r, q⟩, ⟨tm, dd, lc, kd, nn, ss⟩⟩] rfl rfl (APP.out V) O3.out B3.out B3.out.size (by simp) (by simp [eC]) ?_); intro v2 w2 hO2 hB2 hz2 _)
          exact ⟨⟨i + 1, _, by first | rfl | go_num, by omega, by simp, N2, hO2, hB2⟩, by simp [intOf]; omega⟩
      · rw [List.concat_eq_append] at *
        have hn := foldS_snoc (jn := joinP) (acc'.map toP) (toP y) (toP x)
        have hacc : (acc' ++ [y]).map toP = acc'.map toP ++ [toP y] := by simp
        have NX := Lib.hid (show foldP (L.take (i + 1)) = foldS joinP (acc'.map toP ++ [toP y]) (toP x) by rw [NEXT.out, ← HF.out, hacc])
        have HN := Lib.hid hn
        clear hn hacc HF NEXT
        obtain ⟨g7, cp7, rfl, _⟩ := OwnX.formN OW.out (acc'.length + 1) (by simp) (by omega)
        have hai' : acc'.length + 1 ≤ i := by simpa using hai
        clear hai
        have TY := Lib.hid (show Ten wr g7 (acc'.length * 10) y by
          have := OW.out.ten acc'.length (by simp)
          simpa using this)
        have LEN : (acc' ++ [y]).length = acc'.length + 1 := by simp
        have AL := Lib.hid LEN
        have SETS := Lib.hid (fun z => show (acc' ++ [y]).set acc'.length z = acc' ++ [z] by simp)
        clear LEN
        have TOA := Lib.hid (fun z : Cel => show (acc' ++ [z]).map toP = acc'.map toP ++ [toP z] by simp)
        obtain ⟨pl, hpl⟩ : ∃ pl, acc'.length = pl := ⟨_, rfl⟩
        rw [hpl] at OW O1 TY AL SETS hai' ⊢
        have HPL := Lib.hid hpl
        clear hpl
        have eq1 : ((pl + 1 : Nat) : Int) - 1 = (pl : Int) := by omega
        obtain ⟨qn, hqn⟩ : ∃ qn, pl + 1 = qn := ⟨_, rfl⟩
        rw [hqn] at OW O1 AL hai' eq1 ⊢
        have HQN := Lib.hid hqn
        have ew : IntKind.i64.wrap ((qn : Int) - 1) = (pl : Int) := by rw [IntKind.wrap_i64]; omega
        have ew2 : IntKind.i64.wrap (pl : Int) = (pl : Int) := by rw [IntKind.wrap_i64]; omega
        have pq : (pl : Int) < (qn : Int) := by omega
        have q0 : (0 : Int) < (qn : Int) := by omega
        have q0n : 0 < qn := by omega
        clear hqn
        have TYA := Lib.hid (TY.out.keep (below_alloc (Below.refl _ wr) (.cells (celEnc x).toArray 61)))
        have TXA := Lib.hid BK.out.ten
        obtain ⟨kq, hk⟩ : ∃ kq, decide (y.k = x.k) = kq := ⟨_, rfl⟩
        have HK := Lib.hid hk
        have Q2' := Lib.hid (Q2.out y)
        rw [hk] at Q2'
        clear hk
        have Q3' := Lib.hid (Q3.out y)
        have ZZ := Lib.hid (show ∃ z : Cel, z = ⟨y.k, joinP y.v x.v⟩ from ⟨_, rfl⟩)
        obtain ⟨z, hz'⟩ := ZZ.out
        rw [← hz'] at Q3'
        have HZ := Lib.hid hz'
        clear ZZ hz' Q2 Q3
        have WSZ := Lib.hid (show g7 < wr.heap.size from World.block_lt_of_cell? wr _ TY.out.c0)
        have X0 := Lib.hid (show ∃ x0 : Cel, x0 = x from ⟨_, rfl⟩)
        obtain ⟨x0, hx0⟩ := X0.out
        have Y0 := Lib.hid (show ∃ y0 : Cel, y0 = y from ⟨_, rfl⟩)
        obtain ⟨y0, hy0⟩ := Y0.out
        have Z0 := Lib.hid (show ∃ z0 : Cel, z0 = z from ⟨_, rfl⟩)
        obtain ⟨z0, hz0⟩ := Z0.out
        rw [← hx0, ← hy0] at HK NX
        rw [← hy0, ← hx0, ← hz0] at HZ
        rw [← hy0, ← hx0] at HN
        rw [← hy0] at SETS O1 AL
        have HX0 := Lib.hid hx0; have HY0 := Lib.hid hy0; have HZ0 := Lib.hid hz0
        clear hx0 hy0 hz0 X0 Y0 Z0 OW
        obtain ⟨⟨t, p, r, q⟩, ⟨tm, dd, lc, kd, nn, ss⟩⟩ := x
        obtain ⟨⟨t', p', r', q'⟩, ⟨tm', dd', lc', kd', nn', ss'⟩⟩ := y
        obtain ⟨⟨t2, p2, r2, q2⟩, ⟨tm2, dd2, lc2, kd2, nn2, ss2⟩⟩ := z
        simp only [celEnc] at *
        go_wp2_with fail
        clear c0 c1 c2 c3 c4 c5 c6 c7 c8 c9
        generalize hW1 : wr.alloc (.cells #[.string t, .string p, .int .i64 r, .string q, .int .i64 tm, .bool dd, .int .i64 lc, .int .i64 kd, .int .i64 nn, .string ss] 61) = W1 at *
        have hxs : wr.heap.size + 1 = W1.heap.size := by rw [← hW1]; simp
        have HXS := Lib.hid hxs
        clear hW1 hxs
        generalize hgx : wr.heap.size = gx at *
        have HGX := Lib.hid hgx
        clear hgx
        have q1 := Lib.hid (Q2'.out W1)
        have ky := fun dr os => (TYA.out.keep (below_regrown W1 dr os))
        have kx := fun dr os => (TXA.out.keep (below_regrown W1 dr os))
        have f0 := fun dr os => (ky dr os).c0
        have f1 := fun dr os => (ky dr os).c1
        have f2 := fun dr os => (ky dr os).c2
        have f3 := fun dr os => (ky dr os).c3
        have f4 := fun dr os => (ky dr os).c4
        have f5 := fun dr os => (ky dr os).c5
        have f6 := fun dr os => (ky dr os).c6
        have f7 := fun dr os => (ky dr os).c7
        have f8 := fun dr os => (ky dr os).c8
        have f9 := fun dr os => (ky dr os).c9
        have h0 := fun dr os => (kx dr os).c0
        have h1 := fun dr os => (kx dr os).c1
        have h2 := fun dr os => (kx dr os).c2
        have h3 := fun dr os => (kx dr os).c3
        have h4 := fun dr os => (kx dr os).c4
        have h5 := fun dr os => (kx dr os).c5
        have h6 := fun dr os => (kx dr os).c6
        have h7 := fun dr os => (kx dr os).c7
        have h8 := fun dr os => (kx dr os).c8
        have h9 := fun dr os => (kx dr os).c9
        simp only [Nat.zero_add] at h0 h1 h2 h3 h4 h5 h6 h7 h8 h9
        clear ky kx
        cases kq with
        | true =>
          refine wp_region_quiet_below (by kernel_rfl) (by kernel_rfl) ?_
          repeat (quiet_step (first | with_reducible exact q1.out.at _ _))
          refine wpQuiet_nil ?_
          intro w3 hw3
          have hb3 := regrown_below hw3
          have B3 := Lib.hid (Below.trans B1.out (Below.mono hb3 B1.out.size))
          have O3 := Lib.hid (O1.out.below hb3)
          have TY3 := Lib.hid (TYA.out.keep hb3); have TX3 := Lib.hid (TXA.out.keep hb3)
          clear hw3 hb3 f0 f1 f2 f3 f4 f5 f6 f7 f8 f9 h0 h1 h2 h3 h4 h5 h6 h7 h8 h9 q1
          go_wp2_with fail
          have q3 := Lib.hid (Q3'.out w3)
          have ky := fun dr os => (TY3.out.keep (below_regrown w3 dr os))
          have kx := fun dr os => (TX3.out.keep (below_regrown w3 dr os))
          have f0 := fun dr os => (ky dr os).c0
          have f1 := fun dr os => (ky dr os).c1
          have f2 := fun dr os => (ky dr os).c2
          have f3 := fun dr os => (ky dr os).c3
          have f4 := fun dr os => (ky dr os).c4
          have f5 := fun dr os => (ky dr os).c5
          have f6 := fun dr os => (ky dr os).c6
          have f7 := fun dr os => (ky dr os).c7
          have f8 := fun dr os => (ky dr os).c8
          have f9 := fun dr os => (ky dr os).c9
          have h0 := fun dr os => (kx dr os).c0
          have h1 := fun dr os => (kx dr os).c1
          have h2 := fun dr os => (kx dr os).c2
          have h3 := fun dr os => (kx dr os).c3
          have h4 := fun dr os => (kx dr os).c4
          have h5 := fun dr os => (kx dr os).c5
          have h6 := fun dr os => (kx dr os).c6
          have h7 := fun dr os => (kx dr os).c7
          have h8 := fun dr os => (kx dr os).c8
          have h9 := fun dr os => (kx dr os).c9
          simp only [Nat.zero_add] at h0 h1 h2 h3 h4 h5 h6 h7 h8 h9
          clear ky kx
          refine wp_region_quiet_tail 12 (by kernel_rfl) (by kernel_rfl) ?_
          simp only [List.take_succ_cons, List.take_zero, List.drop_succ_cons, List.drop_zero]
          repeat (quiet_step (first | with_reducible exact q3.out.at _ _))
          refine wpQuiet_nil ?_
          intro w4 hw4
          have hb4 := regrown_below hw4
          have B4 := Lib.hid (Below.trans B3.out (Below.mono hb4 B3.out.size))
          have O4 := Lib.hid (O3.out.below hb4)
          clear hw4 hb4 f0 f1 f2 f3 f4 f5 f6 f7 f8 f9 h0 h1 h2 h3 h4 h5 h6 h7 h8 h9 q3
          refine st_el (E := eC) rfl (.tmp 42) (.tmp 41) rfl w.heap.size g7 pl qn cp7 (acc' ++ [y0]) ⟨⟨t2, p2, r2, q2⟩, ⟨tm2, dd2, lc2, kd2, nn2, ss2⟩⟩ rfl rfl O4.out (by rw [AL.out]; have := HQN.out; omega) ?_
          intro w5 hO5 hg5
          rw [SETS.out] at hO5
          have O5 := Lib.hid hO5
          have B5 := Lib.hid (Below.grown B4.out hg5 B4.out.size (fun k hk => by injection hk with hk; subst hk; exact OwnX.base O4.out _ rfl))
          have N5 := Lib.hid (show (acc' ++ [(⟨⟨t2, p2, r2, q2⟩, ⟨tm2, dd2, lc2, kd2, nn2, ss2⟩⟩ : Cel)]).map toP = foldP (L.take (i + 1)) by
            rw [NX.out, HN.out, TOA.out]
            have hk : y0.k = x0.k := of_decide_eq_true HK.out
            rw [if_pos (show (toP y0).1 = (toP x0).1 from hk)]
            have e : (⟨⟨t2, p2, r2, q2⟩, ⟨tm2, dd2, lc2, kd2, nn2, ss2⟩⟩ : Cel) = ⟨y0.k, joinP y0.v x0.v⟩ := HZ0.out.symm.trans HZ.out
            rw [e]; rfl)
          have L5 := Lib.hid (show (acc' ++ [(⟨⟨t2, p2, r2, q2⟩, ⟨tm2, dd2, lc2, kd2, nn2, ss2⟩⟩ : Cel)]).length ≤ i + 1 by simp; have := HPL.out; have := HQN.out; omega)
          clear hO5 hg5
          go_wp2_with fail
          exact ⟨⟨i + 1, _, by first | rfl | go_num, by omega, L5.out, N5, O5.out, B5.out⟩, by simp [intOf]; omega⟩
        | false =>
          refine wp_region_quiet_below (by kernel_rfl) (by kernel_rfl) ?_
          repeat (quiet_step (first | with_reducible exact q1.out.at _ _))
          refine wpQuiet_nil ?_
          intro w3 hw3
          have hb3 := regrown_below hw3
          have B3 := Lib.hid (Below.trans B1.out (Below.mono hb3 B1.out.size))
          have O3 := Lib.hid (O1.out.below hb3)
          have TY3 := Lib.hid (TYA.out.keep hb3); have TX3 := Lib.hid (TXA.out.keep hb3)
          clear hw3 hb3 f0 f1 f2 f3 f4 f5 f6 f7 f8 f9 h0 h1 h2 h3 h4 h5 h6 h7 h8 h9 q1
          obtain ⟨c0, c1, c2, c3, c4, c5, c6, c7, c8, c9⟩ := TX3.out
          simp only [Nat.zero_add] at c0 c1 c2 c3 c4 c5 c6 c7 c8 c9
          have B4 := Lib.hid (below_al B3.out (.cells #[.string t, .string p, .int .i64 r, .string q, .int .i64 tm, .bool dd, .int .i64 lc, .int .i64 kd, .int .i64 nn, .string ss] 61) B3.out.size)
          have O4 := Lib.hid (O3.out.alloc (.cells #[.string t, .string p, .int .i64 r, .string q, .int .i64 tm, .bool dd, .int .i64 lc, .int .i64 kd, .int .i64 nn, .string ss] 61))
          have LN := Lib.hid (show (acc' ++ [y0]).length = qn from AL.out)
          go_wp2_with (at_builtin; go_must (refine ap_x (E := eC) rfl (.tmp 43) (.tmp 45) rfl w.heap.size _ (acc' ++ [y0]) _ _ [⟨⟨t, p, r, q⟩, ⟨tm, dd, lc, kd, nn, ss⟩⟩] rfl rfl (APP.out w3) O4.out B4.out B4.out.size (by rw [LN.out]; simp; omega) (by rw [LN.out]; simp [eC]; omega) ?_); intro v2 w2 hO2 hB2 hz2 _)
          have N5 := Lib.hid (show (acc' ++ [y0] ++ [(⟨⟨t, p, r, q⟩, ⟨tm, dd, lc, kd, nn, ss⟩⟩ : Cel)]).map toP = foldP (L.take (i + 1)) by
            rw [NX.out, HN.out]
            have hk : ¬ y0.k = x0.k := of_decide_eq_false HK.out
            rw [if_neg (show ¬ (toP y0).1 = (toP x0).1 from hk), List.map_append, TOA.out, ← HX0.out]; rfl)
          exact ⟨⟨i + 1, _, by first | rfl | go_num, by omega, by rw [List.length_append, LN.out]; simp; omega, N5, hO2, hB2⟩, by simp [intOf]; omega⟩
    · have hz : ¬ (i : Int) < (L.length : Int) := by omega
      have e : L.take i = L := List.take_of_length_le (by omega)
      have hF := HF.out
      rw [e] at hF
      have FIN := Lib.hid (show acc = (foldP L).map ofP by rw [← hF, map_of_toP])
      clear hF e HF
      rcases OW.out.form with ⟨rfl, _⟩ | ⟨g7, cp7, rfl, _⟩
      · go_wp2_with fail
        go_ret
        exact ⟨_, rfl, by rw [← FIN.out]; exact OW.out, HB.out⟩
      · go_wp2_with fail
        go_ret
        exact ⟨_, rfl, by rw [← FIN.out]; exact OW.out, HB.out⟩

/-- the norm of cells -/
def normC (l : List Cel) : List Cel := (normL kcK joinP (l.map toP)).map ofP
theorem stb_map {l m : List Cel} (h : Stb ltC l m) : Stb (fun a b : Ky × Vr => decide (kcK a.1 b.1 < 0)) (l.map toP) (m.map toP) := by
  refine ⟨h.perm.map _, fun x => ?_⟩
  have := congrArg (List.map toP) (h.same (ofP x))
  rw [List.filter_map, List.filter_map]
  exact this
theorem srt_map {l : List Cel} (h : Srt ltC l) : Srt (fun a b : Ky × Vr => decide (kcK a.1 b.1 < 0)) (l.map toP) := by
  unfold Srt at *
  rw [List.pairwise_map]
  exact h
theorem fold_norm {l m : List Cel} (h1 : Srt ltC m) (h2 : Stb ltC l m) : (foldP m).map ofP = normC l := by
  unfold foldP normC
  rw [foldL_norm kcK_ord (stb_map h2) (srt_map h1)]
theorem cloneN_any (v : Value) (L : List Cel) (w : World) (HV : SlX eC w.heap.size w v L) (hl : Room L.length) :
    Calls Tryz.prog 65 #[v] w fun e w' => ∃ v', e = .returned v' ∧ OwnX eC w' w.heap.size v' L ∧ Below w.heap.size w w' := by
  unfold Room at hl
  obtain ⟨a, c, rfl, hc, hx⟩ := HV.ex
  have q22 : ∀ (w : World), (binOp .eql 22 (.slice a L.length c) (.slice none 0 0)).run Tryz.prog w = .ok (.bool a.isNone) w := fun w => Lib.run_eql_slice_nil w _ _ _ L.length c 0 0 Tryz.underlying22
  have H0 := Lib.hid (OwnX.lit (E := eC) w w.heap.size #[] [] 0 (Nat.le_refl _) rfl (by simp) rfl)
  have HB0 := Lib.hid (below_alloc (Below.refl _ w) (.cells #[] 61))
  have HVa := Lib.hid (HV.below HB0.out)
  have hlx : ([] : List Cel).length + L.length ≤ 9223372036854775807 := by simp; omega
  have hly : (([] : List Cel).length + L.length) * eC.bytes ≤ 140737488355328 := by show (_ + _) * 112 ≤ _; simp; omega
  have HX := Lib.hid hx
  clear HV hx
  cases a with
  | none =>
    have h0 : L = [] := by
      rcases Nat.eq_zero_or_pos L.length with h | h
      · exact List.eq_nil_of_length_eq_zero h
      · obtain ⟨g, o, e, _⟩ := HX.out h; cases e
    subst h0
    clear hlx hly
    simp only [Option.isNone_none, List.length_nil] at q22 ⊢
    go_enter Tryz.func65, Tryz.ntmps65
    go_wp2_with fail
    go_ret
    exact ⟨_, rfl, OwnX.nil _ _, Below.refl _ _⟩
  | some ad =>
    simp only [Option.isNone_some] at q22
    go_enter Tryz.func65, Tryz.ntmps65
    go_wp2_with (at_builtin; go_must (refine ap_x (E := eC) rfl (.tmp 5) (.tmp 6) rfl w.heap.size (.slice (some ⟨w.heap.size, 0, none⟩) 0 0) [] w.heap.size _ L rfl rfl HVa.out H0.out HB0.out HB0.out.size hlx hly ?_); intro v2 w2 hO2 hB2 hz2 _)
    go_ret
    exact ⟨v2, rfl, hO2, hB2⟩

set_option maxHeartbeats 1000000 in
theorem normC_any (v : Value) (L : List Cel) (w : World) (HV : SlX eC w.heap.size w v L) (hl : Room L.length) :
    Calls Tryz.prog 26 #[v] w fun e w' => ∃ v', e = .returned v' ∧ OwnX eC w' w.heap.size v' (normC L) ∧ Below w.heap.size w w' := by
  have C1 := Lib.hid (cloneN_any v L w HV hl)
  have hl' := hl
  unfold Room at hl'
  clear HV
  go_enter Tryz.func26, Tryz.ntmps26
  go_wp2_with fail
  refine C1.out.mono ?_
  rintro e w1 ⟨v1, rfl, hO, hb⟩
  have HB1 := Lib.hid hb
  rcases hO.form with ⟨rfl, rfl⟩ | ⟨g, c, rfl, hc, hg, hlt, _⟩
  · have C2 := Lib.hid (fun f => sort1_any none 0 0 f w1 (by omega))
    have C3 := Lib.hid (foldC_any (.slice none 0 0) [] w1 (SlX.nil _ _ _) (by unfold Room; simp))
    clear hO hb hl hl'
    go_wp2_with fail
    refine (C2.out _).mono ?_
    rintro e w2 ⟨rfl, rfl⟩
    go_wp2_with fail
    refine C3.out.mono ?_
    rintro e w3 ⟨v3, rfl, hO, hb⟩
    have HO := Lib.hid (OwnX.weaken hO HB1.out.size); have HB := Lib.hid (below_tr HB1.out hb)
    clear hO hb
    rcases HO.out.form with ⟨rfl, _⟩ | ⟨g7, cp7, rfl, _⟩
    all_goals
      go_wp2_with fail
      go_ret
      exact ⟨_, rfl, HO.out, HB.out⟩
  · have C2 := Lib.hid (sortC_any g c w.heap.size L w1 hO (by omega))
    clear hO hb
    go_wp2_with fail
    refine C2.out.mono ?_
    rintro e w2 ⟨rfl, m, ⟨hs, hst⟩, hO2, hg2⟩
    have hml : L.length = m.length := hst.len
    have HB2 := Lib.hid (Below.grown HB1.out hg2 HB1.out.size (fun k hk => by injection hk with hk; omega))
    have FN := Lib.hid (fold_norm hs hst)
    have C3 := Lib.hid (foldC_any _ m w2 hO2.sl (by rw [← hml]; exact hl))
    clear hs hst hO2 hg2 hml C2
    go_wp2_with fail
    refine C3.out.mono ?_
    rintro e w3 ⟨v3, rfl, hO, hb⟩
    rw [FN.out] at hO
    have HO := Lib.hid (OwnX.weaken hO HB2.out.size); have HB := Lib.hid (Below.trans HB2.out (Below.mono hb HB2.out.size))
    clear hO hb
    rcases HO.out.form with ⟨rfl, _⟩ | ⟨g7, cp7, rfl, _⟩
    all_goals
      go_wp2_with fail
      go_ret
      exact ⟨_, rfl, HO.out, HB.out⟩
end Go.Proofs.YtplghaoflmaadaaGreatDoor
end

section
set_option linter.unusedVariables false
set_option linter.unusedSimpArgs false
set_option maxRecDepth 50000
namespace Go.Proofs.YtplghaoflmaadaaGreatDoor
open Go.RowKit Go.Sort
open Go.Lib hiding intOf

def addC (c : Cel) (l : List Cel) : List Cel := (addR kcK joinP (toP c) false (l.map toP)).map ofP
theorem addR_len (c : Ky × Vr) : ∀ (l : List (Ky × Vr)) (d : Bool), (addR kcK joinP c d l).length ≤ l.length + 1
  | [], d => by cases d <;> simp [addR]
  | x :: r, d => by
    have h1 := addR_len c r true; have h2 := addR_len c r d
    have h3 : ∀ l : List (Ky × Vr), (addR kcK joinP c true l).length ≤ l.length := by
      intro l
      induction l with
      | nil => simp [addR]
      | cons y l ih =>
        rw [addR]
        split
        · simpa using ih
        · rw [if_neg (by simp)]; simpa using ih
    have h4 := h3 r
    rw [addR]
    split
    · simp only [List.length_cons]; omega
    · split <;> (simp only [List.length_cons]; omega)
theorem Blk.put46 {w : World} {g : Nat} {t : TypeId} {a0 a1 a2 a3 a4 a5 a6 a7 a8 a9 : Value} (h : Blk w g t #[a0, a1, a2, a3, a4, a5, a6, a7, a8, a9]) (u4 u5 u6 u7 u8 u9 : Value) :
    Blk ((((((w.setCell ⟨g, 4, none⟩ u4).setCell ⟨g, 5, none⟩ u5).setCell ⟨g, 6, none⟩ u6).setCell ⟨g, 7, none⟩ u7).setCell ⟨g, 8, none⟩ u8).setCell ⟨g, 9, none⟩ u9) g t #[a0, a1, a2, a3, u4, u5, u6, u7, u8, u9] := by
  have h4 : Blk (w.setCell ⟨g, 4, none⟩ u4) g t #[a0, a1, a2, a3, u4, a5, a6, a7, a8, a9] := h.put 4 u4
  have h5 : Blk ((w.setCell ⟨g, 4, none⟩ u4).setCell ⟨g, 5, none⟩ u5) g t #[a0, a1, a2, a3, u4, u5, a6, a7, a8, a9] := h4.put 5 u5
  have h6 : Blk (((w.setCell ⟨g, 4, none⟩ u4).setCell ⟨g, 5, none⟩ u5).setCell ⟨g, 6, none⟩ u6) g t #[a0, a1, a2, a3, u4, u5, u6, a7, a8, a9] := h5.put 6 u6
  have h7 : Blk ((((w.setCell ⟨g, 4, none⟩ u4).setCell ⟨g, 5, none⟩ u5).setCell ⟨g, 6, none⟩ u6).setCell ⟨g, 7, none⟩ u7) g t #[a0, a1, a2, a3, u4, u5, u6, u7, a8, a9] := h6.put 7 u7
  have h8 : Blk (((((w.setCell ⟨g, 4, none⟩ u4).setCell ⟨g, 5, none⟩ u5).setCell ⟨g, 6, none⟩ u6).setCell ⟨g, 7, none⟩ u7).setCell ⟨g, 8, none⟩ u8) g t #[a0, a1, a2, a3, u4, u5, u6, u7, u8, a9] := h7.put 8 u8
  have h9 : Blk ((((((w.setCell ⟨g, 4, none⟩ u4).setCell ⟨g, 5, none⟩ u5).setCell ⟨g, 6, none⟩ u6).setCell ⟨g, 7, none⟩ u7).setCell ⟨g, 8, none⟩ u8).setCell ⟨g, 9, none⟩ u9) g t #[a0, a1, a2, a3, u4, u5, u6, u7, u8, u9] := h8.put 9 u9
  exact h9
/-- At a statement's end the world is forgotten but for what is said of it. -/
theorem wp_gen {K : Act → World → Prop} {a : Act} {W : World} (R : World → Prop) (hR : R W) (h : ∀ w2, R w2 → K a w2) : K a W := h W hR

theorem gb_set {w w1 : World} {g : Nat} (h : w.grownBy w1 (some g)) (i : Nat) (u : Value) : w.grownBy (w1.setCell ⟨g, i, none⟩ u) (some g) :=
  ⟨h.os, h.tape, h.output, by simpa [World.setCell] using h.size, fun k hk hne => (Below.heap_setCell w1 ⟨g, i, none⟩ u k (fun e => hne (by rw [e]))).trans (h.block k hk hne)⟩
theorem two_room (acc : List Cel) (x y : Cel) (n : Nat) (h : acc.length + 2 ≤ n + 1) (hl : (n + 1) * 112 ≤ 140737488355328) :
    (acc ++ [x]).length + [y].length ≤ 9223372036854775807 ∧ ((acc ++ [x]).length + [y].length) * eC.bytes ≤ 140737488355328 ∧ (acc ++ [x] ++ [y]).length = acc.length + 2 := by
  have e : (acc ++ [x]).length + [y].length = acc.length + 2 := by simp
  rw [e]
  refine ⟨by omega, ?_, by simp⟩
  show (acc.length + 2) * 112 ≤ _
  omega
theorem addR_eq (c x : Ky × Vr) (r : List (Ky × Vr)) (d : Bool) (h : kcK x.1 c.1 = 0) : addR kcK joinP c d (x :: r) = (x.1, joinP x.2 c.2) :: addR kcK joinP c true r := by rw [addR, if_pos h]
theorem addR_gt (c x : Ky × Vr) (r : List (Ky × Vr)) (h : 0 < kcK x.1 c.1) : addR kcK joinP c false (x :: r) = c :: x :: addR kcK joinP c true r := by rw [addR, if_neg (by omega), if_pos ⟨h, rfl⟩]
theorem addR_gt' (c x : Ky × Vr) (r : List (Ky × Vr)) (h : 0 < kcK x.1 c.1) : addR kcK joinP c true (x :: r) = x :: addR kcK joinP c true r := by rw [addR, if_neg (by omega), if_neg (by simp)]
theorem addR_lt (c x : Ky × Vr) (r : List (Ky × Vr)) (d : Bool) (h : kcK x.1 c.1 < 0) : addR kcK joinP c d (x :: r) = x :: addR kcK joinP c d r := by rw [addR, if_neg (by omega), if_neg (by omega)]

end Go.Proofs.YtplghaoflmaadaaGreatDoor
end

section
set_option linter.unusedVariables false
set_option linter.unusedSimpArgs false
set_option maxRecDepth 50000
namespace Go.Proofs.YtplghaoflmaadaaGreatDoor
open Go.RowKit Go.Sort

end Go.Proofs.YtplghaoflmaadaaGreatDoor
end
