/- Contracts of the reference's Norm and Find of cells, of its Old and Like. Condition: the row's own bounds. -/
import Derived.Test.YtmjeifbadjdnfaaDoorWj
set_option linter.unusedVariables false
set_option linter.unusedSimpArgs false
set_option maxRecDepth 50000
namespace Go.Proofs.YtmjeifbadjdnfaaDoor
open Go.RowKit Go.Sort
open Go.Lib hiding intOf

theorem normC_next (L : List Cel) (i : Nat) (hi : i < L.length) : normC (L.take (i + 1)) = addC L[i] (normC (L.take i)) := by
  unfold normC addC normL
  rw [List.take_succ_eq_append_getElem hi, List.map_append, List.foldl_append]
  rw [List.map_map, show toP ∘ ofP = id from rfl, List.map_id]; rfl
set_option maxHeartbeats 2000000 in
theorem rNormC_any (v : Value) (L : List Cel) (w : World) (hv : SlX eC w.heap.size w v L) (hl : Room L.length) :
    Calls Tryd.prog 40 #[v] w fun e w' => ∃ v', e = .returned v' ∧ OwnX eC w' w.heap.size v' (normC L) ∧ Below w.heap.size w w' := by
  have HV := Lib.hid hv
  obtain ⟨a, cap, rfl, hc, hx⟩ := hv.ex
  have HX := Lib.hid hx; clear hx hv
  unfold Room at hl
  go_enter Tryd.func40, Tryd.ntmps40
  go_wp2_with fail
  go_loopw [3, 5, 8] (fun v3 _ v8 wr => ∃ i : Nat, v8 = .int .i64 (i : Int) ∧ i ≤ L.length ∧ OwnX eC wr w.heap.size v3 (normC (L.take i)) ∧ Below w.heap.size w wr) (fun _ _ v8 _ => L.length - (intOf v8).toNat)
  case atStart => exact ⟨0, rfl, by omega, OwnX.nil _ _, Below.refl _ _⟩
  case round =>
    obtain ⟨i, rfl, hi, hO, hb⟩ := hrel
    have HB := Lib.hid hb; have OW := Lib.hid hO; clear hb hO
    by_cases hlt : i < L.length
    · have hz : (i : Int) < (L.length : Int) := by omega
      obtain ⟨gl, o, rfl, hgl2, _⟩ := HX.out (by omega)
      have ten := (Ten.of HV.out i hlt).keep HB.out
      have NX := Lib.hid (normC_next L i hlt)
      have RM := Lib.hid (show Room ((normC (L.take i)).length + 1) by
        have h1 := normC_len (L.take i); have h2 : (L.take i).length = i := by simp; omega
        unfold Room; omega)
      obtain ⟨N, hN⟩ : ∃ N, normC (L.take i) = N := ⟨_, rfl⟩
      rw [hN] at OW NX RM
      generalize L[i] = x at *
      have C := Lib.hid (addC_any _ N x _ ((OW.out.alloc (.cells (celEnc x).toArray 35)).sl) RM.out)
      have HB1 := Lib.hid (below_alloc HB.out (.cells (celEnc x).toArray 35))
      obtain ⟨c0, c1, c2, c3, c4, c5, c6, c7, c8, c9⟩ := ten
      rcases OW.out.form with ⟨rfl, _⟩ | ⟨g7, cp7, rfl, _⟩
      all_goals
        obtain ⟨⟨t, p, r, q⟩, ⟨tm, dd, lc, kd, nn, ss⟩⟩ := x
        simp only [celEnc] at *
        go_wp2_with fail
        refine C.out.mono ?_
        rintro e w1 ⟨v1, rfl, hO, hb⟩
        have HB2 := Lib.hid (below_tr HB1.out hb)
        have O2 := Lib.hid (show OwnX eC w1 w.heap.size v1 (normC (L.take (i + 1))) by rw [NX.out]; exact OwnX.weaken hO HB1.out.size)
        clear hb hO c0 c1 c2 c3 c4 c5 c6 c7 c8 c9
        go_wp2_with fail
        exact ⟨⟨i + 1, by first | rfl | go_num, by omega, O2.out, HB2.out⟩, by simp [intOf]; omega⟩
    · have hz : ¬ (i : Int) < (L.length : Int) := by omega
      have e : L.take i = L := List.take_of_length_le (by omega)
      rw [e] at OW
      rcases OW.out.form with ⟨rfl, hnn⟩ | ⟨g7, cp7, rfl, _⟩
      · clear hnn
        go_wp2_with fail
        go_ret
        exact ⟨.slice none 0 0, rfl, OW.out, HB.out⟩
      · go_wp2_with fail
        go_ret
        exact ⟨.slice (some ⟨g7, 0, none⟩) (normC L).length cp7, rfl, OW.out, HB.out⟩

set_option maxHeartbeats 2000000 in
theorem rFind_any (v : Value) (L : List Cel) (k : Ky) (w : World) (hv : SlX eC w.heap.size w v L) (hl : Room L.length) :
    Calls Tryd.prog 41 #[v, kyVal k] w fun e w' => e = .returned (.tuple #[.agg (vrEnc (findV L k)).toArray, .bool (findC L k).isSome]) ∧ Below w.heap.size w w' := by
  have b1 := (Blk.new w 29 #[.string k.t, .string k.p, .int .i64 k.r, .string k.c]).alloc (.cells #[.int .i64 0, .bool false, .int .i64 0, .int .i64 0, .int .i64 0, .string ⟨#[]⟩] 33)
  have b2 := Blk.new (w.alloc (.cells #[.string k.t, .string k.p, .int .i64 k.r, .string k.c] 29)) 33 #[.int .i64 0, .bool false, .int .i64 0, .int .i64 0, .int .i64 0, .string ⟨#[]⟩]
  have B0 := below_alloc (below_alloc (Below.refl _ w) (.cells #[.string k.t, .string k.p, .int .i64 k.r, .string k.c] 29)) (.cells #[.int .i64 0, .bool false, .int .i64 0, .int .i64 0, .int .i64 0, .string ⟨#[]⟩] 33)
  rw [show (w.alloc (.cells #[.string k.t, .string k.p, .int .i64 k.r, .string k.c] 29)).heap.size = w.heap.size + 1 by simp] at b2
  have HV := Lib.hid (hv.keep B0)
  obtain ⟨a, cap, rfl, _, hx⟩ := hv.ex
  have HX := Lib.hid hx
  have HB0 := Lib.hid B0; have B2 := Lib.hid b2; have B1 := Lib.hid b1
  obtain ⟨RV, hRV⟩ : ∃ R, findV L k = R := ⟨_, rfl⟩
  obtain ⟨RB, hRB⟩ : ∃ R, (findC L k).isSome = R := ⟨_, rfl⟩
  rw [hRV, hRB]
  have HRV := Lib.hid hRV; have HRB := Lib.hid hRB
  have KQ := Lib.hid (fun (x : Cel) w => show (binOp .eql 29 (.agg #[.string x.k.t, .string x.k.p, .int .i64 x.k.r, .string x.k.c]) (.agg #[.string k.t, .string k.p, .int .i64 k.r, .string k.c])).run Tryd.prog w = .ok (.bool (decide (x.k = k))) w by rw [← keyEq_dec]; exact key_eql w _ _ _ _ _ _ _ _)
  unfold Room at hl
  clear b1 b2 B0 hv hx hRV hRB
  unfold kyVal
  go_enter Tryd.func41, Tryd.ntmps41
  go_wp2_with fail
  generalize hW0 : (w.alloc (.cells #[.string k.t, .string k.p, .int .i64 k.r, .string k.c] 29)).alloc (.cells #[.int .i64 0, .bool false, .int .i64 0, .int .i64 0, .int .i64 0, .string ⟨#[]⟩] 33) = W0 at *
  have hsz : w.heap.size + 1 < W0.heap.size := by rw [← hW0]; simp
  have HSZ := Lib.hid hsz
  clear hW0 hsz
  go_loopw [7, 10] (fun _ v10 wr => ∃ i : Nat, v10 = .int .i64 (i : Int) ∧ i ≤ L.length ∧ Hid (∀ x ∈ L.take i, decide (x.k = k) = false) ∧ Below W0.heap.size W0 wr) (fun _ v10 _ => L.length - (intOf v10).toNat)
  case atStart => exact ⟨0, rfl, by omega, Lib.hid (by simp), Below.refl _ _⟩
  case round =>
    obtain ⟨i, rfl, hi, HN, hb⟩ := hrel
    have HB := Lib.hid hb
    have z := B2.out.below hb
    have z0 := z.cell 0 rfl; have z1 := z.cell 1 rfl; have z2 := z.cell 2 rfl; have z3 := z.cell 3 rfl; have z4 := z.cell 4 rfl; have z5 := z.cell 5 rfl
    have fz := z.frozen
    have y := B1.out.below hb
    have y0 := y.cell 0 rfl; have y1 := y.cell 1 rfl; have y2 := y.cell 2 rfl; have y3 := y.cell 3 rfl
    have Z := Lib.hid z
    have wl : w.heap.size + 1 < wr.heap.size := Nat.lt_of_lt_of_le HSZ.out hb.size
    have wl2 : w.heap.size < wr.heap.size := by omega
    clear hb z y
    by_cases hlt : i < L.length
    · have hz : (i : Int) < (L.length : Int) := by omega
      obtain ⟨gl, o, rfl, hgl2, _⟩ := HX.out (by omega)
      have ten := (Ten.of HV.out i hlt).keep HB.out
      have YES := Lib.hid (fun (h : decide (L[i].k = k) = true) => findC_at hlt h HN.out)
      have NO := Lib.hid (fun (h : decide (L[i].k = k) = false) => show ∀ x ∈ L.take (i + 1), decide (x.k = k) = false by
        rw [List.take_succ_eq_append_getElem hlt]
        intro x hx
        rcases List.mem_append.1 hx with hx | hx
        · exact HN.out x hx
        · rw [List.mem_singleton.1 hx]; exact h)
      have kq := KQ.out L[i]
      have HB1 := Lib.hid (below_alloc HB.out (.cells (celEnc L[i]).toArray 35))
      have HBB := Lib.hid (below_tr HB0.out HB.out)
      have Z1 := Lib.hid (Z.out.alloc (.cells (celEnc L[i]).toArray 35))
      generalize decide (L[i].k = k) = bi at *
      generalize L[i] = x at *
      obtain ⟨c0, c1, c2, c3, c4, c5, c6, c7, c8, c9⟩ := ten
      obtain ⟨⟨t, p, r, q⟩, ⟨tm, dd, lc, kd, nn, ss⟩⟩ := x
      simp only [celEnc] at *
      cases bi with
      | true =>
        have fc := YES.out (by trivial)
        have F1 := Lib.hid (show RV = ⟨tm, dd, lc, kd, nn, ss⟩ by rw [← HRV.out]; unfold findV; rw [fc]; rfl)
        have F2 := Lib.hid (show RB = true by rw [← HRB.out, fc]; rfl)
        clear fc YES NO
        go_wp2_with fail
        refine ret_gen (fun w2 => Blk w2 (w.heap.size + 1) 33 #[.int .i64 tm, .bool dd, .int .i64 lc, .int .i64 kd, .int .i64 nn, .string ss] ∧ Below w.heap.size w w2) ⟨(Z.out.put6 _ _ _ _ _ _).alloc _, by repeat (first | with_reducible exact HBB.out | with_reducible refine below_alloc ?_ _ | with_reducible refine Below.setCell ?_ (by simp) _)⟩ ?_
        rintro w2 ⟨bk, hb2⟩
        exact bodyPost_ret (v := .tuple #[.agg #[.int .i64 tm, .bool dd, .int .i64 lc, .int .i64 kd, .int .i64 nn, .string ss], .bool true]) (by simp [results, Tryd.results41, go_sem, bk.cell 0 rfl, bk.cell 1 rfl, bk.cell 2 rfl, bk.cell 3 rfl, bk.cell 4 rfl, bk.cell 5 rfl]) rfl ⟨by rw [F1.out, F2.out]; rfl, hb2⟩
      | false =>
        have N := Lib.hid (NO.out (by trivial))
        go_wp2_with fail
        exact ⟨⟨i + 1, by first | rfl | go_num, by omega, N, HB1.out⟩, by simp [intOf]; omega⟩
    · have hz : ¬ (i : Int) < (L.length : Int) := by omega
      have e : L.take i = L := List.take_of_length_le (by omega)
      have hn := HN.out
      rw [e] at hn
      have fc := findC_none hn
      have F1 := Lib.hid (show RV = zVr by rw [← HRV.out]; unfold findV; rw [fc]; rfl)
      have F2 := Lib.hid (show RB = false by rw [← HRB.out, fc]; rfl)
      have HBB := Lib.hid (below_tr HB0.out HB.out)
      clear hn e HN fc
      go_wp2_with fail
      refine ret_gen (fun w2 => Blk w2 (w.heap.size + 1) 33 #[.int .i64 0, .bool false, .int .i64 0, .int .i64 0, .int .i64 0, .string ⟨#[]⟩] ∧ Below w.heap.size w w2) ⟨Z.out.put6 _ _ _ _ _ _, by repeat (first | with_reducible exact HBB.out | refine Below.setCell ?_ (by simp) _)⟩ ?_
      rintro w2 ⟨bk, hb2⟩
      exact bodyPost_ret (v := .tuple #[.agg #[.int .i64 0, .bool false, .int .i64 0, .int .i64 0, .int .i64 0, .string ⟨#[]⟩], .bool false]) (by simp [results, Tryd.results41, go_sem, bk.cell 0 rfl, bk.cell 1 rfl, bk.cell 2 rfl, bk.cell 3 rfl, bk.cell 4 rfl, bk.cell 5 rfl]) rfl ⟨by rw [F1.out, F2.out]; rfl, hb2⟩

theorem rOld_any (v : Vr) (now g : Int) (w : World) (h1 : In64 v.loc) (h2 : In64 now) (h3 : In64 g) : Calls Tryd.prog 14 #[.agg (vrEnc v).toArray, .int .i64 now, .int .i64 g] w fun e w' => e = .returned (.bool (oldV v now g)) ∧ Below w.heap.size w w' := by
  obtain ⟨t, d, l, k, n, s⟩ := v
  unfold In64 at h1 h2 h3
  have HB := Lib.hid (below_alloc (Below.refl _ w) (.cells (vrEnc ⟨t, d, l, k, n, s⟩).toArray 33))
  simp only [vrEnc, oldV] at *
  cases d with
  | false =>
    by_cases hg : g < 0
    all_goals
      clear h1 h2 h3
      go_enter Tryd.func14, Tryd.ntmps14
      go_wp2_with fail
      go_ret
      exact ⟨rfl, HB.out⟩
  | true =>
    by_cases hl : l ≤ now
    · have hw : IntKind.u64.wrap (IntKind.u64.wrap now - IntKind.u64.wrap l) = now - l := by simp only [IntKind.wrap_u64]; omega
      have HW := Lib.hid hw
      rw [decide_eq_true hl]
      by_cases hg : g < 0
      · rw [show max g 0 = 0 by omega]
        have H0 := Lib.hid (show (0 : Int) ≤ now - l by omega)
        clear h1 h2 h3 hw
        have hw := HW.out
        go_enter Tryd.func14, Tryd.ntmps14
        go_wp2_with fail
        go_ret
        exact ⟨by first | rfl | (rw [decide_eq_true H0.out]; rfl) | (simp [HW.out, H0.out]), HB.out⟩
      · have hw2 : IntKind.u64.wrap g = g := by rw [IntKind.wrap_u64]; omega
        rw [show max g 0 = g by omega]
        have HW2 := Lib.hid hw2
        clear h1 h2 h3 hw hw2
        have hw := HW.out; have hw2 := HW2.out
        go_enter Tryd.func14, Tryd.ntmps14
        go_wp2_with fail
        go_ret
        exact ⟨by first | rfl | (simp [HW.out, HW2.out]), HB.out⟩
    · rw [decide_eq_false hl]
      have hl2 : now < l := by omega
      by_cases hg : g < 0
      all_goals
        clear h1 h2 h3
        go_enter Tryd.func14, Tryd.ntmps14
        go_wp2_with fail
        go_ret
        exact ⟨rfl, HB.out⟩

set_option maxRecDepth 1000000 in
theorem celNe (d : Nat) (w : World) (x : Cel) : (Op.equalIn (d + 4) 35 (.agg (celEnc x).toArray) (.agg (celEnc x).toArray)).run Tryd.prog w = .ok true w := by
  have hk := keyIn (d + 1) w x.k.t x.k.p x.k.c x.k.t x.k.p x.k.c x.k.r x.k.r
  rw [keyEq_dec, decide_eq_true rfl] at hk
  have hv := verIn d w x.v x.v
  rw [(verEq_iff _ _).2 rfl] at hv
  obtain ⟨⟨t, p, r, q⟩, ⟨tm, dd, lc, kd, nn, ss⟩⟩ := x
  show _ = Result.ok (true && (true && true)) w
  refine eqS Tryd.underlying35 (by kernel_rfl) ?_
  refine eqF (by rfl) (by simp only [celEnc]; go_simp <;> rfl) (by simp only [celEnc]; go_simp <;> rfl) hk ?_
  refine eqF (by rfl) (by simp only [celEnc]; go_simp <;> rfl) (by simp only [celEnc]; go_simp <;> rfl) hv ?_
  exact eqN
theorem cel_neq (w : World) (x : Cel) : (binOp .neq 35 (.agg (celEnc x).toArray) (.agg (celEnc x).toArray)).run Tryd.prog w = .ok (.bool false) w := by
  rw [run_neq_struct, celNe 9996]; rfl
end Go.Proofs.YtmjeifbadjdnfaaDoor
