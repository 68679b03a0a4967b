/- Contracts of the reference's Norm and Find of cells, of its Old and Like. Condition: the row's own bounds. Plain laws of the cells that a table's law writes: the Norm of the good ones. No program in sight; no condition. Contracts of the reference's Like, of purge.Cells beside any lists, of the reference's Cells. Condition: the row's own bounds. -/
import Derived.Test.YtplghaoflmaadaaGreatDoorZ26
import Derived.Test.YtplghaoflmaadaaGreatDoorZ27
section
set_option linter.unusedVariables false
set_option linter.unusedSimpArgs false
set_option maxRecDepth 50000
namespace Go.Proofs.YtplghaoflmaadaaGreatDoor
open Go.RowKit Go.Sort
open Go.Lib hiding intOf

theorem normC_next (L : List Cel) (i : Nat) (hi : i < L.length) : normC (L.take (i + 1)) = addC L[i] (normC (L.take i)) := by
  unfold normC addC normL
  rw [List.take_succ_eq_append_getElem hi, List.map_append, List.foldl_append]
  rw [List.map_map, show toP ∘ ofP = id from rfl, List.map_id]; rfl
set_option maxHeartbeats 2000000 in
theorem rFind_any (v : Value) (L : List Cel) (k : Ky) (w : World) (hv : SlX eC w.heap.size w v L) (hl : Room L.length) :
    Calls Tryz.prog 55 #[v, kyVal k] w fun e w' => e = .returned (.tuple #[.agg (vrEnc (findV L k)).toArray, .bool (findC L k).isSome]) ∧ Below w.heap.size w w' := by
  have b1 := (Blk.new w 24 #[.string k.t, .string k.p, .int .i64 k.r, .string k.c]).alloc (.cells #[.int .i64 0, .bool false, .int .i64 0, .int .i64 0, .int .i64 0, .string ⟨#[]⟩] 49)
  have b2 := Blk.new (w.alloc (.cells #[.string k.t, .string k.p, .int .i64 k.r, .string k.c] 24)) 49 #[.int .i64 0, .bool false, .int .i64 0, .int .i64 0, .int .i64 0, .string ⟨#[]⟩]
  have B0 := below_alloc (below_alloc (Below.refl _ w) (.cells #[.string k.t, .string k.p, .int .i64 k.r, .string k.c] 24)) (.cells #[.int .i64 0, .bool false, .int .i64 0, .int .i64 0, .int .i64 0, .string ⟨#[]⟩] 49)
  rw [show (w.alloc (.cells #[.string k.t, .string k.p, .int .i64 k.r, .string k.c] 24)).heap.size = w.heap.size + 1 by simp] at b2
  have HV := Lib.hid (hv.keep B0)
  obtain ⟨a, cap, rfl, _, hx⟩ := hv.ex
  have HX := Lib.hid hx
  have HB0 := Lib.hid B0; have B2 := Lib.hid b2; have B1 := Lib.hid b1
  obtain ⟨RV, hRV⟩ : ∃ R, findV L k = R := ⟨_, rfl⟩
  obtain ⟨RB, hRB⟩ : ∃ R, (findC L k).isSome = R := ⟨_, rfl⟩
  rw [hRV, hRB]
  have HRV := Lib.hid hRV; have HRB := Lib.hid hRB
  have KQ := Lib.hid (fun (x : Cel) w => show (binOp .eql 24 (.agg #[.string x.k.t, .string x.k.p, .int .i64 x.k.r, .string x.k.c]) (.agg #[.string k.t, .string k.p, .int .i64 k.r, .string k.c])).run Tryz.prog w = .ok (.bool (decide (x.k = k))) w by rw [← keyEq_dec]; exact key_eql w _ _ _ _ _ _ _ _)
  unfold Room at hl
  clear b1 b2 B0 hv hx hRV hRB
  unfold kyVal
  go_enter Tryz.func55, Tryz.ntmps55
  go_wp2_with fail
  generalize hW0 : (w.alloc (.cells #[.string k.t, .string k.p, .int .i64 k.r, .string k.c] 24)).alloc (.cells #[.int .i64 0, .bool false, .int .i64 0, .int .i64 0, .int .i64 0, .string ⟨#[]⟩] 49) = W0 at *
  have hsz : w.heap.size + 1 < W0.heap.size := by rw [← hW0]; simp
  have HSZ := Lib.hid hsz
  clear hW0 hsz
  go_loopw [7, 10] (fun _ v10 wr => ∃ i : Nat, v10 = .int .i64 (i : Int) ∧ i ≤ L.length ∧ Hid (∀ x ∈ L.take i, decide (x.k = k) = false) ∧ Below W0.heap.size W0 wr) (fun _ v10 _ => L.length - (intOf v10).toNat)
  case atStart => exact ⟨0, rfl, by omega, Lib.hid (by simp), Below.refl _ _⟩
  case round =>
    obtain ⟨i, rfl, hi, HN, hb⟩ := hrel
    have HB := Lib.hid hb
    have z := B2.out.below hb
    have z0 := z.cell 0 rfl; have z1 := z.cell 1 rfl; have z2 := z.cell 2 rfl; have z3 := z.cell 3 rfl; have z4 := z.cell 4 rfl; have z5 := z.cell 5 rfl
    have fz := z.frozen
    have y := B1.out.below hb
    have y0 := y.cell 0 rfl; have y1 := y.cell 1 rfl; have y2 := y.cell 2 rfl; have y3 := y.cell 3 rfl
    have Z := Lib.hid z
    have wl : w.heap.size + 1 < wr.heap.size := Nat.lt_of_lt_of_le HSZ.out hb.size
    have wl2 : w.heap.size < wr.heap.size := by omega
    clear hb z y
    by_cases hlt : i < L.length
    · have hz : (i : Int) < (L.length : Int) := by omega
      obtain ⟨gl, o, rfl, hgl2, _⟩ := HX.out (by omega)
      have ten := (Ten.of HV.out i hlt).keep HB.out
      have YES := Lib.hid (fun (h : decide (L[i].k = k) = true) => findC_at hlt h HN.out)
      have NO := Lib.hid (fun (h : decide (L[i].k = k) = false) => show ∀ x ∈ L.take (i + 1), decide (x.k = k) = false by
        rw [List.take_succ_eq_append_getElem hlt]
        intro x hx
        rcases List.mem_append.1 hx with hx | hx
        · exact HN.out x hx
        · rw [List.mem_singleton.1 hx]; exact h)
      have kq := KQ.out L[i]
      have HB1 := Lib.hid (below_alloc HB.out (.cells (celEnc L[i]).toArray 61))
      have HBB := Lib.hid (below_tr HB0.out HB.out)
      have Z1 := Lib.hid (Z.out.alloc (.cells (celEnc L[i]).toArray 61))
      generalize decide (L[i].k = k) = bi at *
      generalize L[i] = x at *
      obtain ⟨c0, c1, c2, c3, c4, c5, c6, c7, c8, c9⟩ := ten
      obtain ⟨⟨t, p, r, q⟩, ⟨tm, dd, lc, kd, nn, ss⟩⟩ := x
      simp only [celEnc] at *
      cases bi with
      | true =>
        have fc := YES.out (by trivial)
        have F1 := Lib.hid (show RV = ⟨tm, dd, lc, kd, nn, ss⟩ by rw [← HRV.out]; unfold findV; rw [fc]; rfl)
        have F2 := Lib.hid (show RB = true by rw [← HRB.out, fc]; rfl)
        clear fc YES NO
        go_wp2_with fail
        refine ret_gen (fun w2 => Blk w2 (w.heap.size + 1) 49 #[.int .i64 tm, .bool dd, .int .i64 lc, .int .i64 kd, .int .i64 nn, .string ss] ∧ Below w.heap.size w w2) ⟨(Z.out.put6 _ _ _ _ _ _).alloc _, by repeat (first | with_reducible exact HBB.out | with_reducible refine below_alloc ?_ _ | with_reducible refine Below.setCell ?_ (by simp) _)⟩ ?_
        rintro w2 ⟨bk, hb2⟩
        exact bodyPost_ret (v := .tuple #[.agg #[.int .i64 tm, .bool dd, .int .i64 lc, .int .i64 kd, .int .i64 nn, .string ss], .bool true]) (by simp [results, Tryz.results55, go_sem, bk.cell 0 rfl, bk.cell 1 rfl, bk.cell 2 rfl, bk.cell 3 rfl, bk.cell 4 rfl, bk.cell 5 rfl]) rfl ⟨by rw [F1.out, F2.out]; rfl, hb2⟩
      | false =>
        have N := Lib.hid (NO.out (by trivial))
        go_wp2_with fail
        exact ⟨⟨i + 1, by first | rfl | go_num, by omega, N, HB1.out⟩, by simp [intOf]; omega⟩
    · have hz : ¬ (i : Int) < (L.length : Int) := by omega
      have e : L.take i = L := List.take_of_length_le (by omega)
      have hn := HN.out
      rw [e] at hn
      have fc := findC_none hn
      have F1 := Lib.hid (show RV = zVr by rw [← HRV.out]; unfold findV; rw [fc]; rfl)
      have F2 := Lib.hid (show RB = false by rw [← HRB.out, fc]; rfl)
      have HBB := Lib.hid (below_tr HB0.out HB.out)
      clear hn e HN fc
      go_wp2_with fail
      refine ret_gen (fun w2 => Blk w2 (w.heap.size + 1) 49 #[.int .i64 0, .bool false, .int .i64 0, .int .i64 0, .int .i64 0, .string ⟨#[]⟩] ∧ Below w.heap.size w w2) ⟨Z.out.put6 _ _ _ _ _ _, by repeat (first | with_reducible exact HBB.out | refine Below.setCell ?_ (by simp) _)⟩ ?_
      rintro w2 ⟨bk, hb2⟩
      exact bodyPost_ret (v := .tuple #[.agg #[.int .i64 0, .bool false, .int .i64 0, .int .i64 0, .int .i64 0, .string ⟨#[]⟩], .bool false]) (by simp [results, Tryz.results55, go_sem, bk.cell 0 rfl, bk.cell 1 rfl, bk.cell 2 rfl, bk.cell 3 rfl, bk.cell 4 rfl, bk.cell 5 rfl]) rfl ⟨by rw [F1.out, F2.out]; rfl, hb2⟩

set_option maxRecDepth 1000000 in
theorem celNe (d : Nat) (w : World) (x : Cel) : (Op.equalIn (d + 4) 61 (.agg (celEnc x).toArray) (.agg (celEnc x).toArray)).run Tryz.prog w = .ok true w := by
  have hk := keyIn (d + 1) w x.k.t x.k.p x.k.c x.k.t x.k.p x.k.c x.k.r x.k.r
  rw [keyEq_dec, decide_eq_true rfl] at hk
  have hv := verIn d w x.v x.v
  rw [(verEq_iff _ _).2 rfl] at hv
  obtain ⟨⟨t, p, r, q⟩, ⟨tm, dd, lc, kd, nn, ss⟩⟩ := x
  show _ = Result.ok (true && (true && true)) w
  refine eqS Tryz.underlying61 (by kernel_rfl) ?_
  refine eqF (by rfl) (by simp only [celEnc]; go_simp <;> rfl) (by simp only [celEnc]; go_simp <;> rfl) hk ?_
  refine eqF (by rfl) (by simp only [celEnc]; go_simp <;> rfl) (by simp only [celEnc]; go_simp <;> rfl) hv ?_
  exact eqN
theorem cel_neq (w : World) (x : Cel) : (binOp .neq 61 (.agg (celEnc x).toArray) (.agg (celEnc x).toArray)).run Tryz.prog w = .ok (.bool false) w := by
  rw [run_neq_struct, celNe 9996]; rfl
end Go.Proofs.YtplghaoflmaadaaGreatDoor
end

section
set_option linter.unusedVariables false
set_option linter.unusedSimpArgs false
set_option maxRecDepth 50000
namespace Go.Proofs.YtplghaoflmaadaaGreatDoor

theorem step_mem {κ ν : Type} [DecidableEq κ] {jn : ν → ν → ν} (hj : ∀ a b, jn a b = a ∨ jn a b = b) (k : κ) : ∀ (l : List (κ × ν)) (o : Option ν) (v : ν), l.foldl (stepO jn k) o = some v → o = some v ∨ (k, v) ∈ l
  | [], o, v, h => .inl h
  | c :: l, o, v, h => by
    rw [List.foldl_cons] at h
    rcases step_mem hj k l _ v h with h1 | h1
    · unfold stepO at h1
      split at h1
      · rename_i hc
        cases o with
        | none =>
          injection h1 with h1
          right; rw [← hc, ← h1]; exact List.mem_cons_self ..
        | some u =>
          simp only [Option.some.injEq] at h1
          rcases hj u c.2 with h2 | h2
          · left; rw [← h1, h2]
          · right; rw [← hc, ← h1, h2]; exact List.mem_cons_self ..
      · exact .inl h1
    · exact .inr (List.mem_cons_of_mem _ h1)
theorem step_some {κ ν : Type} [DecidableEq κ] {jn : ν → ν → ν} (k : κ) : ∀ (l : List (κ × ν)) (o : Option ν), (o.isSome = true ∨ ∃ c ∈ l, c.1 = k) → (l.foldl (stepO jn k) o).isSome = true
  | [], o, h => by
    rcases h with h | ⟨c, hc, _⟩
    · exact h
    · simp at hc
  | c :: l, o, h => by
    rw [List.foldl_cons]
    refine step_some k l _ ?_
    by_cases hc : c.1 = k
    · left; unfold stepO; rw [if_pos hc]; rfl
    · have e : stepO jn k o c = o := if_neg hc
      rw [e]
      rcases h with h | ⟨x, hx, hk⟩
      · exact .inl h
      · rcases List.mem_cons.1 hx with rfl | hx
        · exact absurd hk hc
        · exact .inr ⟨x, hx, hk⟩
theorem joinP_one (a b : Vr) : joinP a b = a ∨ joinP a b = b := by unfold joinP; split <;> simp
theorem of_to (c : Cel) : ofP (toP c) = c := rfl
theorem to_of (p : Ky × Vr) : toP (ofP p) = p := rfl
theorem norm_sorted (L : List Cel) : (normC L).Pairwise (fun a b => kcK a.k b.k < 0) := by
  unfold normC
  exact List.pairwise_map.2 (normL_sorted kcK_ord (L.map toP))
theorem norm_mem {L : List Cel} {c : Cel} (h : c ∈ normC L) : c ∈ L := by
  unfold normC at h
  obtain ⟨p, hp, rfl⟩ := List.mem_map.1 h
  have h1 := SortedK.find kcK_ord (normL_sorted kcK_ord (L.map toP)) hp
  rw [normL_find kcK_ord] at h1
  rcases step_mem joinP_one _ _ _ _ h1 with h2 | h2
  · cases h2
  · obtain ⟨x, hx, e⟩ := List.mem_map.1 h2
    have : x = ofP p := by rw [← of_to x, e]
    rw [← this]; exact hx
theorem norm_has {L : List Cel} {c : Cel} (h : c ∈ L) : ∃ x ∈ normC L, x.k = c.k := by
  have h1 := step_some (jn := joinP) c.k (L.map toP) none (.inr ⟨toP c, List.mem_map.2 ⟨c, h, rfl⟩, rfl⟩)
  rw [← normL_find kcK_ord] at h1
  cases e : findO (normL kcK joinP (L.map toP)) c.k with
  | none => rw [e] at h1; cases h1
  | some v =>
    exact ⟨ofP (c.k, v), List.mem_map.2 ⟨_, findO_some _ _ _ e, rfl⟩, rfl⟩
theorem pair_nodup {L : List Cel} (h : L.Pairwise (fun a b => kcK a.k b.k < 0)) : L.Nodup := by
  refine List.Pairwise.imp (fun {a b} hab e => ?_) h
  subst e
  rw [kcK_ord.self] at hab; omega
theorem inc_of_pair {L : List Cel} (h : L.Pairwise (fun a b => kcK a.k b.k < 0)) : IncC L L.length := fun i h1 _ => List.pairwise_iff_getElem.1 h i (i + 1) (by omega) h1 (by omega)
theorem wt_perm {A B : List Cel} (h : A.Perm B) : wt A = wt B := (h.map wC).sum_nat
open Classical in
theorem wt_sub : ∀ (A B : List Cel), A.Nodup → (∀ c ∈ A, c ∈ B) → wt A ≤ wt B
  | [], B, _, _ => by simp [wt]
  | a :: A, B, hn, hs => by
    have ha := hs a (List.mem_cons_self ..)
    have hp := List.perm_cons_erase ha
    rw [wt_perm hp]
    have hn' := List.nodup_cons.1 hn
    have := wt_sub A (B.erase a) hn'.2 (fun c hc => by
      have hne : c ≠ a := fun e => hn'.1 (e ▸ hc)
      exact (List.mem_erase_of_ne hne).2 (hs c (List.mem_cons_of_mem _ hc)))
    simp only [wt, List.map_cons, List.sum_cons] at *
    omega
theorem wt_norm (L : List Cel) : wt (normC L) ≤ wt L := wt_sub _ _ (pair_nodup (norm_sorted L)) (fun c hc => norm_mem hc)
theorem wt_filter (L : List Cel) (p : Cel → Bool) : wt (L.filter p) ≤ wt L := by
  induction L with
  | nil => simp
  | cons a L ih =>
    simp only [List.filter_cons]
    split <;> simp only [wt, List.map_cons, List.sum_cons] at * <;> omega
theorem norm_ok {L : List Cel} (h0 : 0 < L.length) (hm : L.length ≤ 20000) (hg : ∀ c ∈ L, goodC c = true) : OkT (normC L) := by
  refine ⟨?_, Nat.le_trans (normC_len L) hm, inc_of_pair (norm_sorted L), fun c hc => hg c (norm_mem hc)⟩
  obtain ⟨x, hx, _⟩ := norm_has (List.getElem_mem h0)
  exact List.length_pos_of_mem hx
theorem norm_nil : normC [] = [] := rfl
/-- what a law on good cells knows of them -/
structure GoodT (L M : List Cel) : Prop where
  ok : OkT M
  fit : FitT M
  ct : ∀ c ∈ M, CelT c
  wt : wt M ≤ 400
  cin : ∀ c ∈ M, CelIn c
  mem : ∀ c ∈ L, goodC c = true → ∃ x ∈ M, x.k = c.k
theorem goodT_of {L : List Cel} (hi : ∀ c ∈ L, CelIn c) (hw : wt L ≤ 400) (h0 : 0 < (L.filter goodC).length) : GoodT L (normC (L.filter goodC)) := by
  have hw2 := Nat.le_trans (Nat.le_trans (wt_norm (L.filter goodC)) (wt_filter L goodC)) hw
  have hi2 : ∀ c ∈ normC (L.filter goodC), CelIn c := fun c hc => hi c (List.mem_filter.1 (norm_mem hc)).1
  obtain ⟨f1, f2, f3, _⟩ := fit_light hi2 hw2
  have hlen : (L.filter goodC).length ≤ 20000 := by
    have h1 := List.length_filter_le goodC L
    have h2 := wt_len L
    omega
  refine ⟨norm_ok h0 hlen (fun c hc => (List.mem_filter.1 hc).2), f1, f2, hw2, hi2, fun c hc hg => norm_has (List.mem_filter.2 ⟨hc, hg⟩)⟩
end Go.Proofs.YtplghaoflmaadaaGreatDoor
end

section
set_option linter.unusedVariables false
set_option linter.unusedSimpArgs false
set_option maxRecDepth 50000
namespace Go.Proofs.YtplghaoflmaadaaGreatDoor
open Go.RowKit Go.Sort
open Go.Lib hiding intOf

set_option maxHeartbeats 2000000 in
theorem like_any (v1 v2 : Value) (L : List Cel) (w : World) (hv1 : SlX eC w.heap.size w v1 L) (hv2 : SlX eC w.heap.size w v2 L) (hl : Room L.length) :
    Calls Tryz.prog 29 #[v1, v2] w fun e w' => e = .returned (.bool true) ∧ Below w.heap.size w w' := by
  have HV1 := Lib.hid hv1; have HV2 := Lib.hid hv2
  obtain ⟨a1, cap1, rfl, hc1, hx1⟩ := hv1.ex
  obtain ⟨a2, cap2, rfl, hc2, hx2⟩ := hv2.ex
  have HX1 := Lib.hid hx1; have HX2 := Lib.hid hx2; clear hx1 hx2 hv1 hv2
  unfold Room at hl
  have hne : ((L.length : Int) != (L.length : Int)) = false := by simp
  go_enter Tryz.func29, Tryz.ntmps29
  go_wp2_with fail
  clear hne
  go_loopw [5, 13] (fun _ v13 wr => ∃ i : Nat, v13 = .int .i64 (i : Int) ∧ i ≤ L.length ∧ Below w.heap.size w wr) (fun _ v13 _ => L.length - (intOf v13).toNat)
  case atStart => exact ⟨0, rfl, by omega, Below.refl _ _⟩
  case round =>
    obtain ⟨i, rfl, hi, hb⟩ := hrel
    have HB := Lib.hid hb; clear hb
    by_cases hlt : i < L.length
    · have hz : (i : Int) < (L.length : Int) := by omega
      obtain ⟨g1, o1, rfl, hg1, _⟩ := HX1.out (by omega)
      obtain ⟨g2, o2, rfl, hg2, _⟩ := HX2.out (by omega)
      have ten1 := (Ten.of HV1.out i hlt).keep HB.out
      have ten2 := (Ten.of HV2.out i hlt).keep HB.out
      have NQ := Lib.hid (fun w => cel_neq w L[i])
      generalize L[i] = x at *
      have k1 := fun dr os => ten1.keep (below_regrown wr dr os)
      have k2 := fun dr os => ten2.keep (below_regrown wr dr os)
      have f0 := fun dr os => (k1 dr os).c0; have f1 := fun dr os => (k1 dr os).c1; have f2 := fun dr os => (k1 dr os).c2; have f3 := fun dr os => (k1 dr os).c3; have f4 := fun dr os => (k1 dr os).c4
      have f5 := fun dr os => (k1 dr os).c5; have f6 := fun dr os => (k1 dr os).c6; have f7 := fun dr os => (k1 dr os).c7; have f8 := fun dr os => (k1 dr os).c8; have f9 := fun dr os => (k1 dr os).c9
      have h0 := fun dr os => (k2 dr os).c0; have h1 := fun dr os => (k2 dr os).c1; have h2 := fun dr os => (k2 dr os).c2; have h3 := fun dr os => (k2 dr os).c3; have h4 := fun dr os => (k2 dr os).c4
      have h5 := fun dr os => (k2 dr os).c5; have h6 := fun dr os => (k2 dr os).c6; have h7 := fun dr os => (k2 dr os).c7; have h8 := fun dr os => (k2 dr os).c8; have h9 := fun dr os => (k2 dr os).c9
      clear k1 k2 ten1 ten2
      obtain ⟨⟨t, p, r, q⟩, ⟨tm, dd, lc, kd, nn, ss⟩⟩ := x
      simp only [celEnc] at *
      have nq := NQ.out
      go_wp2_with fail
      refine wp_region_quiet_below (by kernel_rfl) (by kernel_rfl) ?_
      repeat (quiet_step (fail))
      refine wpQuiet_nil ?_
      intro w3 hw3
      have HB3 := Lib.hid (below_tr HB.out (regrown_below hw3))
      clear hw3 f0 f1 f2 f3 f4 f5 f6 f7 f8 f9 h0 h1 h2 h3 h4 h5 h6 h7 h8 h9
      go_wp2_with fail
      exact ⟨⟨i + 1, by first | rfl | go_num, by omega, HB3.out⟩, by simp [intOf]; omega⟩
    · have hz : ¬ (i : Int) < (L.length : Int) := by omega
      go_wp2_with fail
      go_ret
      exact ⟨rfl, HB.out⟩

end Go.Proofs.YtplghaoflmaadaaGreatDoor
end
