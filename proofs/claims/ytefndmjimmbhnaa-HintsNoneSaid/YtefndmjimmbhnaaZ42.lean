/- Contracts of hints' without and Drop, wherever the power fails. Conditions: as told. Contract of hints' Drop, wherever the power fails. Conditions: as told. -/
import Derived.Test.YtefndmjimmbhnaaZ41
section
set_option linter.unusedVariables false
set_option linter.unusedSimpArgs false
set_option maxRecDepth 50000
namespace Go.Proofs.Ytefndmjimmbhnaa
open Go.RowKit Go.Shelf

theorem HnsF.nil (W : World) (D : Dsk) (gh : Nat) : HnsF W D gh [] [] := ⟨rfl, by intro i h1; simp at h1⟩
theorem HnsF.cons {W : World} {D : Dsk} {gh : Nat} {q : Hq} {x : Hn} {qs : List Hq} {l : List Hn} : HnsF W D gh (q :: qs) (x :: l) ↔ (q.id = x.id ∧ q.nd = x.nd ∧ q.tm = x.tm ∧ SlF eC W D gh q.val x.L) ∧ HnsF W D gh qs l := by
  constructor
  · intro h
    refine ⟨h.at_ 0 (by simp) (by simp), ⟨by have := h.len; simpa using this, fun i h1 h2 => ?_⟩⟩
    exact h.at_ (i + 1) (by simp; omega) (by simp; omega)
  · rintro ⟨h0, h⟩
    refine ⟨by simp [h.len], fun i h1 h2 => ?_⟩
    cases i with
    | zero => exact h0
    | succ i => exact h.at_ i (by simpa using h1) (by simpa using h2)
theorem HnsF.app {W : World} {D : Dsk} {gh : Nat} {q : Hq} {x : Hn} : ∀ {qs : List Hq} {l : List Hn}, HnsF W D gh qs l → (q.id = x.id ∧ q.nd = x.nd ∧ q.tm = x.tm ∧ SlF eC W D gh q.val x.L) → HnsF W D gh (qs ++ [q]) (l ++ [x])
  | [], [], _, h => HnsF.cons.2 ⟨h, HnsF.nil _ _ _⟩
  | [], _ :: _, h, _ => absurd h.len (by simp)
  | _ :: _, [], h, _ => absurd h.len (by simp)
  | _ :: _, _ :: _, h, h2 => HnsF.cons.2 ⟨(HnsF.cons.1 h).1, HnsF.app (HnsF.cons.1 h).2 h2⟩
theorem HnsF.filter {W : World} {D : Dsk} {gh : Nat} (b : Hq → Bool) (bh : Hn → Bool) (hb : ∀ q x, q.id = x.id → q.nd = x.nd → q.tm = x.tm → b q = bh x) : ∀ {qs : List Hq} {l : List Hn}, HnsF W D gh qs l → HnsF W D gh (qs.filter (fun x => !b x)) (l.filter (fun x => !bh x))
  | [], [], h => h
  | [], _ :: _, h => absurd h.len (by simp)
  | _ :: _, [], h => absurd h.len (by simp)
  | q :: qs, x :: l, h => by
    obtain ⟨⟨h1, h2, h3, h4⟩, ht⟩ := HnsF.cons.1 h
    have ih := HnsF.filter b bh hb ht
    have e := hb q x h1 h2 h3
    cases hx : bh x
    · rw [List.filter_cons_of_pos (by simp [e, hx]), List.filter_cons_of_pos (by simp [hx])]
      exact HnsF.cons.2 ⟨⟨h1, h2, h3, h4⟩, ih⟩
    · rw [List.filter_cons_of_neg (by simp [e, hx]), List.filter_cons_of_neg (by simp [hx])]
      exact ih
theorem HnsF.below {W W1 : World} {D : Dsk} {gh : Nat} {qs : List Hq} {l : List Hn} (h : HnsF W D gh qs l) (hd : DiskW W D) (hb : Below W.heap.size W W1) : HnsF W1 D gh qs l := h.mh ((Mv.refl hd hb).mh gh)
def WoPost (D : Dsk) (gh : Nat) (nx : Int) (qs : List Hq) (w : World) (e : Ending) (w' : World) : Prop :=
  ∃ a c, e = .returned (.agg #[.int .i64 nx, .slice a qs.length c]) ∧ SlF eT w' D gh (.slice a qs.length c) qs ∧ Below w.heap.size w w'
theorem But.belowG {g base : Nat} {w W : World} (h : But (· = g) w W) (hg : base ≤ g) (hb : base ≤ w.heap.size) : Below base w W := ⟨h.os, h.tape, h.output, h.size, fun k hk => h.block k (Nat.lt_of_lt_of_le hk hb) (by omega)⟩
theorem delH_own (f : Nat) (caps : Array Value) (eg : ∀ args w, (callFunc f args).run Try.prog w = .ok (.enter f args) w) (qs : List Hq) (b : Hq → Bool) (v : Value) (base : Nat) (w : World) (HO : OwnX eT w base v qs) (hb : base ≤ w.heap.size) (hl : qs.length ≤ 1000000)
    (GA : ∀ W, Below base w W → ∀ x : Hq, Calls Try.prog f (#[.agg (hqEnc x).toArray] ++ caps) W fun e w' => e = .returned (.bool (b x)) ∧ Below W.heap.size W w') :
    Calls Try.prog 36 #[v, .func (.func f) #[] caps] w fun e w' => ∃ a c, e = .returned (.slice a (qs.filter (fun x => !b x)).length c) ∧ OwnX eT w' base (.slice a (qs.filter (fun x => !b x)).length c) (qs.filter (fun x => !b x)) ∧ Below base w w' := by
  have HO0 := HO
  rcases HO.2 with ⟨rfl, h0⟩ | ⟨g, cap, cur, rfl, hg, _, hc, hm, _⟩
  · obtain rfl : qs = [] := List.eq_nil_of_length_eq_zero h0
    refine (delH_nil f caps eg w).mono ?_
    rintro e w1 ⟨rfl, hb1⟩
    exact ⟨none, 0, rfl, OwnX.nil _ _, Below.mono hb1 hb⟩
  · refine (delH_any f caps eg w qs b g cap base w (fun W hW x _ => GA W (But.belowG hW hg hb) x) HO0 (But.refl _ _) (by omega) hc (by unfold maxLen at hm; omega)).mono ?_
    rintro e w1 ⟨rfl, h1, h2⟩
    exact ⟨_, _, rfl, h1, But.belowG h2 hg hb⟩
set_option maxHeartbeats 1000000 in
theorem without_any (D : Dsk) (gh : Nat) (nx : Int) (dv : Bool) (qs : List Hq) (a : Option Addr) (c : Nat) (f : Nat) (caps : Array Value) (eg : ∀ args w, (callFunc f args).run Try.prog w = .ok (.enter f args) w) (b : Hq → Bool) (w : World) (hd : DiskW w D)
    (h1 : Blk w gh 50 #[ptrV D.d, .int .i64 nx, .slice a qs.length c, .bool dv]) (h2 : SlF eT w D gh (.slice a qs.length c) qs) (hl : qs.length ≤ 1000000)
    (GA : ∀ W, Below w.heap.size w W → ∀ x : Hq, Calls Try.prog f (#[.agg (hqEnc x).toArray] ++ caps) W fun e w' => e = .returned (.bool (b x)) ∧ Below W.heap.size W w') :
    Calls Try.prog 31 #[ptrV gh, .func (.func f) #[] caps] w (WoPost D gh nx (qs.filter (fun x => !b x)) w) := by
  have A1 := below_alloc (Below.refl _ w) (.cells #[.int .i64 0, .slice none 0 0] 48)
  have S1 := Blk.new w 48 #[.int .i64 0, .slice none 0 0]
  have hz : w.heap.size + 1 = (w.alloc (.cells #[.int .i64 0, .slice none 0 0] 48)).heap.size := by simp
  have k1 : (w.alloc (.cells #[.int .i64 0, .slice none 0 0] 48)).cell? ⟨gh, 1, none⟩ = some (.int .i64 nx) := (h1.below A1).cell 1 rfl
  have k2 : (w.alloc (.cells #[.int .i64 0, .slice none 0 0] 48)).cell? ⟨gh, 2, none⟩ = some (.slice a qs.length c) := (h1.below A1).cell 2 rfl
  generalize hW2 : w.alloc (.cells #[.int .i64 0, .slice none 0 0] 48) = W2 at *
  have C := Lib.hid (fun W (hW : InW W2 W) => hcloneT _ qs W ((h2.sl.keep A1).keep hW) (by omega))
  have DL := Lib.hid (fun W v (HO : OwnX eT W W2.drew.heap.size v qs) (hW : InW W2 W) => delH_own f caps eg qs b v W2.drew.heap.size W HO hW.size hl (fun W' hW' x => GA W' (Below.trans (below_tr A1 hW) (Below.mono hW' A1.size)) x))
  have HGH := Lib.hid h1.lt
  have KP := Lib.hid (fun W (hW : InW W2 W) => show InW w W ∧ W.cell? ⟨gh, 1, none⟩ = some (.int .i64 nx) ∧ W.cell? ⟨gh, 2, none⟩ = some (.slice a qs.length c) ∧ ∃ u0 u1, Blk W w.heap.size 48 #[u0, u1] from ⟨below_tr A1 hW, cell_keep hW k1, cell_keep hW k2, _, _, S1.below hW⟩)
  have KP2 := Lib.hid (fun W W' (h : InW w W ∧ W.cell? ⟨gh, 1, none⟩ = some (.int .i64 nx) ∧ W.cell? ⟨gh, 2, none⟩ = some (.slice a qs.length c) ∧ ∃ u0 u1, Blk W w.heap.size 48 #[u0, u1]) (hW : Below W2.drew.heap.size W W') => show InW w W' ∧ W'.cell? ⟨gh, 1, none⟩ = some (.int .i64 nx) ∧ W'.cell? ⟨gh, 2, none⟩ = some (.slice a qs.length c) ∧ ∃ u0 u1, Blk W' w.heap.size 48 #[u0, u1] from by
    have hsz : W2.drew.heap.size = W2.heap.size := rfl
    have hgh := HGH.out
    obtain ⟨i1, i2, i3, u0, u1, i4⟩ := h
    refine ⟨Below.trans i1 (Below.mono hW (by omega)), ?_, ?_, u0, u1, ?_⟩
    · rw [hW.cell (p := ⟨gh, 1, none⟩) (by show gh < _; omega)]; exact i2
    · rw [hW.cell (p := ⟨gh, 2, none⟩) (by show gh < _; omega)]; exact i3
    · exact (hW.block _ (by omega)).trans i4)
  have KP3 := Lib.hid (fun W x y (h : InW w W ∧ W.cell? ⟨gh, 1, none⟩ = some (.int .i64 nx) ∧ W.cell? ⟨gh, 2, none⟩ = some (.slice a qs.length c) ∧ ∃ u0 u1, Blk W w.heap.size 48 #[u0, u1]) => show InW w ((W.setCell ⟨w.heap.size, 0, none⟩ x).setCell ⟨w.heap.size, 1, none⟩ y) ∧ ((W.setCell ⟨w.heap.size, 0, none⟩ x).setCell ⟨w.heap.size, 1, none⟩ y).cell? ⟨gh, 1, none⟩ = some (.int .i64 nx) ∧ ((W.setCell ⟨w.heap.size, 0, none⟩ x).setCell ⟨w.heap.size, 1, none⟩ y).cell? ⟨gh, 2, none⟩ = some (.slice a qs.length c) ∧ ∃ u0 u1, Blk ((W.setCell ⟨w.heap.size, 0, none⟩ x).setCell ⟨w.heap.size, 1, none⟩ y) w.heap.size 48 #[u0, u1] from by
    have hgh := HGH.out
    obtain ⟨i1, i2, i3, u0, u1, i4⟩ := h
    have m := (But.one W w.heap.size 0 x).trans (But.one _ w.heap.size 1 y)
    exact ⟨Below.setCell (p := ⟨w.heap.size, 1, none⟩) (Below.setCell (p := ⟨w.heap.size, 0, none⟩) i1 (Nat.le_refl _) x) (Nat.le_refl _) y, m.cell i2 (by show ¬ gh = _; omega), m.cell i3 (by show ¬ gh = _; omega), x, y, (i4.put 0 x).put 1 y⟩)
  have HD := Lib.hid hd; have HA1 := Lib.hid A1; have HZ := Lib.hid hz
  have HK := Lib.hid (And.intro k1 k2)
  clear hd h1 h2 GA eg hl A1 S1 hz
  simp only [ptrV] at *
  go_enter Try.func31, Try.ntmps31
  go_upto_region 1 with (fail)
  clear hW2 k1 k2
  refine wp_region_held_drew (S := fun W' => InW w W' ∧ W'.cell? ⟨gh, 1, none⟩ = some (.int .i64 nx) ∧ W'.cell? ⟨gh, 2, none⟩ = some (.slice a qs.length c) ∧ ∃ u0 u1, Blk W' w.heap.size 48 #[u0, u1]) (by kernel_rfl) (KP.out _ (InW.drew (InW.refl _))) (fun S0 => ?_)
  refine wpAnyH_take (i := 0) (oi := _) (v := .pointer (some ⟨gh, 0, none⟩)) rfl (by kernel_rfl) (by kernel_rfl) (by kernel_rfl) (fun _ _ _ h => h) (Or.inl ⟨by rfl, fun w hSw => ?_⟩) S0 ?_
  · go_simp
  (try simp only [Act.put, List.getElem_toArray, List.getElem_cons_zero, List.getElem_cons_succ, List.setIfInBounds_toArray, List.set_cons_zero, List.set_cons_succ])
  refine wpAnyH_take (i := 1) (oi := _) (v := .pointer (some ⟨gh, 0, none⟩)) rfl (by kernel_rfl) (by kernel_rfl) (by kernel_rfl) (fun _ _ _ h => h) (Or.inl ⟨by rfl, fun w hSw => ?_⟩) S0 ?_
  · go_simp
  (try simp only [Act.put, List.getElem_toArray, List.getElem_cons_zero, List.getElem_cons_succ, List.setIfInBounds_toArray, List.set_cons_zero, List.set_cons_succ])
  refine wpAnyH_take (i := 2) (oi := _) (v := .pointer (some ⟨gh, 1, none⟩)) rfl (by kernel_rfl) (by kernel_rfl) (by kernel_rfl) (fun _ _ _ h => h) (Or.inl ⟨by rfl, fun w hSw => ?_⟩) S0 ?_
  · go_simp
  (try simp only [Act.put, List.getElem_toArray, List.getElem_cons_zero, List.getElem_cons_succ, List.setIfInBounds_toArray, List.set_cons_zero, List.set_cons_succ])
  refine wpAnyH_take (i := 3) (oi := _) (v := .pointer (some ⟨gh, 1, none⟩)) rfl (by kernel_rfl) (by kernel_rfl) (by kernel_rfl) (fun _ _ _ h => h) (Or.inl ⟨by rfl, fun w hSw => ?_⟩) S0 ?_
  · go_simp
  (try simp only [Act.put, List.getElem_toArray, List.getElem_cons_zero, List.getElem_cons_succ, List.setIfInBounds_toArray, List.set_cons_zero, List.set_cons_succ])
  refine wpAnyH_take (i := 4) (oi := _) (v := .int .i64 nx) rfl (by kernel_rfl) (by kernel_rfl) (by kernel_rfl) (fun _ _ _ h => h) (Or.inl ⟨by rfl, fun w hSw => ?_⟩) S0 ?_
  · go_simp
  (try simp only [Act.put, List.getElem_toArray, List.getElem_cons_zero, List.getElem_cons_succ, List.setIfInBounds_toArray, List.set_cons_zero, List.set_cons_succ])
  refine wpAnyH_take (i := 5) (oi := _) (v := .pointer (some ⟨gh, 0, none⟩)) rfl (by kernel_rfl) (by kernel_rfl) (by kernel_rfl) (fun _ _ _ h => h) (Or.inl ⟨by rfl, fun w hSw => ?_⟩) S0 ?_
  · go_simp
  (try simp only [Act.put, List.getElem_toArray, List.getElem_cons_zero, List.getElem_cons_succ, List.setIfInBounds_toArray, List.set_cons_zero, List.set_cons_succ])
  refine wpAnyH_take (i := 6) (oi := _) (v := .pointer (some ⟨gh, 0, none⟩)) rfl (by kernel_rfl) (by kernel_rfl) (by kernel_rfl) (fun _ _ _ h => h) (Or.inl ⟨by rfl, fun w hSw => ?_⟩) S0 ?_
  · go_simp
  (try simp only [Act.put, List.getElem_toArray, List.getElem_cons_zero, List.getElem_cons_succ, List.setIfInBounds_toArray, List.set_cons_zero, List.set_cons_succ])
  refine wpAnyH_take (i := 7) (oi := _) (v := .pointer (some ⟨gh, 1, none⟩)) rfl (by kernel_rfl) (by kernel_rfl) (by kernel_rfl) (fun _ _ _ h => h) (Or.inl ⟨by rfl, fun w hSw => ?_⟩) S0 ?_
  · go_simp
  (try simp only [Act.put, List.getElem_toArray, List.getElem_cons_zero, List.getElem_cons_succ, List.setIfInBounds_toArray, List.set_cons_zero, List.set_cons_succ])
  refine wpAnyH_take (i := 8) (oi := _) (v := .pointer (some ⟨gh, 2, none⟩)) rfl (by kernel_rfl) (by kernel_rfl) (by kernel_rfl) (fun _ _ _ h => h) (Or.inl ⟨by rfl, fun w hSw => ?_⟩) S0 ?_
  · go_simp
  (try simp only [Act.put, List.getElem_toArray, List.getElem_cons_zero, List.getElem_cons_succ, List.setIfInBounds_toArray, List.set_cons_zero, List.set_cons_succ])
  refine wpAnyH_take (i := 9) (oi := _) (v := .slice a qs.length c) rfl (by kernel_rfl) (by kernel_rfl) (by kernel_rfl) (fun _ _ _ h => h) (Or.inl ⟨by rfl, fun w hSw => ?_⟩) S0 ?_
  · go_simp
  (try simp only [Act.put, List.getElem_toArray, List.getElem_cons_zero, List.getElem_cons_succ, List.setIfInBounds_toArray, List.set_cons_zero, List.set_cons_succ])
  refine wpAnyH_take (i := 11) (oi := _) (v := .func (.func f) #[] caps) rfl (by kernel_rfl) (by kernel_rfl) (by kernel_rfl) (fun _ _ _ h => h) (Or.inl ⟨by rfl, fun w hSw => ?_⟩) S0 ?_
  · go_simp
  (try simp only [Act.put, List.getElem_toArray, List.getElem_cons_zero, List.getElem_cons_succ, List.setIfInBounds_toArray, List.set_cons_zero, List.set_cons_succ])
  refine wpAnyH_ready (rs := [10]) (by kernel_rfl) (by simp) ?_
  refine AllReadyH.cons rfl (fun K hK => ?_) AllReadyH.nil
  go_simp; go_at_call 30
  refine (C.out W2.drew (InW.drew (InW.refl _))).mono ?_
  rintro e wA ⟨vA, rfl, hOA, hbA⟩
  have sA := KP.out wA (InW.tr (InW.drew (InW.refl _)) hbA)
  refine hK.out _ _ (sA) (fun _ => ?_); clear hK K
  (try simp only [Act.put, List.getElem_toArray, List.getElem_cons_zero, List.getElem_cons_succ, List.setIfInBounds_toArray, List.set_cons_zero, List.set_cons_succ])
  refine wpAnyH_ready (rs := [12]) (by kernel_rfl) (by simp) ?_
  refine AllReadyH.cons rfl (fun K hK => ?_) AllReadyH.nil
  go_simp; go_at_call 36
  refine (DL.out wA vA hOA (InW.tr (InW.drew (InW.refl _)) hbA)).mono ?_
  rintro e wB ⟨aB, cB, rfl, hOB, hbB⟩
  have sB := KP2.out wA wB sA hbB
  refine hK.out _ _ (sB) (fun _ => ?_); clear hK K
  (try simp only [Act.put, List.getElem_toArray, List.getElem_cons_zero, List.getElem_cons_succ, List.setIfInBounds_toArray, List.set_cons_zero, List.set_cons_succ])
  refine wpAnyH_take (i := 13) (oi := _) (v := .agg #[.int .i64 nx, .slice aB (qs.filter (fun x => !b x)).length cB]) rfl (by kernel_rfl) (by kernel_rfl) (by kernel_rfl) (fun _ _ _ h => h) (Or.inl ⟨by rfl, fun w hSw => ?_⟩) sB ?_
  · go_simp
  (try simp only [Act.put, List.getElem_toArray, List.getElem_cons_zero, List.getElem_cons_succ, List.setIfInBounds_toArray, List.set_cons_zero, List.set_cons_succ])
  refine wpAnyH_ready (rs := [14]) (by kernel_rfl) (by simp) ?_
  refine AllReadyH.cons rfl (fun K hK => ?_) AllReadyH.nil
  obtain ⟨u0, u1, hBk⟩ := sB.2.2.2
  have g0 : wB.cell? ⟨w.heap.size, 0, none⟩ = some u0 := hBk.cell 0 rfl
  have g1 : wB.cell? ⟨w.heap.size, 1, none⟩ = some u1 := hBk.cell 1 rfl
  have z0 := hBk.frozen 0; have z1 := hBk.frozen 1
  go_simp
  refine hK.out _ _ (KP3.out wB _ _ sB) (fun _ => ?_); clear hK K
  (try simp only [Act.put, List.getElem_toArray, List.getElem_cons_zero, List.getElem_cons_succ, List.setIfInBounds_toArray, List.set_cons_zero, List.set_cons_succ])
  refine wpAnyH_done (by kernel_rfl) ?_ _
  have sC := KP3.out wB (.int .i64 nx) (.slice aB (qs.filter (fun x => !b x)).length cB) sB
  have m := (But.one wB w.heap.size 0 (.int .i64 nx)).trans (But.one _ w.heap.size 1 (.slice aB (qs.filter (fun x => !b x)).length cB))
  have E := (hBk.put 0 (.int .i64 nx)).put 1 (.slice aB (qs.filter (fun x => !b x)).length cB)
  have HOC := Lib.hid (hOB.but m (fun k hk => by have h1 := HZ.out; have h2 : W2.drew.heap.size = W2.heap.size := rfl; show ¬ k = _; omega))
  have HSC := Lib.hid sC.1
  have e0 := E.cell 0 rfl; have e1 := E.cell 1 rfl
  clear m E sC sB sA hOB hbB hOA hbA hBk g0 g1 z0 z1 S0
  generalize (wB.setCell ⟨w.heap.size, 0, none⟩ (.int .i64 nx)).setCell ⟨w.heap.size, 1, none⟩ (.slice aB (qs.filter (fun x => !b x)).length cB) = W9 at *
  go_wp2_with fail
  refine bodyPost_ret (v := .agg #[.int .i64 nx, .slice aB (qs.filter (fun x => !b x)).length cB]) (by simp [results, Try.results31, go_sem, e0, e1]) rfl ⟨aB, cB, rfl, SlF.own HOC.out HD.out (by have h1 := HZ.out; have h2 : W2.drew.heap.size = W2.heap.size := rfl; omega) (by have h1 := HZ.out; have h3 := HGH.out; have h2 : W2.drew.heap.size = W2.heap.size := rfl; omega), HSC.out⟩
theorem dropc_any (x : Hq) (g : Nat) (id : Int) (w : World) (hc : w.cell? ⟨g, 0, none⟩ = some (.int .i64 id)) :
    Calls Try.prog 32 #[.agg (hqEnc x).toArray, ptrV g] w fun e w' => e = .returned (.bool (x.id == id)) ∧ Below w.heap.size w w' := by
  obtain ⟨xi, xn, xt, xa, xl, xc⟩ := x
  have A1 := below_alloc (Below.refl _ w) (.cells #[.int .i64 xi, .int .i64 xn, .int .i64 xt, .slice xa xl xc] 64)
  have hc1 := cell_keep A1 hc
  simp only [hqEnc, ptrV] at *
  go_enter Try.func32, Try.ntmps32
  go_wp2_with fail
  go_ret
  exact ⟨rfl, A1⟩
end Go.Proofs.Ytefndmjimmbhnaa
end

section
set_option linter.unusedVariables false
set_option linter.unusedSimpArgs false
set_option maxRecDepth 50000
namespace Go.Proofs.Ytefndmjimmbhnaa
open Go.RowKit Go.Shelf

theorem HStorePost.head {D : Dsk} {gh : Nat} {nx nx2 : Int} {l l2 : List Hn} {K : Nat} {R p k : Int} {o : Option (List UInt8)} {x : List UInt8} {w w1 w' : World} {e : Ending} (hd : DiskW w D) (hb : Below w.heap.size w w1) (h : HStorePost D gh nx nx2 l l2 K R p k o x w1 e w') : HStorePost D gh nx nx2 l l2 K R p k o x w e w' := by
  have m := (Mv.refl hd hb).mh gh
  rcases h with ⟨e1, E, a, b, c⟩ | ⟨e1, hp, E, p', a, b, c⟩
  · exact .inl ⟨e1, E, a, b, m.trans c⟩
  · exact .inr ⟨e1, hp, E, p', a, b, m.trans c⟩
theorem HStorePost.num {D : Dsk} {gh : Nat} {nx nx2 : Int} {l l2 : List Hn} {K : Nat} {R p k : Int} {o : Option (List UInt8)} {x : List UInt8} {w1 w' : World} {e : Ending} (h : HStorePost D gh nx nx2 l l2 K R p k o x w1 e w') : ∃ m, e = .returned (.int .i64 m) := by
  rcases h with ⟨e1, _⟩ | ⟨e1, _⟩
  · exact ⟨0, e1⟩
  · exact ⟨9, e1⟩
/-- hints that may be written -/
structure HFit (nx : Int) (l : List Hn) : Prop where
  n : In64 nx
  h : ∀ h ∈ l, HnIn h
  len : (hintsL nx l).length ≤ 262144
  few : l.length ≤ 1000000
  each : ∀ h ∈ l, h.L.length ≤ 1000000
set_option maxHeartbeats 2000000 in
theorem drop_any (D : Dsk) (gh : Nat) (nx : Int) (l : List Hn) (id : Int) (K : Nat) (R p k : Int) (o : Option (List UInt8)) (w : World) (h : HW w D gh nx l false) (hs : Stg D (⟨#[104, 105, 110, 116, 115]⟩ : ByteArray) (⟨#[104, 105, 110, 116, 115, 46, 110, 101, 119]⟩ : ByteArray) K R p k false o) (hdk : D.dark = false)
    (hl : l.length ≤ 1000000) (pl : Plan (⟨#[104, 105, 110, 116, 115]⟩ : ByteArray) (⟨#[104, 105, 110, 116, 115, 46, 110, 101, 119]⟩ : ByteArray) K R (frameL (hintsL nx (l.filter (fun x => !(x.id == id)))))) (fit : HFit nx (l.filter (fun x => !(x.id == id)))) :
    Calls Try.prog 13 #[ptrV gh, .int .i64 id] w fun e w' => ((∀ x ∈ l, x.id ≠ id) ∧ e = .returned (.int .i64 4) ∧ Below w.heap.size w w') ∨ ((∃ x ∈ l, x.id = id) ∧ HStorePost D gh nx nx l (l.filter (fun x => !(x.id == id))) K R p k o (frameL (hintsL nx (l.filter (fun x => !(x.id == id))))) w e w') := by
  have A1 := below_alloc (Below.refl _ w) (.cells #[.int .i64 id] 3)
  have I1 := (Blk.new w 3 #[.int .i64 id]).cell 0 rfl
  have M := may_any D gh nx l false _ (h.below A1)
  rw [show (if (false || D.dark) = true then (9 : Int) else 0) = 0 by rw [hdk]; rfl] at M
  have MM := Lib.hid M; have HH := Lib.hid h; have HS := Lib.hid hs; have HL := Lib.hid hl; have PL := Lib.hid pl; have FIT := Lib.hid fit; have HA1 := Lib.hid A1; have HI1 := Lib.hid I1
  clear M h hs hdk hl pl fit A1 I1
  simp only [ptrV] at *
  go_enter Try.func13, Try.ntmps13
  go_wp2_with fail
  generalize w.alloc (.cells #[.int .i64 id] 3) = W0 at *
  refine MM.out.mono ?_
  rintro e w1 ⟨rfl, hb⟩
  have HB1 := Lib.hid (below_tr HA1.out hb); have HC1 := Lib.hid (cell_keep hb HI1.out)
  clear hb MM HA1 HI1
  have HH1 := Lib.hid (HH.out.below HB1.out)
  obtain ⟨qs, a, c, h1, h2, h3⟩ := HH1.out.ex
  have WO := Lib.hid (without_any D gh nx false qs a c 32 #[ptrV w.heap.size] (fun _ _ => rfl) (fun x => x.id == id) w1 HH1.out.dw h1 h2 (by rw [h3.len]; exact HL.out)
    (fun W hW x => dropc_any x w.heap.size id W (cell_keep hW HC1.out)))
  have HF1 := Lib.hid h3
  have HB1B := Lib.hid h1
  clear h1 h2 h3
  go_wp2_with fail
  refine WO.out.mono ?_
  rintro e w2 ⟨a2, c2, rfl, hs2, hb2⟩
  have HH2 := Lib.hid (HH1.out.below hb2); have HB2 := Lib.hid (below_tr HB1.out hb2); have HF2 := Lib.hid (HF1.out.below HH1.out.dw hb2)
  have HS2 := Lib.hid hs2
  obtain ⟨m, hm⟩ : ∃ m, (qs.filter (fun x => !(x.id == id))).length = m := ⟨_, rfl⟩
  obtain ⟨n, hn⟩ : ∃ n, qs.length = n := ⟨_, rfl⟩
  have HMN := Lib.hid (And.intro hm hn)
  rw [hm] at HS2 ⊢
  have A3 := below_alloc (Below.refl _ w2) (.cells #[.int .i64 nx, .slice a2 m c2] 48)
  have S3 := Blk.new w2 48 #[.int .i64 nx, .slice a2 m c2]
  have k2 : (w2.alloc (.cells #[.int .i64 nx, .slice a2 m c2] 48)).cell? ⟨gh, 2, none⟩ = some (.slice a n c) := by rw [← hn]; exact ((HB1B.out.below hb2).below A3).cell 2 rfl
  have s0 : (w2.alloc (.cells #[.int .i64 nx, .slice a2 m c2] 48)).cell? ⟨w2.heap.size, 0, none⟩ = some (.int .i64 nx) := S3.cell 0 rfl
  have s1 : (w2.alloc (.cells #[.int .i64 nx, .slice a2 m c2] 48)).cell? ⟨w2.heap.size, 1, none⟩ = some (.slice a2 m c2) := S3.cell 1 rfl
  have HA3 := Lib.hid A3
  clear hs2 hb2 WO HB1B hm hn A3 S3
  go_upto_region 5 with (fail)
  generalize w2.alloc (.cells #[.int .i64 nx, .slice a2 m c2] 48) = w3 at *
  have HA3d : InW w2 w3.drew := InW.drew HA3.out
  have FL := HnsF.filter (fun x : Hq => x.id == id) (fun x : Hn => x.id == id) (fun q x h _ _ => by rw [h]) HF2.out
  have FLEN := Lib.hid FL.len
  have HFL := Lib.hid (FL.below HH2.out.dw HA3d)
  have HH3 := Lib.hid (HH2.out.below HA3d); have HB3 := Lib.hid (below_tr HB2.out HA3d)
  have HS3 := Lib.hid (HS2.out.mh ((Mv.refl HH2.out.dw HA3d).mh gh))
  have LLEN := Lib.hid HF2.out.len
  clear FL HA3d
  by_cases hmn : m = n
  · subst hmn
    have NONE := Lib.hid (show ∀ x ∈ l, x.id ≠ id from by
      have h1 := HMN.out; have h2 := FLEN.out; have h3 := LLEN.out
      have h4 : (l.filter (fun x => !(x.id == id))).length = l.length := by rw [← h2, h1.1, ← h1.2, h3]
      intro x hx he
      have := (List.length_filter_eq_length_iff.1 h4) x hx
      simp [he] at this)
    go_region
    all_goals (
      go_wp2_with fail
      go_ret
      exact .inl ⟨NONE.out, rfl, HB3.out⟩)
  · have hz : ((m : Int) == (n : Int)) = false := by rw [beq_eq_false_iff_ne]; omega
    have SOME := Lib.hid (show ∃ x ∈ l, x.id = id from by
      have h1 := HMN.out; have h2 := FLEN.out; have h3 := LLEN.out
      refine Classical.byContradiction fun hc => hmn ?_
      have h4 : (l.filter (fun x => !(x.id == id))).length = l.length := by
        rw [List.length_filter_eq_length_iff]
        intro x hx
        have : x.id ≠ id := fun he => hc ⟨x, hx, he⟩
        simpa using this
      rw [← h1.1, ← h1.2, h2, h3, h4])
    have ST := Lib.hid (store_any D gh nx nx l (l.filter (fun x => !(x.id == id))) (qs.filter (fun x => !(x.id == id))) a2 c2 K R p k o w3.drew HH3.out HS.out PL.out (by rw [HMN.out.1]; exact HS3.out) HFL.out FIT.out.n FIT.out.h FIT.out.len FIT.out.few FIT.out.each)
    rw [HMN.out.1] at ST
    have HDW := Lib.hid HH.out.dw
    clear HS3 HFL HH3 HS HH2 HF2 HF1 HH1 HH
    go_region
    all_goals (
      go_wp2_with fail
      refine ST.out.mono ?_
      intro e w4 hq
      obtain ⟨r, rfl⟩ := hq.num
      have HQ := Lib.hid (hq.head HDW.out HB3.out)
      clear hq
      go_wp2_with fail
      go_ret
      exact .inr ⟨SOME.out, HQ.out⟩)
end Go.Proofs.Ytefndmjimmbhnaa
end
