/- Contracts of the table's Get, Len, Blocks and Ends. Condition: the key's texts have room. Contract of the table's Scan. No condition. Contracts of the table's Ends and All, of slices.Grow and Concat at cells. No condition. -/
import Derived.Test.YtplghaoflmaadaaGreatDoorZ27
import Derived.Lib.AppendZeros
section
set_option linter.unusedVariables false
set_option linter.unusedSimpArgs false
set_option maxRecDepth 50000
namespace Go.Proofs.YtplghaoflmaadaaGreatDoor
open Go.RowKit Go.Sort
open Go.Lib hiding intOf

theorem may_has (L : List Cel) (k : Ky) (h : (findC L k).isSome = true) : mayF 7 (bitsL L) (kyL k) = true := by
  unfold bitsL
  refine filtF_may _ _ (List.mem_map.2 ?_)
  unfold findC at h
  rw [Option.isSome_map, List.find?_isSome] at h
  obtain ⟨c, hc, e⟩ := h
  exact ⟨c, hc, by rw [of_decide_eq_true e]⟩
theorem Tb.made {W : World} {g : Nat} {bs : List (List Cel)} (h : Tb W g bs) : Calls Tryz.prog 58 #[.pointer (some ⟨g, 0, none⟩)] W fun e w' => e = .returned (.bool true) ∧ Below W.heap.size W w' := by
  have hp := h.ok.pos
  obtain ⟨hv, gf, hs, hb, _⟩ := h.ex
  have := made_any g (bs.flatten.length : Int) W (hb.cell 2 rfl)
  rwa [show decide ((0 : Int) < (bs.flatten.length : Int)) = true by simpa using hp] at this
theorem len_any (g : Nat) (bs : List (List Cel)) (w : World) (h : Tb w g bs) :
    Calls Tryz.prog 23 #[.pointer (some ⟨g, 0, none⟩)] w fun e w' => e = .returned (.int .i64 (bs.flatten.length : Int)) ∧ Below w.heap.size w w' := by
  have M := Lib.hid h.made
  have H := Lib.hid h
  obtain ⟨n, hn⟩ : ∃ n, bs.flatten.length = n := ⟨_, rfl⟩
  rw [hn]
  have HN := Lib.hid hn
  clear h hn
  go_enter Tryz.func23, Tryz.ntmps23
  go_wp2_with fail
  refine M.out.mono ?_
  rintro e w1 ⟨rfl, hb⟩
  have h1 := H.out.keep hb
  obtain ⟨hv, gf, hs, hb1, _⟩ := h1.ex
  have c2 : w1.cell? ⟨g, 2, none⟩ = some (.int .i64 (n : Int)) := by rw [← HN.out]; exact hb1.cell 2 rfl
  clear h1 hb1
  go_wp2_with fail
  go_ret
  exact ⟨rfl, hb⟩
theorem blocks_any (g : Nat) (bs : List (List Cel)) (w : World) (h : Tb w g bs) :
    Calls Tryz.prog 24 #[.pointer (some ⟨g, 0, none⟩)] w fun e w' => e = .returned (.int .i64 (bs.length : Int)) ∧ Below w.heap.size w w' := by
  have M := Lib.hid h.made
  have H := Lib.hid h
  clear h
  go_enter Tryz.func24, Tryz.ntmps24
  go_wp2_with fail
  refine M.out.mono ?_
  rintro e w1 ⟨rfl, hb⟩
  have h1 := H.out.keep hb
  obtain ⟨hv, gf, hs, hb1, hsl, hls, _⟩ := h1.ex
  have hlen := hls.len
  obtain ⟨a, c, rfl, _, _⟩ := hsl.ex
  rw [hlen] at hb1
  have c2 := hb1.cell 0 rfl
  clear h1 hb1 hsl hls
  go_wp2_with fail
  go_ret
  exact ⟨rfl, hb⟩

set_option maxHeartbeats 2000000 in
theorem get_any (g : Nat) (bs : List (List Cel)) (k : Ky) (w : World) (h : Tb w g bs) (he : Env w) (hk : k.t.size + k.p.size + k.c.size ≤ 2000000) :
    Calls Tryz.prog 18 #[.pointer (some ⟨g, 0, none⟩), kyVal k] w fun e w' => e = .returned (.tuple #[.agg (vrEnc (findV bs.flatten k)).toArray, .bool (findC bs.flatten k).isSome]) ∧ Below w.heap.size w w' := by
  have b1 := (Blk.new w 24 #[.string k.t, .string k.p, .int .i64 k.r, .string k.c]).alloc (.cells #[.int .i64 0, .bool false, .int .i64 0, .int .i64 0, .int .i64 0, .string ⟨#[]⟩] 49)
  have b2 := Blk.new (w.alloc (.cells #[.string k.t, .string k.p, .int .i64 k.r, .string k.c] 24)) 49 #[.int .i64 0, .bool false, .int .i64 0, .int .i64 0, .int .i64 0, .string ⟨#[]⟩]
  have B0 := below_alloc (below_alloc (Below.refl _ w) (.cells #[.string k.t, .string k.p, .int .i64 k.r, .string k.c] 24)) (.cells #[.int .i64 0, .bool false, .int .i64 0, .int .i64 0, .int .i64 0, .string ⟨#[]⟩] 49)
  rw [show (w.alloc (.cells #[.string k.t, .string k.p, .int .i64 k.r, .string k.c] 24)).heap.size = w.heap.size + 1 by simp] at b2
  have HH := Lib.hid (h.keep B0)
  have HE := Lib.hid (he.below B0)
  have HK := Lib.hid hk
  have HSRT := Lib.hid h.srt
  have HFEW := Lib.hid h.few
  obtain ⟨RV, hRV⟩ : ∃ R, findV bs.flatten k = R := ⟨_, rfl⟩
  obtain ⟨RB, hRB⟩ : ∃ R, (findC bs.flatten k).isSome = R := ⟨_, rfl⟩
  rw [hRV, hRB]
  have HRV := Lib.hid hRV; have HRB := Lib.hid hRB
  have K1 := Lib.hid b1; have Z1 := Lib.hid b2; have HB0 := Lib.hid B0
  clear hRV hRB b1 b2 B0 h he hk
  unfold kyVal
  go_enter Tryz.func18, Tryz.ntmps18
  go_wp2_with fail
  generalize (w.alloc (.cells #[.string k.t, .string k.p, .int .i64 k.r, .string k.c] 24)).alloc (.cells #[.int .i64 0, .bool false, .int .i64 0, .int .i64 0, .int .i64 0, .string ⟨#[]⟩] 49) = W0 at *
  refine HH.out.made.mono ?_
  rintro e w1 ⟨rfl, hb⟩
  have H1 := Lib.hid (HH.out.keep hb); have E1 := Lib.hid (HE.out.below hb); have HB1 := Lib.hid (below_tr HB0.out hb)
  have k1 := K1.out.below hb
  have K2 := Lib.hid k1; have Z2 := Lib.hid (Z1.out.below hb)
  have q0 := k1.cell 0 rfl; have q1 := k1.cell 1 rfl; have q2 := k1.cell 2 rfl; have q3 := k1.cell 3 rfl
  clear k1 hb K1 Z1 HH HE
  have MY := Lib.hid (tmay_any g bs k w1 H1.out E1.out HK.out)
  obtain ⟨M, hM⟩ : ∃ M, mayF 7 (bitsL bs.flatten) (kyL k) = M := ⟨_, rfl⟩
  rw [hM] at MY
  have HM := Lib.hid hM
  clear hM
  unfold kyVal at MY
  go_wp2_with fail
  refine MY.out.mono ?_
  rintro e w2 ⟨rfl, hb⟩
  have H2 := Lib.hid (H1.out.keep hb); have HB2 := Lib.hid (below_tr HB1.out hb)
  have k1 := K2.out.below hb
  have K3 := Lib.hid k1; have z := Z2.out.below hb
  have Z3 := Lib.hid z
  clear q0 q1 q2 q3
  have q0 := k1.cell 0 rfl; have q1 := k1.cell 1 rfl; have q2 := k1.cell 2 rfl; have q3 := k1.cell 3 rfl
  have z0 := z.cell 0 rfl; have z1 := z.cell 1 rfl; have z2 := z.cell 2 rfl; have z3 := z.cell 3 rfl; have z4 := z.cell 4 rfl; have z5 := z.cell 5 rfl
  have fz := z.frozen
  clear k1 z hb K2 Z2 MY E1
  cases M with
  | false =>
    have F0 : (findC bs.flatten k).isSome = false := by
      cases e : (findC bs.flatten k).isSome with
      | false => rfl
      | true => have := may_has _ _ e; rw [HM.out] at this; cases this
    have F00 : findC bs.flatten k = none := by
      cases e2 : findC bs.flatten k with
      | none => rfl
      | some v => rw [e2] at F0; cases F0
    have F1 := Lib.hid (show RV = zVr by rw [← HRV.out]; unfold findV; rw [F00]; rfl)
    have F2 := Lib.hid (show RB = false by rw [← HRB.out, F0])
    clear F0 F00
    go_wp2_with fail
    refine ret_gen (fun w2 => Blk w2 (w.heap.size + 1) 49 #[.int .i64 0, .bool false, .int .i64 0, .int .i64 0, .int .i64 0, .string ⟨#[]⟩] ∧ Below w.heap.size w w2) ⟨Z3.out.put6 _ _ _ _ _ _, by repeat (first | with_reducible exact HB2.out | refine Below.setCell ?_ (by simp) _)⟩ ?_
    rintro w2 ⟨bk, hb2⟩
    exact bodyPost_ret (v := .tuple #[.agg #[.int .i64 0, .bool false, .int .i64 0, .int .i64 0, .int .i64 0, .string ⟨#[]⟩], .bool false]) (by simp [results, Tryz.results18, go_sem, bk.cell 0 rfl, bk.cell 1 rfl, bk.cell 2 rfl, bk.cell 3 rfl, bk.cell 4 rfl, bk.cell 5 rfl]) rfl ⟨by rw [F1.out, F2.out]; rfl, hb2⟩
  | true =>
    have BK := Lib.hid (block_any g bs k w2 H2.out)
    unfold kyVal at BK
    go_wp2_with fail
    refine BK.out.mono ?_
    rintro e w3 ⟨r, rfl, hr, hb⟩
    have H3 := H2.out.keep hb; have HB3 := Lib.hid (below_tr HB2.out hb)
    have FB := Lib.hid (find_blocks HSRT.out hr)
    have HR := Lib.hid hr.le
    have k1 := K3.out.below hb
    have z := Z3.out.below hb
    have K4 := Lib.hid k1; have Z4 := Lib.hid z
    clear q0 q1 q2 q3 z0 z1 z2 z3 z4 z5 fz hr hb K3 Z3 H2 BK
    obtain ⟨hv, gf, hs, hb1, hsl, hls, hfl⟩ := H3.ex
    have hlen := hls.len
    obtain ⟨a, c, rfl, hc, hx⟩ := hsl.ex
    have t0 := hb1.cell 0 rfl
    have HT := Lib.hid hb1
    by_cases hlt : r < bs.length
    · have hlt' : r < hs.length := by omega
      obtain ⟨gl, o, rfl, hgl, _⟩ := hx (by omega)
      have e0 := eH_cell hsl r hlt'
      have HX := Lib.hid (hls.at_ r hlt' hlt)
      have FB2 := FB.out
      rw [dif_pos hlt] at FB2
      have HF := Lib.hid (show ∀ W, Below w3.heap.size w3 W → Calls Tryz.prog 60 #[.slice hs[r].a hs[r].n hs[r].c, kyVal k] W fun e w' => e = .returned (.tuple #[.agg (vrEnc RV).toArray, .bool RB]) ∧ Below W.heap.size W w' from fun W hb => by
        have := find_any _ bs[r] k W (HX.out.1.keep hb) HX.out.2
        rw [show findV bs[r] k = RV by rw [← HRV.out]; unfold findV; rw [FB2], show (findC bs[r] k).isSome = RB by rw [← HRB.out, FB2]] at this
        exact this)
      unfold kyVal at HF
      have hrn : ((r : Int) == (hs.length : Int)) = false := by rw [beq_eq_false_iff_ne]; omega
      have hz : (r : Int) < (hs.length : Int) := by omega
      have hlen2 : hs.length ≤ 20000 := by rw [hlen]; exact HFEW.out
      generalize hs[r] = hd at *
      obtain ⟨ha, hn1, hc1⟩ := hd
      simp only at *
      clear FB2 HX hsl hls hfl hx
      go_wp2_with fail
      have q1' := Lib.hid (QP.of (W := w3) fun W' hb => HF.out W' hb)
      have t0' := fun d os => (HT.out.below (below_regrown w3 d os)).cell 0 rfl
      have e0' := fun d os => cell_keep (below_regrown w3 d os) e0
      have q0 := fun d os => (K4.out.below (below_regrown w3 d os)).cell 0 rfl; have q1 := fun d os => (K4.out.below (below_regrown w3 d os)).cell 1 rfl
      have q2 := fun d os => (K4.out.below (below_regrown w3 d os)).cell 2 rfl; have q3 := fun d os => (K4.out.below (below_regrown w3 d os)).cell 3 rfl
      clear k1 z t0 e0 hb1 H3
      obtain ⟨x1, x2, x3, x4, x5, x6⟩ := RV
      simp only [vrEnc] at *
      refine wp_region_quiet_tail 11 (by kernel_rfl) (by kernel_rfl) ?_
      simp only [List.take_succ_cons, List.take_zero, List.drop_succ_cons, List.drop_zero]
      repeat (quiet_step (first | with_reducible exact q1'.out.at _ _))
      refine wpQuiet_nil ?_
      intro w4 hw4
      have hb4 := regrown_below hw4
      have HB4 := Lib.hid (below_tr HB3.out hb4)
      have z := Z4.out.below hb4
      have Z5 := Lib.hid z
      have z0 := z.cell 0 rfl; have z1 := z.cell 1 rfl; have z2 := z.cell 2 rfl; have z3 := z.cell 3 rfl; have z4 := z.cell 4 rfl; have z5 := z.cell 5 rfl
      have fz := z.frozen
      clear z hw4 hb4 q0 q1 q2 q3 t0' e0' q1'
      go_wp2_with fail
      refine ret_gen (fun w2 => Blk w2 (w.heap.size + 1) 49 #[.int .i64 x1, .bool x2, .int .i64 x3, .int .i64 x4, .int .i64 x5, .string x6] ∧ Below w.heap.size w w2) ⟨Z5.out.put6 _ _ _ _ _ _, by repeat (first | with_reducible exact HB4.out | refine Below.setCell ?_ (by simp) _)⟩ ?_
      rintro w2 ⟨bk, hb2⟩
      exact bodyPost_ret (v := .tuple #[.agg #[.int .i64 x1, .bool x2, .int .i64 x3, .int .i64 x4, .int .i64 x5, .string x6], .bool RB]) (by simp [results, Tryz.results18, go_sem, bk.cell 0 rfl, bk.cell 1 rfl, bk.cell 2 rfl, bk.cell 3 rfl, bk.cell 4 rfl, bk.cell 5 rfl]) rfl ⟨rfl, hb2⟩
    · have hrn : ((r : Int) == (hs.length : Int)) = true := by rw [beq_iff_eq]; have := HR.out; omega
      have FB2 := FB.out
      rw [dif_neg hlt] at FB2
      have F1 := Lib.hid (show RV = zVr by rw [← HRV.out]; unfold findV; rw [FB2]; rfl)
      have F2 := Lib.hid (show RB = false by rw [← HRB.out, FB2]; rfl)
      have z0 := z.cell 0 rfl; have z1 := z.cell 1 rfl; have z2 := z.cell 2 rfl; have z3 := z.cell 3 rfl; have z4 := z.cell 4 rfl; have z5 := z.cell 5 rfl
      have fz := z.frozen
      clear z FB2 hsl hls hfl hx hb1 H3 k1
      go_wp2_with fail
      refine ret_gen (fun w2 => Blk w2 (w.heap.size + 1) 49 #[.int .i64 0, .bool false, .int .i64 0, .int .i64 0, .int .i64 0, .string ⟨#[]⟩] ∧ Below w.heap.size w w2) ⟨Z4.out.put6 _ _ _ _ _ _, by repeat (first | with_reducible exact HB3.out | refine Below.setCell ?_ (by simp) _)⟩ ?_
      rintro w2 ⟨bk, hb2⟩
      exact bodyPost_ret (v := .tuple #[.agg #[.int .i64 0, .bool false, .int .i64 0, .int .i64 0, .int .i64 0, .string ⟨#[]⟩], .bool false]) (by simp [results, Tryz.results18, go_sem, bk.cell 0 rfl, bk.cell 1 rfl, bk.cell 2 rfl, bk.cell 3 rfl, bk.cell 4 rfl, bk.cell 5 rfl]) rfl ⟨by rw [F1.out, F2.out]; rfl, hb2⟩
end Go.Proofs.YtplghaoflmaadaaGreatDoor
end

section
set_option linter.unusedVariables false
set_option linter.unusedSimpArgs false
set_option maxRecDepth 50000
namespace Go.Proofs.YtplghaoflmaadaaGreatDoor
open Go.RowKit Go.Sort
open Go.Lib hiding intOf

section
variable {α : Type} {E : El α}
theorem El.sizeX (E : El α) (w : World) : (Go.sizeOf (Tryz.prog.elem E.st)).run Tryz.prog w = .ok E.size w := by
  obtain ⟨i0, hi, hz0, hz1, hz2⟩ := info_parts E.info
  rw [E.elem]
  simp [Go.sizeOf, typeInfo, hi, hz1]
theorem SlX.tail_run (E : El α) (a : Option Addr) (n c k : Nat) (hk : k ≤ n) (hnc : n ≤ c) (W : World) :
    (Instr.slice E.st (.slice a n c) (some (.int .i64 (k : Int))) none none).run Tryz.prog W = .ok (.slice (if c = k then a else a.map (·.add (k * E.size))) (n - k) (c - k)) W := by
  rw [run_slice_l W _ _ _ _ (by rw [E.elem]; exact E.und) .i64 _ (by omega) (by omega), El.sizeX]
  simp [Result.andThen, sliced]
theorem SlX.tail {B : Nat} {w : World} {a : Option Addr} {n c : Nat} {l : List α} (h : SlX E B w (.slice a n c) l) (k : Nat) (hk : k ≤ l.length) : SlX E B w (.slice (if c = k then a else a.map (·.add (k * E.size))) (n - k) (c - k)) (l.drop k) := by
  obtain ⟨a', c', e, hc, hx⟩ := h.ex
  injection e with e1 e2 e3
  subst e1 e2 e3
  refine ⟨_, _, by rw [List.length_drop], by rw [List.length_drop]; omega, fun h0 => ?_⟩
  rw [List.length_drop] at h0
  obtain ⟨g, o, rfl, hg, hcell⟩ := hx (by omega)
  refine ⟨g, o + k * E.size, ?_, hg, fun j u hj => ?_⟩
  · rw [if_neg (by omega)]
    simp only [Option.map_some, Addr.add]
    split <;> simp_all
  · rw [show o + k * E.size + j = o + (k * E.size + j) by omega]
    refine hcell _ u ?_
    have e : E.cells l = E.cells (l.take k) ++ E.cells (l.drop k) := by rw [← El.cells_app, List.take_append_drop]
    rw [e, List.getElem?_append_right (by rw [El.cells_len]; simp; rw [Nat.min_eq_left hk]; omega), El.cells_len, List.length_take, Nat.min_eq_left hk, Nat.add_sub_cancel_left]
    exact hj
end
theorem Lists.drop {w : World} {hs : List Hd} {ls : List (List Cel)} (h : Lists w hs ls) (k : Nat) : Lists w (hs.drop k) (ls.drop k) := by
  refine ⟨by simp [h.len], fun i h1 h2 => ?_⟩
  rw [List.getElem_drop, List.getElem_drop]
  exact h.at_ _ _ _
/-- the first block that may have a key -/
def blockN (bs : List (List Cel)) (k : Ky) : Nat := bs.findIdx fun b => decide (0 ≤ kcK (lastK b) k)
theorem FirstN.uniq {n : Nat} {b : Nat → Bool} {r s : Nat} (h : FirstN n b r) (k : FirstN n b s) : r = s := by
  rcases Nat.lt_trichotomy r s with h1 | h1 | h1
  · have := h.yes (Nat.lt_of_lt_of_le h1 k.le); rw [k.no r h1] at this; cases this
  · exact h1
  · have := k.yes (Nat.lt_of_lt_of_le h1 h.le); rw [h.no s h1] at this; cases this
theorem blockN_first (bs : List (List Cel)) (k : Ky) : FirstN bs.length (geB bs k) (blockN bs k) := by
  refine ⟨List.findIdx_le_length, fun i hi => ?_, fun h => ?_⟩
  · have hl : i < bs.length := Nat.lt_of_lt_of_le hi List.findIdx_le_length
    rw [geB_at hl]
    have := List.not_of_lt_findIdx hi
    simpa using this
  · rw [geB_at h]
    exact List.findIdx_getElem (w := h)
theorem blockN_any (g : Nat) (bs : List (List Cel)) (k : Ky) (w : World) (h : Tb w g bs) :
    Calls Tryz.prog 59 #[.pointer (some ⟨g, 0, none⟩), kyVal k] w fun e w' => e = .returned (.int .i64 (blockN bs k : Int)) ∧ Below w.heap.size w w' :=
  (block_any g bs k w h).mono fun e w' ⟨r, he, hr, hb⟩ => ⟨by rw [he, hr.uniq (blockN_first bs k)], hb⟩
/-- is a cell between two keys? -/
def inK (f u : Ky) (c : Cel) : Bool := decide (0 ≤ kcK c.k f) && decide (kcK c.k u < 0)
theorem filter_none {α : Type} {p : α → Bool} {l : List α} (h : ∀ x ∈ l, p x = false) : l.filter p = [] := List.filter_eq_nil_iff.2 fun x hx => by simp [h x hx]
/-- what a scan that has gone over M has found, when all behind is beyond -/
theorem scan_end {bs : List (List Cel)} (h : SrtB bs) (f u : Ky) (M B : List Cel) (he : (bs.drop (blockN bs f)).flatten = M ++ B) (hB : ∀ c ∈ B, 0 ≤ kcK c.k u) : bs.flatten.filter (inK f u) = M.filter (inK f u) := by
  have ha := h.ahead (blockN_first bs f)
  have e : bs.flatten = (bs.take (blockN bs f)).flatten ++ (M ++ B) := by
    rw [← he, ← List.flatten_append, List.take_append_drop]
  have z1 : (bs.take (blockN bs f)).flatten.filter (inK f u) = [] := filter_none fun x hx => by
    have := ha x hx
    unfold inK; simp; omega
  have z2 : B.filter (inK f u) = [] := filter_none fun x hx => by
    have := hB x hx
    unfold inK; simp; omega
  rw [e, List.filter_append, List.filter_append, z1, z2, List.nil_append, List.append_nil]
theorem scan_pair {bs : List (List Cel)} (h : SrtB bs) (f : Ky) : (bs.drop (blockN bs f)).flatten.Pairwise (fun a b => kcK a.k b.k < 0) := by
  refine List.pairwise_flatten.2 ⟨fun b hb => h.each b (List.mem_of_mem_drop hb), ?_⟩
  exact List.Pairwise.sublist (List.drop_sublist _ _) h.far
/-- beyond, once beyond -/
theorem pair_beyond {M B : List Cel} {c : Cel} (h : (M ++ c :: B).Pairwise (fun a b => kcK a.k b.k < 0)) {u : Ky} (hc : 0 ≤ kcK c.k u) : ∀ x ∈ c :: B, 0 ≤ kcK x.k u := by
  have h1 := (List.pairwise_append.1 h).2.1
  intro x hx
  rcases List.mem_cons.1 hx with rfl | hx
  · exact hc
  · have h2 := List.rel_of_pairwise_cons h1 hx
    rcases Int.lt_or_le (kcK x.k u) 0 with h3 | h3
    · have := kcK_ord.tr _ _ _ h2 h3; omega
    · exact h3
theorem split_at {bs : List (List Cel)} {j i : Nat} (hj : j < bs.length) (hi : i < bs[j].length) : bs.flatten = ((bs.take j).flatten ++ bs[j].take i) ++ bs[j][i] :: (bs[j].drop (i + 1) ++ (bs.drop (j + 1)).flatten) := by
  conv => lhs; rw [← List.take_append_drop j bs, List.drop_eq_getElem_cons hj]
  rw [List.flatten_append, List.flatten_cons, List.append_assoc]
  congr 1
  have e : bs[j] = bs[j].take i ++ bs[j][i] :: bs[j].drop (i + 1) := by rw [← List.drop_eq_getElem_cons hi, List.take_append_drop]
  exact (congrArg (· ++ (bs.drop (j + 1)).flatten) e).trans (by rw [List.append_assoc, List.cons_append])
theorem take_flat {bs : List (List Cel)} {j : Nat} (hj : j < bs.length) : (bs.take (j + 1)).flatten = (bs.take j).flatten ++ bs[j] := by
  rw [List.take_succ_eq_append_getElem hj, List.flatten_append]; simp
def takeF (bs : List (List Cel)) (j : Nat) : List Cel := (bs.take j).flatten
def addT (P b : List Cel) (i : Nat) : List Cel := P ++ b.take i
/-- while a scan goes on: M was gone over -/
structure ScI (w3 wr : World) (kf ku : Ky) (v : Value) (M : List Cel) : Prop where
  own : OwnX eC wr w3.heap.size v (M.filter (inK kf ku))
  lt : ∀ x ∈ M, kcK x.k ku < 0
  bel : Below w3.heap.size w3 wr
set_option maxHeartbeats 4000000 in
theorem scan_any (g : Nat) (bs : List (List Cel)) (kf ku : Ky) (w : World) (h : Tb w g bs) :
    Calls Tryz.prog 21 #[.pointer (some ⟨g, 0, none⟩), kyVal kf, kyVal ku] w fun e w' => ∃ v, e = .returned v ∧ OwnX eC w' w.heap.size v (bs.flatten.filter (inK kf ku)) ∧ Below w.heap.size w w' := by
  have b1 := (Blk.new w 24 #[.string kf.t, .string kf.p, .int .i64 kf.r, .string kf.c]).alloc (.cells #[.string ku.t, .string ku.p, .int .i64 ku.r, .string ku.c] 24)
  have b2 := Blk.new (w.alloc (.cells #[.string kf.t, .string kf.p, .int .i64 kf.r, .string kf.c] 24)) 24 #[.string ku.t, .string ku.p, .int .i64 ku.r, .string ku.c]
  have B0 := below_alloc (below_alloc (Below.refl _ w) (.cells #[.string kf.t, .string kf.p, .int .i64 kf.r, .string kf.c] 24)) (.cells #[.string ku.t, .string ku.p, .int .i64 ku.r, .string ku.c] 24)
  rw [show (w.alloc (.cells #[.string kf.t, .string kf.p, .int .i64 kf.r, .string kf.c] 24)).heap.size = w.heap.size + 1 by simp] at b2
  have HH := Lib.hid (h.keep B0)
  have HSRT := Lib.hid h.srt
  have HFEW := Lib.hid h.few
  have HMOST := Lib.hid h.ok.most
  have K1 := Lib.hid b1; have K2 := Lib.hid b2; have HB0 := Lib.hid B0
  obtain ⟨R, hR⟩ : ∃ R, bs.flatten.filter (inK kf ku) = R := ⟨_, rfl⟩
  rw [hR]
  have HR := Lib.hid hR
  clear hR b1 b2 B0 h
  unfold kyVal
  go_enter Tryz.func21, Tryz.ntmps21
  go_wp2_with fail
  generalize (w.alloc (.cells #[.string kf.t, .string kf.p, .int .i64 kf.r, .string kf.c] 24)).alloc (.cells #[.string ku.t, .string ku.p, .int .i64 ku.r, .string ku.c] 24) = W0 at *
  refine HH.out.made.mono ?_
  rintro e w1 ⟨rfl, hb⟩
  have h1 := HH.out.keep hb
  have H1 := Lib.hid h1; have HB1 := Lib.hid (below_tr HB0.out hb)
  have K3 := Lib.hid (K1.out.below hb); have K4 := Lib.hid (K2.out.below hb)
  clear hb K1 K2 HH
  obtain ⟨hv, gf, hs, hb1, hsl, hls, hfl⟩ := h1.ex
  obtain ⟨a, c, rfl, hc, _⟩ := hsl.ex
  obtain ⟨r, hr⟩ : ∃ r, blockN bs kf = r := ⟨_, rfl⟩
  have hrl : r ≤ hs.length := by rw [← hr, hls.len]; exact (blockN_first bs kf).le
  have q1 := Lib.hid (QP.of (W := w1) fun W' hb => blockN_any g bs kf W' (H1.out.keep hb))
  rw [hr] at q1
  have HT := Lib.hid hb1
  have hsl2 : SlX eH w1.heap.size w1 (.slice (if c = r then a else Option.map (fun x => x.add r) a) (hs.length - r) (c - r)) (hs.drop r) := by
    have := hsl.tail r hrl
    rwa [show r * eH.size = r from Nat.mul_one r] at this
  have HSL := Lib.hid hsl2; have HLS := Lib.hid (hls.drop r)
  have HRR := Lib.hid hr
  have HSZ := Lib.hid (show hs.length - r ≤ 20000 by have := hls.len; have := HFEW.out; omega)
  have HCUT := Lib.hid (show (hs.drop r).length = hs.length - r from List.length_drop)
  have t0 := fun d os => (hb1.below (below_regrown w1 d os)).cell 0 rfl
  have p0 := fun d os => (K3.out.below (below_regrown w1 d os)).cell 0 rfl; have p1 := fun d os => (K3.out.below (below_regrown w1 d os)).cell 1 rfl
  have p2 := fun d os => (K3.out.below (below_regrown w1 d os)).cell 2 rfl; have p3 := fun d os => (K3.out.below (below_regrown w1 d os)).cell 3 rfl
  unfold kyVal at q1
  clear hb1 hsl hls hfl h1 hr hsl2 HT
  go_wp2_with fail
  refine wp_region_quiet_below (by kernel_rfl) (by kernel_rfl) ?_
  repeat (quiet_step (first | with_reducible exact q1.out.at _ _))
  refine wpQuiet_nil ?_
  intro w3 hw3
  have hb3 := regrown_below hw3
  have K5 := Lib.hid (K3.out.below hb3); have K6 := Lib.hid (K4.out.below hb3); have HB3 := Lib.hid (below_tr HB1.out hb3)
  have SL3 := Lib.hid (HSL.out.keep hb3); have LS3 := Lib.hid (HLS.out.keep hb3)
  generalize (if c = r then a else Option.map (fun x => x.add r) a) = a2 at *
  generalize c - r = c2 at *
  generalize hs.length - r = m at *
  have hms := HSZ.out
  have hmc := HCUT.out
  obtain ⟨bs2, hbs2⟩ : ∃ bs2, bs.drop r = bs2 := ⟨_, rfl⟩
  have HBS := Lib.hid hbs2
  rw [hbs2] at LS3
  generalize hs.drop r = hs2 at *
  have HW0 := Lib.hid (show w.heap.size ≤ w3.heap.size from HB3.out.size)
  have PAIR := Lib.hid (show bs2.flatten.Pairwise (fun a b => kcK a.k b.k < 0) by rw [← hbs2, ← HRR.out]; exact scan_pair HSRT.out kf)
  have DONE := Lib.hid (fun (M B : List Cel) (he : bs2.flatten = M ++ B) (hB : ∀ c ∈ B, 0 ≤ kcK c.k ku) => show R = M.filter (inK kf ku) by
    rw [← HR.out]; exact scan_end HSRT.out kf ku M B (by rw [HRR.out, hbs2]; exact he) hB)
  have HFL := Lib.hid (show bs2.flatten.length ≤ 20000 by
    have := HMOST.out
    have e : bs.flatten.length = (bs.take r).flatten.length + bs2.flatten.length := by rw [← hbs2, ← List.length_append, ← List.flatten_append, List.take_append_drop]
    omega)
  subst hmc
  clear hb3 hw3 t0 p0 p1 p2 p3 q1 HSL HLS HCUT hbs2 hrl
  go_wp2_with fail
  go_loopw [7, 9, 11, 24] (fun v7 _ _ v24 wr => ∃ j : Nat, v24 = .int .i64 (j : Int) ∧ j ≤ hs2.length ∧ Hid (ScI w3 wr kf ku v7 (takeF bs2 j))) (fun _ _ _ v24 _ => hs2.length - (intOf v24).toNat)
  case atStart => exact ⟨0, rfl, Nat.zero_le _, Lib.hid ⟨OwnX.nil _ _, by simp [takeF], Below.refl _ _⟩⟩
  case round =>
    obtain ⟨j, rfl, hj, HSC⟩ := hrel
    have HO := Lib.hid HSC.out.own; have HBW := Lib.hid HSC.out.bel
    by_cases hlt : j < hs2.length
    · have hz : (j : Int) < (hs2.length : Int) := by omega
      have hj2 : j < bs2.length := by rw [← LS3.out.len]; exact hlt
      obtain ⟨gv, ov, cv, ev, _, _⟩ := SL3.out.form (by omega)
      injection ev with ev1 _ _
      subst ev1
      have e0 := cell_keep HBW.out (eH_cell SL3.out j hlt)
      have X := Lib.hid (LS3.out.at_ j hlt hj2)
      have INN := Lib.hid (fun i (hi : i < bs2[j].length) => show bs2.flatten = addT (takeF bs2 j) bs2[j] i ++ bs2[j][i] :: (bs2[j].drop (i + 1) ++ (bs2.drop (j + 1)).flatten) from split_at hj2 hi)
      have TK := Lib.hid (show takeF bs2 (j + 1) = takeF bs2 j ++ bs2[j] from take_flat hj2)
      have HPL := Lib.hid (show (takeF bs2 j).length + bs2[j].length ≤ 20000 by
        have h1 := HFL.out
        have h2 : (bs2.take (j + 1)).flatten.length ≤ bs2.flatten.length := by
          conv => rhs; rw [← List.take_append_drop (j + 1) bs2, List.flatten_append, List.length_append]
          omega
        have h3 := TK.out
        unfold takeF at h3 ⊢
        rw [h3, List.length_append] at h2; omega)
      have hbl : bs2[j].length ≤ 20000 := by have := HPL.out; omega
      generalize (bs2.drop (j + 1)).flatten = T at *
      generalize takeF bs2 j = P at *
      generalize bs2[j] = b at *
      generalize hs2[j] = hd at *
      obtain ⟨ha, hn1, hc1⟩ := hd
      unfold Hd.val at X
      simp only at e0 X
      obtain ⟨ab, cb, eb, hcb, hxb⟩ := X.out.1.ex
      injection eb with eb1 eb2 eb3
      subst eb1 eb2 eb3
      have HXB := Lib.hid hxb
      clear hxb
      go_wp2_with fail
      clear e0
      go_loopw [7, 11, 30] (fun v7 _ v30 wq => ∃ i : Nat, v30 = .int .i64 (i : Int) ∧ i ≤ b.length ∧ Hid (ScI w3 wq kf ku v7 (addT P b i))) (fun _ _ v30 _ => b.length - (intOf v30).toNat)
      case atStart => exact ⟨0, rfl, Nat.zero_le _, Lib.hid (by rw [show addT P b 0 = P from List.append_nil P]; exact HSC.out)⟩
      case round =>
        obtain ⟨i, rfl, hi, HSI⟩ := hrel
        have HBQ := Lib.hid HSI.out.bel; have HLT2 := Lib.hid HSI.out.lt; have HO2' := Lib.hid HSI.out.own
        obtain ⟨acc2, hacc2⟩ : ∃ acc2, (addT P b i).filter (inK kf ku) = acc2 := ⟨_, rfl⟩
        rw [hacc2] at HO2'
        have HO2 := HO2'
        have HA2 := Lib.hid hacc2.symm
        by_cases hil : i < b.length
        · have hz2 : (i : Int) < (b.length : Int) := by omega
          obtain ⟨gl, o, rfl, hgl2, _⟩ := HXB.out (by omega)
          have ten := (Ten.of X.out.1 i hil).keep HBQ.out
          have IN := Lib.hid (INN.out i hil)
          have TI := Lib.hid (show addT P b (i + 1) = addT P b i ++ [b[i]] by unfold addT; rw [List.take_succ_eq_append_getElem hil, List.append_assoc])
          generalize b[i] = x at *
          have hacc : acc2.length ≤ 20000 := by
            rw [HA2.out]
            have h1 := List.length_filter_le (inK kf ku) (addT P b i)
            unfold addT at h1
            rw [List.length_append, List.length_take] at h1
            unfold addT
            have := HPL.out; omega
          have BEY := Lib.hid (fun (h : 0 ≤ kcK x.k ku) => show R = acc2 by
            rw [HA2.out]; exact DONE.out _ _ IN.out (pair_beyond (by rw [← IN.out]; exact PAIR.out) h))
          have LTN := Lib.hid (fun (h : kcK x.k ku < 0) => show ∀ y ∈ addT P b (i + 1), kcK y.k ku < 0 by
            rw [TI.out]
            intro y hy
            rcases List.mem_append.1 hy with hy | hy
            · exact HLT2.out y hy
            · rw [List.mem_singleton.1 hy]; exact h)
          have YES := Lib.hid (fun (h1 : kcK x.k ku < 0) (h2 : 0 ≤ kcK x.k kf) => show acc2 ++ [x] = (addT P b (i + 1)).filter (inK kf ku) by
            rw [TI.out, List.filter_append, ← HA2.out, List.filter_cons_of_pos (by unfold inK; simp; omega)]; rfl)
          have NO := Lib.hid (fun (h2 : kcK x.k kf < 0) => show acc2 = (addT P b (i + 1)).filter (inK kf ku) by
            rw [TI.out, List.filter_append, ← HA2.out, List.filter_cons_of_neg (by unfold inK; simp; omega), List.filter_nil, List.append_nil])
          have C1 := Lib.hid (fun W => show Calls _ _ _ _ _ from Cmp_any x.k.t x.k.p x.k.c ku.t ku.p ku.c x.k.r ku.r W)
          have kE : kcK x.k ku = firstOf [cmpS x.k.t ku.t, cmpS x.k.p ku.p, cmpI x.k.r ku.r, cmpS x.k.c ku.c] := rfl
          rw [← kE] at C1
          have C2 := Lib.hid (fun W => show Calls _ _ _ _ _ from Cmp_any x.k.t x.k.p x.k.c kf.t kf.p kf.c x.k.r kf.r W)
          have kE2 : kcK x.k kf = firstOf [cmpS x.k.t kf.t, cmpS x.k.p kf.p, cmpI x.k.r kf.r, cmpS x.k.c kf.c] := rfl
          rw [← kE2] at C2
          clear kE kE2
          generalize kcK x.k ku = r1 at *
          generalize kcK x.k kf = r2 at *
          obtain ⟨c0, c1, c2, c3, c4, c5, c6, c7, c8, c9⟩ := ten
          have BK := Lib.hid (Blk.new wr 61 (celEnc x).toArray)
          have BX := Lib.hid (below_alloc (Below.refl _ wr) (.cells (celEnc x).toArray 61))
          obtain ⟨⟨t, p, rr, q⟩, ⟨tm, dd, lc, kd, nn, ss⟩⟩ := x
          simp only [celEnc] at *
          go_upto_region 10 with (fail)
          clear c0 c1 c2 c3 c4 c5 c6 c7 c8 c9
          generalize hW1 : wr.alloc (.cells #[.string t, .string p, .int .i64 rr, .string q, .int .i64 tm, .bool dd, .int .i64 lc, .int .i64 kd, .int .i64 nn, .string ss] 61) = W1 at *
          have HB4 := Lib.hid (HBQ.out.trans (BX.out.mono HBQ.out.size))
          have ku' := K6.out.below HB4.out
          have u0 := ku'.cell 0 rfl; have u1 := ku'.cell 1 rfl; have u2 := ku'.cell 2 rfl; have u3 := ku'.cell 3 rfl
          have c0 := BK.out.cell 0 rfl; have c1 := BK.out.cell 1 rfl; have c2' := BK.out.cell 2 rfl; have c3 := BK.out.cell 3 rfl
          clear ku'
          go_wp2_with fail
          refine (C1.out _).mono ?_
          rintro e w5 ⟨rfl, hb5⟩
          have HB5 := Lib.hid (HB4.out.trans (hb5.mono HB4.out.size))
          have bk := BK.out.below hb5
          have kf' := K5.out.below HB5.out
          have O5 := Lib.hid ((HO2.out.below BX.out).below hb5)
          clear u0 u1 u2 u3 c0 c1 c2' c3 C1
          have u0 := kf'.cell 0 rfl; have u1 := kf'.cell 1 rfl; have u2 := kf'.cell 2 rfl; have u3 := kf'.cell 3 rfl
          have c0 := bk.cell 0 rfl; have c1 := bk.cell 1 rfl; have c2' := bk.cell 2 rfl; have c3 := bk.cell 3 rfl
          have BK5 := Lib.hid bk
          clear kf' bk hb5
          obtain ⟨aa, ca, ea, _, _⟩ := (OwnX.sl O5.out).ex
          subst ea
          by_cases hr1 : 0 ≤ r1
          · have FIN := Lib.hid (BEY.out hr1)
            go_wp2_with fail
            go_ret
            exact ⟨_, rfl, by rw [FIN.out]; exact O5.out.weaken HW0.out, HB3.out.trans (HB5.out.mono HW0.out)⟩
          · have hr1' : r1 < 0 := by omega
            have HLN := Lib.hid (LTN.out hr1')
            go_wp2_with fail
            refine (C2.out _).mono ?_
            rintro e w6 ⟨rfl, hb6⟩
            have HB6 := Lib.hid (HB5.out.trans (hb6.mono HB5.out.size))
            have bk := BK5.out.below hb6
            have O6 := Lib.hid (O5.out.below hb6)
            clear u0 u1 u2 u3 c0 c1 c2' c3 C2
            obtain ⟨c0, c1, c2, c3, c4, c5, c6, c7, c8, c9⟩ := Blk.ten (x := (⟨⟨t, p, rr, q⟩, ⟨tm, dd, lc, kd, nn, ss⟩⟩ : Cel)) bk
            simp only [Nat.zero_add] at c0 c1 c2 c3 c4 c5 c6 c7 c8 c9
            clear bk hb6
            by_cases hr2 : 0 ≤ r2
            · have HY := Lib.hid (YES.out hr1' hr2)
              have BX7 := Lib.hid (below_al HB6.out (.cells #[.string t, .string p, .int .i64 rr, .string q, .int .i64 tm, .bool dd, .int .i64 lc, .int .i64 kd, .int .i64 nn, .string ss] 61) HB6.out.size)
              have OX7 := Lib.hid (O6.out.alloc (.cells #[.string t, .string p, .int .i64 rr, .string q, .int .i64 tm, .bool dd, .int .i64 lc, .int .i64 kd, .int .i64 nn, .string ss] 61))
              have SX7 := Lib.hid (SlX.lit (E := eC) w6 #[.string t, .string p, .int .i64 rr, .string q, .int .i64 tm, .bool dd, .int .i64 lc, .int .i64 kd, .int .i64 nn, .string ss] [(⟨⟨t, p, rr, q⟩, ⟨tm, dd, lc, kd, nn, ss⟩⟩ : Cel)] 1 1 rfl (by simp) (by simp [El.cells, eC, celEnc]))
              go_wp2_with (at_builtin; go_must (refine ap_x (E := eC) rfl (.tmp 45) (.tmp 47) rfl w3.heap.size _ acc2 _ _ [(⟨⟨t, p, rr, q⟩, ⟨tm, dd, lc, kd, nn, ss⟩⟩ : Cel)] rfl rfl SX7.out OX7.out BX7.out BX7.out.size (by simp; omega) (by simp [eC]; omega) ?_); intro v7 w7 hO7 hB7 hz7 hg7)
              have O7 := Lib.hid hO7; have B7 := Lib.hid hB7
              have G7 := Lib.hid hg7
              clear hO7 hB7 hz7 hg7
              have SC := Lib.hid (show ScI w3 w7 kf ku _ (addT P b (i + 1)) from ⟨by rw [← HY.out]; exact O7.out, HLN.out, B7.out⟩)
              go_roundw
              case rel => exact ⟨i + 1, by first | rfl | go_num, by omega, SC⟩
              case measure => simp [intOf]; omega
            · have HN := Lib.hid (NO.out (by omega))
              have SC := Lib.hid (show ScI w3 w6 kf ku _ (addT P b (i + 1)) from ⟨by rw [← HN.out]; exact O6.out, HLN.out, HB6.out⟩)
              go_wp2_with fail
              go_roundw
              case rel => exact ⟨i + 1, by first | rfl | go_num, by omega, SC⟩
              case measure => simp [intOf]; omega
        · have hz2 : ¬ (i : Int) < (b.length : Int) := by omega
          have SC := Lib.hid (show ScI w3 wr kf ku _ (takeF bs2 (j + 1)) by
            rw [TK.out, show P ++ b = addT P b i by unfold addT; rw [List.take_of_length_le (by omega)]]; exact HSI.out)
          have hmeas : hs2.length - (j + 1) < hs2.length - j := by omega
          go_wp2_with fail
          exact ⟨⟨_, _, _, _, _, ⟨j + 1, by first | rfl | go_num, by omega, SC⟩, rfl, rfl, rfl, rfl, by first | rfl | go_num⟩, by simp [intOf]; omega⟩
    · have hz : ¬ (j : Int) < (hs2.length : Int) := by omega
      have hj2 : j = bs2.length := by rw [← LS3.out.len]; omega
      have FIN := Lib.hid (DONE.out (takeF bs2 j) [] (by unfold takeF; rw [hj2, List.take_length, List.append_nil]) (by simp))
      clear hj2
      obtain ⟨aa, ca, ea, _, _⟩ := (OwnX.sl HO.out).ex
      subst ea
      go_wp2_with fail
      go_ret
      exact ⟨_, rfl, by rw [FIN.out]; exact HO.out.weaken HW0.out, HB3.out.trans (HBW.out.mono HW0.out)⟩
end Go.Proofs.YtplghaoflmaadaaGreatDoor
end

section
set_option linter.unusedVariables false
set_option linter.unusedSimpArgs false
set_option maxRecDepth 50000
namespace Go.Proofs.YtplghaoflmaadaaGreatDoor
open Go.RowKit Go.Sort
open Go.Lib hiding intOf

theorem lastK_app (A b : List Cel) (h : 0 < b.length) : lastK (A ++ b) = lastK b := by
  unfold lastK
  rw [List.getD_eq_getElem?_getD, List.getD_eq_getElem?_getD, List.length_append, List.getElem?_append_right (by omega), show A.length + b.length - 1 - A.length = b.length - 1 by omega]
theorem lastK_flat {bs : List (List Cel)} {m : Nat} (hm : bs.length = m + 1) (h : 0 < (bs[m]'(by omega)).length) : lastK bs.flatten = lastK (bs[m]'(by omega)) := by
  have e : bs.take (m + 1) = bs := List.take_of_length_le (by omega)
  have := take_flat (bs := bs) (j := m) (by omega)
  rw [e] at this
  rw [this, lastK_app _ _ h]
theorem lastK_at {b : List Cel} {n : Nat} (h : b.length = n + 1) : lastK b = (b[n]'(by omega)).k := by
  unfold lastK
  have e : b.length - 1 = n := by omega
  rw [List.getD_eq_getElem?_getD, e, List.getElem?_eq_getElem (by omega)]; rfl
theorem firstK_flat {bs : List (List Cel)} (h : 0 < bs.length) (h2 : 0 < bs[0].length) : (bs.flatten.getD 0 zCl).k = bs[0][0].k := by
  cases bs with
  | nil => simp at h
  | cons b l =>
    cases b with
    | nil => simp at h2
    | cons c t => rfl

theorem Blk.put4 {w : World} {g : Nat} {t : TypeId} {a0 a1 a2 a3 : Value} (h : Blk w g t #[a0, a1, a2, a3]) (u0 u1 u2 u3 : Value) :
    Blk ((((w.setCell ⟨g, 0, none⟩ u0).setCell ⟨g, 1, none⟩ u1).setCell ⟨g, 2, none⟩ u2).setCell ⟨g, 3, none⟩ u3) g t #[u0, u1, u2, u3] :=
  (((h.put 0 u0).put 1 u1).put 2 u2).put 3 u3
theorem Blk.far4 {w : World} {g : Nat} {t : TypeId} {cs : Array Value} (h : Blk w g t cs) {k : Nat} (hk : g ≠ k) (u0 u1 u2 u3 : Value) :
    Blk ((((w.setCell ⟨k, 0, none⟩ u0).setCell ⟨k, 1, none⟩ u1).setCell ⟨k, 2, none⟩ u2).setCell ⟨k, 3, none⟩ u3) g t cs :=
  (((h.far hk u0).far hk u1).far hk u2).far hk u3
set_option maxHeartbeats 2000000 in
theorem ends_any (g : Nat) (bs : List (List Cel)) (w : World) (h : Tb w g bs) :
    Calls Tryz.prog 19 #[.pointer (some ⟨g, 0, none⟩)] w fun e w' => e = .returned (.tuple #[kyVal (bs.flatten.getD 0 zCl).k, kyVal (lastK bs.flatten), .bool true]) ∧ Below w.heap.size w w' := by
  have b1 := (Blk.new w 24 #[.string ⟨#[]⟩, .string ⟨#[]⟩, .int .i64 0, .string ⟨#[]⟩]).alloc (.cells #[.string ⟨#[]⟩, .string ⟨#[]⟩, .int .i64 0, .string ⟨#[]⟩] 24)
  have b2 := Blk.new (w.alloc (.cells #[.string ⟨#[]⟩, .string ⟨#[]⟩, .int .i64 0, .string ⟨#[]⟩] 24)) 24 #[.string ⟨#[]⟩, .string ⟨#[]⟩, .int .i64 0, .string ⟨#[]⟩]
  have B0 := below_alloc (below_alloc (Below.refl _ w) (.cells #[.string ⟨#[]⟩, .string ⟨#[]⟩, .int .i64 0, .string ⟨#[]⟩] 24)) (.cells #[.string ⟨#[]⟩, .string ⟨#[]⟩, .int .i64 0, .string ⟨#[]⟩] 24)
  rw [show (w.alloc (.cells #[.string ⟨#[]⟩, .string ⟨#[]⟩, .int .i64 0, .string ⟨#[]⟩] 24)).heap.size = w.heap.size + 1 by simp] at b2
  have HH := Lib.hid (h.keep B0)
  have HFEW := h.few
  have hpos := h.pos
  obtain ⟨m, hm⟩ : ∃ m, bs.length = m + 1 := ⟨bs.length - 1, by omega⟩
  have hn0 := h.ne _ (List.getElem_mem (show 0 < bs.length by omega))
  have hnm := h.ne _ (List.getElem_mem (show m < bs.length by omega))
  obtain ⟨n, hn⟩ : ∃ n, (bs[m]'(by omega)).length = n + 1 := ⟨(bs[m]'(by omega)).length - 1, by omega⟩
  rw [firstK_flat (by omega) hn0, lastK_flat hm hnm, lastK_at hn]
  obtain ⟨RK1, hRK1⟩ : ∃ R, bs[0][0].k = R := ⟨_, rfl⟩
  obtain ⟨RK2, hRK2⟩ : ∃ R, ((bs[m]'(by omega))[n]'(by omega)).k = R := ⟨_, rfl⟩
  rw [hRK1, hRK2]
  obtain ⟨hv, gf, hs, hb1, hsl, hls, hfl⟩ := h.ex
  have hlen := hls.len
  obtain ⟨gv, ov, c, rfl, hc, hgv⟩ := hsl.form (by omega)
  have e0 := eH_cell hsl 0 (by omega)
  have em := eH_cell hsl m (by omega)
  obtain ⟨x0, r0⟩ := hls.at_ 0 (by omega) (by omega)
  obtain ⟨xm, rm⟩ := hls.at_ m (by omega) (by omega)
  obtain ⟨g0, o0, c0, f0, hc0, hg0⟩ := x0.form hn0
  obtain ⟨gm, om, cm, fm, hcm, hgm⟩ := xm.form hnm
  rw [f0] at x0
  rw [fm] at xm
  have t0 := Ten.of x0 0 hn0
  have tm := Ten.of xm n (by omega)
  unfold Hd.val at f0 fm
  rw [f0] at e0
  rw [fm] at em
  rw [hn] at em
  generalize bs[0][0] = y0 at *
  generalize (bs[m]'(by omega))[n]'(by omega) = ym at *
  obtain ⟨y0k, y0v⟩ := y0
  obtain ⟨ymk, ymv⟩ := ym
  simp only at hRK1 hRK2
  subst hRK1 hRK2
  have hgb := hb1.lt
  have v0 : w.cell? ⟨g, 0, none⟩ = some (.slice (some ⟨gv, ov, none⟩) hs.length c) := hb1.cell 0 rfl
  have hl2 : hs.length = m + 1 := by omega
  clear f0 fm hsl hls hb1 hc hlen
  generalize hs.length = hl at *
  have l0 : 0 < hl := by omega
  have lm : (m : Int) < (hl : Int) := by omega
  have lm0 : ¬ (m : Int) < 0 := by omega
  have lm1 : m < hl := by omega
  have w1' : IntKind.i64.wrap ((hl : Int) - 1) = (m : Int) := by rw [IntKind.wrap_i64]; omega
  clear x0 r0
  generalize (bs[0]).length = len0 at *
  obtain ⟨lenm, hlenm⟩ : ∃ lenm, n + 1 = lenm := ⟨_, rfl⟩
  rw [hlenm] at em
  unfold Room at rm
  rw [hn, hlenm] at rm
  have w2' : IntKind.i64.wrap ((lenm : Int) - 1) = (n : Int) := by rw [IntKind.wrap_i64]; omega
  have ln : (n : Int) < (lenm : Int) := by omega
  have ln0 : ¬ (n : Int) < 0 := by omega
  have ln1 : n < lenm := by omega
  have n1 : ¬ g = w.heap.size := by omega
  have n2 : ¬ g = w.heap.size + 1 := by omega
  have n3 : ¬ gv = w.heap.size := by omega
  have n4 : ¬ gv = w.heap.size + 1 := by omega
  have n5 : ¬ g0 = w.heap.size := by omega
  have n6 : ¬ g0 = w.heap.size + 1 := by omega
  have n7 : ¬ gm = w.heap.size := by omega
  have n8 : ¬ gm = w.heap.size + 1 := by omega
  have EM := Lib.hid em; have E0 := Lib.hid e0; have V0 := Lib.hid v0; have T0 := Lib.hid t0; have TM := Lib.hid tm
  obtain ⟨kt, kp, kr, kc⟩ := y0k
  obtain ⟨jt, jp, jr, jc⟩ := ymk
  have K1 := Lib.hid b1; have K2 := Lib.hid b2; have HB0 := Lib.hid B0
  clear b1 b2 B0 h t0 tm e0 em v0
  go_enter Tryz.func19, Tryz.ntmps19
  go_wp2_with fail
  generalize (w.alloc (.cells #[.string ⟨#[]⟩, .string ⟨#[]⟩, .int .i64 0, .string ⟨#[]⟩] 24)).alloc (.cells #[.string ⟨#[]⟩, .string ⟨#[]⟩, .int .i64 0, .string ⟨#[]⟩] 24) = W0 at *
  refine HH.out.made.mono ?_
  rintro e w1 ⟨rfl, hb⟩
  have HB1 := Lib.hid (below_tr HB0.out hb)
  have K3 := Lib.hid (K1.out.below hb); have K4 := Lib.hid (K2.out.below hb)
  have v0 := cell_keep HB1.out V0.out
  have em := cell_keep HB1.out EM.out
  clear hb K1 K2 HH
  go_wp2_with fail
  go_quiet (fail)
  have hb2 : Below w1.heap.size w1 (w1.drewN nq) := below_drewN (Below.refl _ _) nq
  have K5 := Lib.hid (K3.out.below hb2); have K6 := Lib.hid (K4.out.below hb2); have HB2 := Lib.hid (below_tr HB1.out hb2)
  generalize w1.drewN nq = w2 at *
  clear v0 em hb2
  have v0 := cell_keep HB2.out V0.out
  have e0 := cell_keep HB2.out E0.out
  have ta := T0.out.keep HB2.out
  have tb := TM.out.keep HB2.out
  have a0 := ta.c0; have a1 := ta.c1; have a2 := ta.c2; have a3 := ta.c3
  have d0 := tb.c0; have d1 := tb.c1; have d2 := tb.c2; have d3 := tb.c3
  simp only [Nat.zero_mul, Nat.add_zero] at *
  have z := K5.out; have y := K6.out
  have z0 := z.cell 0 rfl; have z1 := z.cell 1 rfl; have z2 := z.cell 2 rfl; have z3 := z.cell 3 rfl
  have y0 := y.cell 0 rfl; have y1 := y.cell 1 rfl; have y2 := y.cell 2 rfl; have y3 := y.cell 3 rfl
  have fz := z.frozen; have fy := y.frozen
  clear ta tb z y
  go_wp2_with fail
  go_region
  have hne : w.heap.size ≠ w.heap.size + 1 := by omega
  have F1 := Lib.hid ((K5.out.put4 (.string kt) (.string kp) (.int .i64 kr) (.string kc)).far4 hne (.string jt) (.string jp) (.int .i64 jr) (.string jc))
  have F2 := Lib.hid (((K6.out.far4 (Ne.symm hne) (.string kt) (.string kp) (.int .i64 kr) (.string kc)).put4 (.string jt) (.string jp) (.int .i64 jr) (.string jc)))
  clear z0 z1 z2 z3 y0 y1 y2 y3 fz fy v0 e0 a0 a1 a2 a3 d0 d1 d2 d3
  go_wp2_with fail
  refine ret_gen (fun w2 => Blk w2 w.heap.size 24 #[.string kt, .string kp, .int .i64 kr, .string kc] ∧ Blk w2 (w.heap.size + 1) 24 #[.string jt, .string jp, .int .i64 jr, .string jc] ∧ Below w.heap.size w w2) ⟨F1.out.below (Below.drew (Below.refl _ _)), F2.out.below (Below.drew (Below.refl _ _)), by refine Below.drew ?_; repeat (first | with_reducible exact HB2.out | refine Below.setCell ?_ (by simp) _)⟩ ?_
  rintro w2 ⟨bk, bj, hb2⟩
  exact bodyPost_ret (v := .tuple #[.agg #[.string kt, .string kp, .int .i64 kr, .string kc], .agg #[.string jt, .string jp, .int .i64 jr, .string jc], .bool true]) (by simp [results, Tryz.results19, go_sem, bk.cell 0 rfl, bk.cell 1 rfl, bk.cell 2 rfl, bk.cell 3 rfl, bj.cell 0 rfl, bj.cell 1 rfl, bj.cell 2 rfl, bj.cell 3 rfl]) rfl ⟨rfl, hb2⟩

/-! All. -/
section
variable {α : Type} {E : El α} {ops : Array Oper} {rest : List Oper} {o : Oper} {a : Act} {Q : Exit → Act → World → Prop} {W : World}
/-- append(nil, make([]T, n)...) -/
theorem ap_zeros (hgd : o.guard = none) (s x : Operand) (ho : o.op = .call { callee := .builtin .append, args := #[s, x], argTypes := #[E.st, 3] }) (n : Nat) (hs : a.eval s = .slice none 0 0) (hx : a.eval x = .int .i64 (n : Int))
    (h0 : 0 < n) (h63 : n ≤ maxLen) (h48 : n * E.bytes ≤ 281474976710656)
    (h : ∀ C w1, n ≤ C → OwnX E w1 W.heap.size (.slice (some ⟨W.heap.size, 0, none⟩) 0 C) [] → Below W.heap.size W w1 → wpList Tryz.prog ops Q rest (a.put o.dst (.slice (some ⟨W.heap.size, 0, none⟩) n C)) w1) : wpList Tryz.prog ops Q (o :: rest) a W := by
  obtain ⟨i0, hi, hz0, hz1, hz2⟩ := info_parts E.info
  have RZ := run_append_nil_zeros (P := Tryz.prog) W E.st 3 o.type E.t i0 E.z .i64 .i64 E.und Tryz.underlying3 hi hz0 n h0 (by rw [hz1]; exact E.pos) (by unfold maxLen at h63; omega) (by rw [hz2]; exact h48)
  have hge := grownCap_ge W n 0 E.t
  refine wpList_plain hgd fun K hK => ?_
  unfold Oper.wp
  simp only [execOp, ho, resolve, invoke, builtin, Sem.run_bind, Sem.run_pure, Result.andThen_ok, List.map_toArray, List.map_cons, List.map_nil, hs, hx, RZ]
  refine hK _ _ (h (grownCap W n 0 E.t) _ hge ⟨by simp [El.cells], .inr ⟨W.heap.size, grownCap W n 0 E.t, _, rfl, Nat.le_refl _, heap_last _ _, Nat.zero_le _, grownCap_le_maxLen W n 0 E.t h63, ?_, by simp [El.cells]⟩⟩ (below_alloc (Below.drew (Below.refl _ _)) _))
  simp only [Array.size_append, size_zeroCells, E.zs, ← Nat.add_mul]
  rw [show n + (grownCap W n 0 E.t - n) = grownCap W n 0 E.t by omega]
end
set_option maxHeartbeats 1000000 in
theorem growC_any (n : Nat) (w : World) (h0 : 0 < n) (hn : n ≤ 1000000) :
    Calls Tryz.prog 107 #[.slice none 0 0, .int .i64 (n : Int)] w fun e w' => ∃ C, e = .returned (.slice (some ⟨w.heap.size, 0, none⟩) 0 C) ∧ OwnX eC w' w.heap.size (.slice (some ⟨w.heap.size, 0, none⟩) 0 C) [] ∧ Below w.heap.size w w' := by
  have hz : (0 : Int) < (n : Int) := by omega
  have hn1 : ¬ (n : Int) < 0 := by omega
  have hb : n ≤ maxLen := by unfold maxLen; omega
  have hb2 : n * eC.bytes ≤ 281474976710656 := by show n * 112 ≤ _; omega
  go_enter Tryz.func107, Tryz.ntmps107
  go_wp2_with (at_builtin; go_must (refine ap_zeros (E := eC) (by rfl) (.tmp 20) (.tmp 21) (by rfl) n (by rfl) (by rfl) h0 hb hb2 ?_); intro C w1 hC hO hB)
  go_ret
  exact ⟨_, rfl, hO, hB⟩
theorem takeF_len {bs : List (List Cel)} (j : Nat) : (takeF bs j).length ≤ bs.flatten.length := by
  unfold takeF
  conv => rhs; rw [← List.take_append_drop j bs, List.flatten_append, List.length_append]
  omega
/-- while lists are put together -/
structure CoI (w wr : World) (v : Value) (M : List Cel) : Prop where
  own : OwnX eC wr w.heap.size v M
  bel : Below w.heap.size w wr
set_option maxHeartbeats 2000000 in
theorem concat_any (v : Value) (hs : List Hd) (bs : List (List Cel)) (w : World) (hv : SlX eH w.heap.size w v hs) (hl : Lists w hs bs) (h0 : 0 < bs.flatten.length) (hm : bs.flatten.length ≤ 20000) (hn : hs.length ≤ 20000) :
    Calls Tryz.prog 63 #[v] w fun e w' => ∃ v', e = .returned v' ∧ OwnX eC w' w.heap.size v' bs.flatten ∧ Below w.heap.size w w' := by
  have HV := Lib.hid hv; have HL := Lib.hid hl; have H0 := Lib.hid h0; have HM := Lib.hid hm
  obtain ⟨a, c, rfl, hc, hx⟩ := hv.ex
  have HX := Lib.hid hx
  obtain ⟨tot, htot⟩ : ∃ tot, takeF bs hs.length = tot := ⟨_, rfl⟩
  have HTOT := Lib.hid (show tot = bs.flatten by rw [← htot]; unfold takeF; rw [hl.len, List.take_length])
  have HTO := Lib.hid htot
  rw [← HTOT.out]
  clear hx hv hl htot h0 hm
  go_enter Tryz.func63, Tryz.ntmps63
  go_wp2_with fail
  go_loopw [3, 5, 11] (fun v3 _ v11 wr => ∃ j : Nat, v11 = .int .i64 (j : Int) ∧ j ≤ hs.length ∧ v3 = .int .i64 ((takeF bs j).length : Int) ∧ Hid (Below w.heap.size w wr)) (fun _ _ v11 _ => hs.length - (intOf v11).toNat)
  case atStart => exact ⟨0, rfl, Nat.zero_le _, rfl, Lib.hid (Below.refl _ _)⟩
  case round =>
    obtain ⟨j, rfl, hj, rfl, HB⟩ := hrel
    by_cases hlt : j < hs.length
    · have hz : (j : Int) < (hs.length : Int) := by omega
      have hj2 : j < bs.length := by rw [← HL.out.len]; exact hlt
      obtain ⟨gv, ov, rfl, hgv, _⟩ := HX.out (by omega)
      have e0 := cell_keep HB.out (eH_cell HV.out j hlt)
      have X := (HL.out.at_ j hlt hj2).1
      have TK := Lib.hid (show (takeF bs (j + 1)).length = (takeF bs j).length + bs[j].length by rw [← List.length_append]; exact congrArg List.length (take_flat hj2))
      have TL := takeF_len (bs := bs) (j + 1)
      rw [TK.out] at TL
      have HM2 := HM.out
      obtain ⟨ab, cb, eb, _, _⟩ := X.ex
      unfold Hd.val at eb
      rw [eb] at e0
      generalize bs[j].length = len at *
      obtain ⟨s, hs2⟩ : ∃ s, (takeF bs j).length = s := ⟨_, rfl⟩
      rw [hs2] at TK TL
      rw [hs2]
      generalize bs.flatten.length = fl at *
      have hw : IntKind.i64.wrap ((s : Int) + (len : Int)) = ((s + len : Nat) : Int) := by rw [IntKind.wrap_i64]; omega
      have hw0 : ¬ ((s + len : Nat) : Int) < 0 := by omega
      clear X eb hs2
      go_wp2_with fail
      go_roundw
      case rel => exact ⟨j + 1, by first | rfl | go_num, by omega, by rw [TK.out, Int.natCast_add], HB⟩
      case measure => simp [intOf]; omega
    · obtain rfl : j = hs.length := by omega
      have hz : ¬ (hs.length : Int) < (hs.length : Int) := by omega
      rw [HTO.out]
      have hp : 0 < tot.length := by rw [HTOT.out]; exact H0.out
      have hp2 : tot.length ≤ 20000 := by rw [HTOT.out]; exact HM.out
      have GR := Lib.hid (growC_any tot.length wr hp (by omega))
      have HT0 := Lib.hid hp; have HT1 := Lib.hid hp2
      clear hp hp2
      go_wp2_with fail
      refine GR.out.mono ?_
      rintro e w2 ⟨C, rfl, hO, hb⟩
      have CI := Lib.hid (show CoI w w2 (.slice (some ⟨wr.heap.size, 0, none⟩) 0 C) (takeF bs 0) from ⟨by show OwnX eC w2 w.heap.size _ []; exact hO.weaken HB.out.size, below_tr HB.out hb⟩)
      clear hO hb GR
      go_wp2_with fail
      go_loopw [6, 8, 27] (fun v6 _ v27 wr => ∃ j : Nat, v27 = .int .i64 (j : Int) ∧ j ≤ hs.length ∧ Hid (CoI w wr v6 (takeF bs j))) (fun _ _ v27 _ => hs.length - (intOf v27).toNat)
      case atStart => exact ⟨0, rfl, Nat.zero_le _, CI⟩
      case round =>
        obtain ⟨j, rfl, hj, HC⟩ := hrel
        by_cases hlt : j < hs.length
        · have hz : (j : Int) < (hs.length : Int) := by omega
          have hj2 : j < bs.length := by rw [← HL.out.len]; exact hlt
          obtain ⟨gv, ov, rfl, hgv, _⟩ := HX.out (by omega)
          have e0 := cell_keep HC.out.bel (eH_cell HV.out j hlt)
          have X := (HL.out.at_ j hlt hj2).1
          have TK := Lib.hid (show takeF bs (j + 1) = takeF bs j ++ bs[j] from take_flat hj2)
          have TL := takeF_len (bs := bs) (j + 1)
          rw [TK.out, List.length_append] at TL
          have HM2 := HM.out
          have HX2 := Lib.hid (X.keep HC.out.bel)
          have HO := Lib.hid HC.out.own
          generalize bs[j] = b at *
          generalize takeF bs j = P at *
          have hr1 : P.length + b.length ≤ 9223372036854775807 := by omega
          have hr2 : (P.length + b.length) * eC.bytes ≤ 140737488355328 := by show _ * 112 ≤ _; omega
          have hsz := HC.out.bel.size
          clear X TL HM2
          generalize hs[j] = hd at *
          unfold Hd.val at HX2
          go_wp2_with (at_builtin; go_must (refine ap_g (E := eC) (by rfl) (.tmp 31) (.tmp 32) (by rfl) w.heap.size _ P _ _ b (by rfl) (by rfl) HX2.out HO.out hsz hr1 hr2 ?_); intro v9 w9 hO9 hG9; have CI9 := Lib.hid (show CoI w w9 v9 (takeF bs (j + 1)) from ⟨by rw [TK.out]; exact hO9, HC.out.bel.trans (hG9.below hsz HO.out.base)⟩); clear hO9 hG9)
          go_roundw
          case rel => exact ⟨j + 1, by first | rfl | go_num, by omega, CI9⟩
          case measure => simp [intOf]; omega
        · obtain rfl : j = hs.length := by omega
          have hz : ¬ (hs.length : Int) < (hs.length : Int) := by omega
          rw [HTO.out] at HC
          obtain ⟨aa, ca, ea, _, _⟩ := (OwnX.sl HC.out.own).ex
          subst ea
          go_wp2_with fail
          go_ret
          exact ⟨_, rfl, HC.out.own, HC.out.bel⟩
theorem all_any (g : Nat) (bs : List (List Cel)) (w : World) (h : Tb w g bs) :
    Calls Tryz.prog 22 #[.pointer (some ⟨g, 0, none⟩)] w fun e w' => ∃ v, e = .returned v ∧ OwnX eC w' w.heap.size v bs.flatten ∧ Below w.heap.size w w' := by
  have M := Lib.hid h.made
  have H := Lib.hid h
  clear h
  go_enter Tryz.func22, Tryz.ntmps22
  go_wp2_with fail
  refine M.out.mono ?_
  rintro e w1 ⟨rfl, hb⟩
  have h1 := H.out.keep hb
  obtain ⟨hv, gf, hs, hb1, hsl, hls, _⟩ := h1.ex
  have CC := Lib.hid (concat_any hv hs bs w1 hsl hls H.out.ok.pos H.out.ok.most (by rw [hls.len]; exact H.out.few))
  have HB := Lib.hid hb
  obtain ⟨a, c, rfl, _, _⟩ := hsl.ex
  have c2 := hb1.cell 0 rfl
  clear h1 hb1 hsl hls hb
  go_wp2_with fail
  refine CC.out.mono ?_
  rintro e w2 ⟨v, rfl, hO, hb2⟩
  have HO := Lib.hid (hO.weaken HB.out.size); have HB2 := Lib.hid (below_tr HB.out hb2)
  clear hO hb2 CC
  go_wp2_with fail
  go_ret
  exact ⟨_, rfl, HO.out, HB2.out⟩
end Go.Proofs.YtplghaoflmaadaaGreatDoor
end
