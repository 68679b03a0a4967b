/- Contracts of a ring's Replicas, Has and Ranges. Conditions: at most a thousand points, whose nodes are 1 to 5; at most five copies. -/
import Derived.Test.YtmjeifbadjdnfaaDoorGf
set_option linter.unusedVariables false
set_option linter.unusedSimpArgs false
set_option maxRecDepth 20000
namespace Go.Proofs.YtmjeifbadjdnfaaDoor
open Go.RowKit Go.Sort

theorem But.grownNew {S : Nat → Prop} {w w1 w2 : World} (h : But S w w1) {row : Option Nat} (hg : w1.grownBy w2 row) (hr : ∀ k, row = some k → S k ∨ w.heap.size ≤ k) : But S w w2 :=
  ⟨hg.os.trans h.os, hg.tape.trans h.tape, hg.output.trans h.output, Nat.le_trans h.size hg.size, fun k hk hn =>
    (hg.block k (Nat.lt_of_lt_of_le hk h.size) (fun e => by
      rcases hr k e.symm with h1 | h1
      · exact hn h1
      · omega)).trans (h.block k hk hn)⟩
section
variable {α : Type} {E : El α} {B : Nat} {w : World} {g o n c : Nat} {l : List α}
theorem SlX.drop (h : SlX E B w (.slice (some ⟨g, o, none⟩) n c) l) (i : Nat) (hi : i ≤ l.length) : SlX E B w (.slice (some ⟨g, o + i * E.size, none⟩) (n - i) (c - i)) (l.drop i) := by
  obtain ⟨a', c', e, hc, hx⟩ := h.ex
  injection e with e1 e2 e3
  subst e1 e2 e3
  refine ⟨_, c - i, by rw [List.length_drop], by rw [List.length_drop]; omega, fun h0 => ?_⟩
  rw [List.length_drop] at h0
  obtain ⟨g', o', ea, hg, hcell⟩ := hx (by omega)
  injection ea with ea; injection ea with e1 e2
  subst e1 e2
  refine ⟨g, o + i * E.size, rfl, hg, fun j u hj => ?_⟩
  rw [Nat.add_assoc]
  refine hcell _ _ ?_
  have e : E.cells l = E.cells (l.take i) ++ E.cells (l.drop i) := by rw [← E.cells_app, List.take_append_drop]
  have hl : (E.cells (l.take i)).length = i * E.size := by rw [E.cells_len, List.length_take, Nat.min_eq_left hi]
  rw [e, List.getElem?_append_right (by omega), hl, Nat.add_sub_cancel_left]
  exact hj
theorem SlX.take (h : SlX E B w (.slice (some ⟨g, o, none⟩) n c) l) (i : Nat) (hi : i ≤ l.length) : SlX E B w (.slice (some ⟨g, o, none⟩) i c) (l.take i) := by
  obtain ⟨a', c', e, hc, hx⟩ := h.ex
  injection e with e1 e2 e3
  subst e1 e2 e3
  have hl : (l.take i).length = i := by rw [List.length_take, Nat.min_eq_left hi]
  refine ⟨_, c, by rw [hl], by omega, fun h0 => ?_⟩
  obtain ⟨g', o', ea, hg, hcell⟩ := hx (by omega)
  injection ea with ea; injection ea with e1 e2
  subst e1 e2
  refine ⟨g, o, rfl, hg, fun j u hj => hcell _ _ ?_⟩
  have e : E.cells l = E.cells (l.take i) ++ E.cells (l.drop i) := by rw [← E.cells_app, List.take_append_drop]
  rw [e, List.getElem?_append_left]
  · exact hj
  · rcases Nat.lt_or_ge j (E.cells (l.take i)).length with h | h
    · exact h
    · rw [List.getElem?_eq_none h] at hj; cases hj
end
theorem undPt : Tryd.prog.underlying 52 = some (.slice (Tryd.prog.elem 52)) := by rw [show Tryd.prog.elem 52 = 63 by kernel_rfl]; exact Tryd.underlying52
theorem sizePt (w : World) : (Go.sizeOf (Tryd.prog.elem 52)).run Tryd.prog w = .ok 2 w := by rw [show Tryd.prog.elem 52 = 63 by kernel_rfl]; exact Tryd.sizeOf63 w
theorem lo_run (g o n c i : Nat) (hi : i < n) (hn : n ≤ c) (W : World) : (Instr.slice 52 (.slice (some ⟨g, o, none⟩) n c) (some (.int .i64 (i : Int))) none none).run Tryd.prog W = .ok (.slice (some ⟨g, o + i * 2, none⟩) (n - i) (c - i)) W := by
  rw [run_slice_l W _ _ _ _ undPt .i64 _ (by omega) (by omega), sizePt]
  have h : ¬ c = i := by omega
  simp [Result.andThen, sliced, h, Addr.add]
theorem hi_run (g o n c i : Nat) (hi : i ≤ n) (hn : n ≤ c) (W : World) : (Instr.slice 52 (.slice (some ⟨g, o, none⟩) n c) none (some (.int .i64 (i : Int))) none).run Tryd.prog W = .ok (.slice (some ⟨g, o, none⟩) i c) W := by
  rw [run_slice_h W _ _ _ _ undPt .i64 _ (by omega) (by omega), sizePt]
  by_cases h : c = 0
  · simp [Result.andThen, sliced, h]
  · simp [Result.andThen, sliced, h, Addr.add]

def metCs (out : List Int) : Array Value := ((List.range 6).map fun (n : Nat) => Value.bool (decide ((n : Int) ∈ out))).toArray
theorem metCs_nil : metCs [] = #[.bool false, .bool false, .bool false, .bool false, .bool false, .bool false] := by simp [metCs, List.range, List.range.loop]
theorem metCs_get (out : List Int) (m : Nat) (hm : m < 6) : (metCs out)[m]? = some (.bool (decide ((m : Int) ∈ out))) := by
  simp [metCs, hm]
theorem metCs_set (out : List Int) (m : Nat) (hm : m < 6) : (metCs out).setIfInBounds m (.bool true) = metCs (out ++ [(m : Int)]) := by
  apply Array.ext_getElem?
  intro j
  rw [Array.getElem?_setIfInBounds]
  by_cases hj : m = j
  · subst hj
    rw [if_pos rfl, metCs_get _ m hm]
    simp [metCs, hm]
  · rw [if_neg hj]
    rcases Nat.lt_or_ge j 6 with h | h
    · rw [metCs_get _ j h, metCs_get _ j h]
      have : ¬ (j : Int) = (m : Int) := by omega
      simp [this]
    · rw [Array.getElem?_eq_none (by simp [metCs]; omega), Array.getElem?_eq_none (by simp [metCs]; omega)]
set_option maxHeartbeats 2000000 in
theorem Replicas_any (g gl ol cl : Nat) (L : List Pt) (c : Nat) (i : Int) (w : World) (hr : RingAt eP w g gl ol cl L (c : Int)) (hc : 0 < c) (hc5 : c ≤ 5) (hl : L.length ≤ 1000) (hnod : ∀ p ∈ L, 1 ≤ p.2 ∧ p.2 ≤ 5) :
    Calls Tryd.prog 29 #[.pointer (some ⟨g, 0, none⟩), .int .i64 i] w fun e w' => ∃ v, e = .returned v ∧ OwnX eI w' w.heap.size v (repOf L c i) ∧ Below w.heap.size w w' := by
  have hd : decide (0 < (c : Int)) = true := by simpa using hc
  have M := made_any g c w hr.c1
  rw [hd] at M
  have M' := Lib.hid M
  clear M hd
  have HRR := Lib.hid hr
  by_cases hin : i < 0 ∨ (L.length : Int) ≤ i
  · have e : repOf L c i = [] := by unfold repOf; rw [if_pos hin]
    rw [e]
    obtain ⟨c0, c1, _⟩ := hr
    rcases hin with hin | hin
    · go_enter Tryd.func29, Tryd.ntmps29
      go_wp2_with fail
      refine M'.out.mono ?_
      rintro e w1 ⟨rfl, rfl⟩
      go_wp2_with fail
      go_ret
      exact ⟨_, rfl, OwnX.nil _ _, Below.refl _ _⟩
    · have hin2 : ¬ i < 0 := by omega
      go_enter Tryd.func29, Tryd.ntmps29
      go_wp2_with fail
      refine M'.out.mono ?_
      rintro e w1 ⟨rfl, rfl⟩
      go_wp2_with fail
      go_ret
      exact ⟨_, rfl, OwnX.nil _ _, Below.refl _ _⟩
  · obtain ⟨k, rfl⟩ : ∃ k : Nat, i = k := ⟨i.toNat, by omega⟩
    have hk : k < L.length := by omega
    have h1 : ¬ (k : Int) < 0 := by omega
    have h2 : ¬ (L.length : Int) ≤ (k : Int) := by omega
    have e : repOf L c k = repL c [] ((L.drop k ++ L.take k).map (·.2)) := by unfold repOf; rw [if_neg hin]; rfl
    have hlen : (L.drop k ++ L.take k).length = L.length := by simp only [List.length_append, List.length_drop, List.length_take]; omega
    have hnod2 : ∀ p ∈ L.drop k ++ L.take k, 1 ≤ p.2 ∧ p.2 ≤ 5 := fun p hp => by
      rcases List.mem_append.1 hp with hp | hp
      · exact hnod p (List.mem_of_mem_drop hp)
      · exact hnod p (List.mem_of_mem_take hp)
    rw [e]
    clear hin e
    have HB1 := Lib.hid (below_alloc (Below.refl _ w) (.cells (metCs []) 93))
    have R1 := hr.keep HB1.out
    have bm := Blk.new w 93 (metCs [])
    rw [metCs_nil] at HB1 R1 bm
    have BM := Lib.hid bm
    obtain ⟨c0, c1, _⟩ := hr
    obtain ⟨_, _, _, hcl, _⟩ := R1.s.ex
    go_enter Tryd.func29, Tryd.ntmps29
    go_wp2_with fail
    refine M'.out.mono ?_
    rintro e w1 ⟨rfl, rfl⟩
    go_wp2_with fail
    generalize w.alloc (.cells #[.bool false, .bool false, .bool false, .bool false, .bool false, .bool false] 93) = W1 at *
    have hcat : ∀ W gv, InW W1 W → W.cell? ⟨gv, 0, none⟩ = some (.slice (some ⟨gl, ol + k * 2, none⟩) (L.length - k) (cl - k)) → W.cell? ⟨gv, 1, none⟩ = some (.slice (some ⟨gl, ol, none⟩) k cl) →
        Calls Tryd.prog 56 #[.slice (some ⟨gv, 0, none⟩) 2 2] W fun e w' => ∃ gx cx, e = .returned (.slice (some ⟨gx, 0, none⟩) L.length cx) ∧ OwnX eP w' W.heap.size (.slice (some ⟨gx, 0, none⟩) L.length cx) (L.drop k ++ L.take k) ∧ Below W.heap.size W w' := by
      intro W gv hW h0 h1
      have hs := (R1.s.keep hW)
      have d1 := hs.drop k (by omega)
      have d2 := hs.take k (by omega)
      have l1 : (L.drop k).length = L.length - k := List.length_drop
      have l2 : (L.take k).length = k := by rw [List.length_take]; omega
      refine (concatPt_any gv gl (ol + k * 2) (cl - k) gl ol cl (L.drop k) (L.take k) W (by rw [l1]; exact h0) (by rw [l2]; exact h1) (by rw [l1]; exact d1) (by rw [l2]; exact d2) (by omega) (by omega)).mono ?_
      rintro e w' ⟨v, rfl, hO, hB⟩
      obtain ⟨gx, cx, rfl, _⟩ := OwnX.formN hO L.length hlen (by omega)
      exact ⟨gx, cx, rfl, hO, hB⟩
    have HCAT := Lib.hid hcat
    have hlo := lo_run gl ol L.length cl k hk hcl
    have hhi := hi_run gl ol L.length cl k (by omega) hcl
    have C0 := Lib.hid R1.c0; have C1 := Lib.hid R1.c1
    have x0 := R1.c0
    clear hcat c0 c1 R1
    generalize hLc : L.drop k ++ L.take k = Lc at *
    have HS : ∀ w', Below W1.heap.size W1 w' → (InW W1 w' ∧ w'.cell? ⟨g, 0, none⟩ = some (.slice (some ⟨gl, ol, none⟩) L.length cl)) := fun w' h => ⟨h, cell_keep h x0⟩
    have HS' := Lib.hid HS; clear HS
    go_region_held3 (fun w' => InW W1 w' ∧ w'.cell? ⟨g, 0, none⟩ = some (.slice (some ⟨gl, ol, none⟩) L.length cl))
      (first | assumption | exact HS'.out _ (by repeat (first | exact Below.refl _ _ | exact (show Below W1.heap.size W1 _ from And.left (by assumption)) | exact below_tr (show Below W1.heap.size W1 _ from And.left (by assumption)) (by assumption) | refine Below.drew ?_ | refine below_alloc ?_ _)))
      (first | (go_at_call 56; refine (HCAT.out _ _ (‹InW W1 _ ∧ _›).1 (by go_simp) (by go_simp)).mono ?_; rintro e w' ⟨gx, cx, rfl, HO, hb⟩))
    have hH := (show Below W1.heap.size W1 w' from And.left ‹InW W1 w' ∧ _›)
    have B2 := Lib.hid (below_tr HB1.out hH)
    have BM2 := Lib.hid (BM.out.below hH)
    have CC := Lib.hid (cell_keep hH C1.out)
    have SL := Lib.hid HO.sl
    have HLC := Lib.hid hLc
    have hgx0 := World.ownsRow.lt HO gx rfl
    have hszz : W1.heap.size ≤ (W1.alloc (.cells #[.slice (some ⟨gl, ol + k * 2, none⟩) (L.length - k) (cl - k), .slice (some ⟨gl, ol, none⟩) k cl] 52)).drew.heap.size := by show _ ≤ (W1.heap.push _).size; simp
    have hgx : gx < w'.heap.size ∧ ¬ gx = w.heap.size := ⟨hgx0.2, by have := BM.out.lt; omega⟩
    have hgg : ¬ g = w.heap.size := by have := World.block_lt_of_cell? w _ HRR.out.c1; simp only at this; omega
    clear hgx0 hszz
    clear hH HO hb HS' HCAT hlo hhi C0 C1 x0 HB1 BM hLc
    generalize w' = W2 at *
    have hgm := Lib.hid BM2.out.lt
    have hR : ∃ R, R = repL c [] (Lc.map (·.2)) := ⟨_, rfl⟩
    obtain ⟨R, hR⟩ := hR
    have HRE := Lib.hid hR
    have HND := Lib.hid hnod2
    clear hR hnod2
    go_wp2_with fail
    go_loopw [6, 8, 40] (fun v _ i wr => ∃ (j : Nat) (out : List Int), j ≤ L.length ∧ i = .int .i64 (j : Int) ∧ OwnX eI wr W2.heap.size v out ∧ But (fun q => q = w.heap.size) W2 wr ∧ Blk wr w.heap.size 93 (metCs out) ∧ out.length ≤ c ∧ repL c out ((Lc.drop j).map (·.2)) = R) (fun _ _ i _ => L.length - (intOf i).toNat)
    case atStart => exact ⟨0, [], by omega, rfl, OwnX.nil _ _, But.refl _ _, by rw [metCs_nil]; exact BM2.out, by simp, by rw [List.drop_zero]; exact HRE.out.symm⟩
    case round =>
      obtain ⟨j, out, hj, rfl, hO, hBut, hBlk, hol, hrep⟩ := hrel
      obtain ⟨av, cv, hu6, _, _⟩ := hO.sl.ex
      subst hu6
      have HOx := Lib.hid hO; have HBu := Lib.hid hBut; have HBk := Lib.hid hBlk; have HRP := Lib.hid hrep
      have hgmx : ∀ q, W2.heap.size ≤ q → ¬ q = w.heap.size := fun q h e => by have := hgm.out; omega
      have HNE := Lib.hid hgmx
      clear hO hBut hrep hgmx
      by_cases hjl : j < L.length
      · have hjc : j < Lc.length := by omega
        obtain ⟨cx0, cx1⟩ := eP_cell SL.out j hjc
        have e0 := HBu.out.cell cx0 hgx.2
        have e1 := HBu.out.cell cx1 hgx.2
        rw [Nat.zero_add] at e0 e1
        have hcn := HBu.out.cell CC.out hgg
        obtain ⟨n1, n5⟩ := HND.out Lc[j] (List.getElem_mem hjc)
        rw [List.drop_eq_getElem_cons hjc, List.map_cons] at HRP
        have HRP' := HRP.out
        simp only [repL] at HRP'
        obtain ⟨m, hm⟩ : ∃ m : Nat, Lc[j].2 = (m : Int) := ⟨Lc[j].2.toNat, by omega⟩
        rw [hm] at e1 n1 n5 HRP'
        have hm6 : (m : Int) < 6 := by omega
        have hm0 : (0 : Int) ≤ (m : Int) := by omega
        have hjz : (j : Int) < (L.length : Int) := by omega
        generalize Lc[j].1 = tk at *
        have HRP2 := Lib.hid HRP'
        have hWp := HBk.out.alloc (.cells #[.int .i64 tk, .int .i64 (m : Int)] 63)
        have cm := hWp.cell m (metCs_get out m (by omega))
        have fm := hWp.frozen m
        have OWp := HOx.out.alloc (.cells #[.int .i64 tk, .int .i64 (m : Int)] 63)
        have BWp := HBu.out.alloc (.cells #[.int .i64 tk, .int .i64 (m : Int)] 63)
        have hcn2 := cell_keep (below_alloc (Below.refl _ wr) (.cells #[.int .i64 tk, .int .i64 (m : Int)] 63)) hcn
        have HWp := Lib.hid hWp; have HOWp := Lib.hid OWp; have HBWp := Lib.hid BWp
        clear HRP HRP' hm HRE hWp OWp BWp
        obtain ⟨b, hb⟩ : ∃ b, b = decide ((m : Int) ∈ out) := ⟨_, rfl⟩
        rw [← hb] at cm
        have Hb := Lib.hid hb; clear hb
        have skip : (¬ ((m : Int) ∉ out ∧ out.length < c)) → repL c out ((Lc.drop (j + 1)).map (·.2)) = R := fun h => by
          have := HRP2.out
          rwa [if_neg h] at this
        have SKIP := Lib.hid skip; clear skip
        cases b
        · have hnin : (m : Int) ∉ out := by have := Hb.out; simpa using this.symm
          by_cases hlt : out.length < c
          · have go_ : repL c (out ++ [(m : Int)]) ((Lc.drop (j + 1)).map (·.2)) = R := by
              have := HRP2.out
              rwa [if_pos ⟨hnin, hlt⟩] at this
            have GO := Lib.hid go_; clear go_
            have hltz : (out.length : Int) < (c : Int) := by omega
            have NIN := Lib.hid hnin; clear hnin
            have hBs : But (fun q => q = w.heap.size) (wr.alloc (.cells #[.int .i64 tk, .int .i64 (m : Int)] 63)) ((wr.alloc (.cells #[.int .i64 tk, .int .i64 (m : Int)] 63)).setCell ⟨w.heap.size, m, none⟩ (.bool true)) := But.setCell (S := fun q => q = w.heap.size) (But.refl _ _) (p := ⟨w.heap.size, m, none⟩) rfl _
            have OL := Lib.hid ((HOWp.out.but hBs HNE.out).alloc (.cells #[.int .i64 (m : Int)] 3))
            have BL := HWp.out.put m (.bool true)
            rw [metCs_set out m (by omega)] at BL
            have BL2 := Lib.hid (BL.alloc (.cells #[.int .i64 (m : Int)] 3))
            have BW2 := Lib.hid ((HBWp.out.trans hBs).alloc (.cells #[.int .i64 (m : Int)] 3))
            clear hBs BL
            have hpn := ((Blk.new wr 63 #[.int .i64 tk, .int .i64 (m : Int)]).far (p := ⟨w.heap.size, m, none⟩) (by have := hgm.out; have := HBu.out.size; simp only; omega) (.bool true)).cell 1 (v := .int .i64 (m : Int)) rfl
            have hsl := SlX.lit (E := eI) ((wr.alloc (.cells #[.int .i64 tk, .int .i64 (m : Int)] 63)).setCell ⟨w.heap.size, m, none⟩ (.bool true)) #[.int .i64 (m : Int)] [(m : Int)] 1 1 rfl (by simp) (by simp [eI_cells])
            rw [show ((wr.alloc (.cells #[.int .i64 tk, .int .i64 (m : Int)] 63)).setCell ⟨w.heap.size, m, none⟩ (.bool true)).heap.size = wr.heap.size + 1 by simp [World.setCell]] at hsl
            have HSL := Lib.hid hsl; clear hsl
            have hlx : out.length + [(m : Int)].length ≤ 9223372036854775807 := by simp; omega
            have hly : (out.length + [(m : Int)].length) * eI.bytes ≤ 140737488355328 := by show (_ + _) * 8 ≤ _; simp; omega
            go_wp2_with (at_builtin; go_must (refine ap_x (E := eI) (w0 := ((wr.alloc (.cells #[.int .i64 tk, .int .i64 (m : Int)] 63)).setCell ⟨w.heap.size, m, none⟩ (.bool true)).alloc (.cells #[.int .i64 (m : Int)] 3)) rfl (.tmp 61) (.tmp 64) rfl W2.heap.size (.slice av out.length cv) out _ _ [(m : Int)] rfl rfl HSL.out OL.out (Below.refl _ _) BW2.out.size hlx hly ?_); intro v6 w6 hO6 hB6 hz6 hg6)
            go_roundw
            case rel => exact ⟨j + 1, out ++ [(m : Int)], by omega, by first | rfl | go_num, hO6, BW2.out.grownNew hg6 (fun q hq => .inr (OwnX.base OL.out q hq)), BL2.out.grown hg6 (fun e => by have := OwnX.base OL.out _ e.symm; have := hgm.out; omega), by simp; omega, GO.out⟩
            case measure => simp [intOf]; omega
          · have hltz : ¬ (out.length : Int) < (c : Int) := by omega
            have GO := Lib.hid (SKIP.out (fun h => hlt h.2))
            go_wp2_with fail
            go_roundw
            case rel => exact ⟨j + 1, out, by omega, by first | rfl | go_num, HOWp.out, HBWp.out, HWp.out, hol, GO.out⟩
            case measure => simp [intOf]; omega
        · have hinn : (m : Int) ∈ out := by have := Hb.out; simpa using this.symm
          have GO := Lib.hid (SKIP.out (fun h => h.1 hinn))
          go_wp2_with fail
          go_roundw
          case rel => exact ⟨j + 1, out, by omega, by first | rfl | go_num, HOWp.out, HBWp.out, HWp.out, hol, GO.out⟩
          case measure => simp [intOf]; omega
      · have hjz : ¬ (j : Int) < (L.length : Int) := by omega
        have hfin : out = R := by
          have := HRP.out
          rwa [List.drop_of_length_le (by omega)] at this
        have HF := Lib.hid hfin
        clear hfin
        go_wp2_with fail
        go_ret
        refine ⟨_, rfl, ?_, B2.out.trans (HBu.out.below B2.out.size (fun q e => by omega))⟩
        have e9 : List.drop k (L.map (fun x => x.2)) ++ List.take k (L.map (fun x => x.2)) = Lc.map (fun x => x.2) := by rw [← HLC.out]; simp
        first | rw [HLC.out, ← HRE.out, ← HF.out] | rw [e9, ← HRE.out, ← HF.out]
        exact HOx.out.weaken B2.out.size
end Go.Proofs.YtmjeifbadjdnfaaDoor
