/- Contract of the reference's Read of layer 13. Condition: at most a hundred thousand bytes. -/
import Derived.Test.YtkmcjainbhmbdaaDoorNf
import Derived.RegionTactic
set_option linter.unusedVariables false
set_option linter.unusedSimpArgs false
set_option maxRecDepth 50000
namespace Go.Proofs.YtkmcjainbhmbdaaDoor
open Go.RowKit

/-- its memory in its loop -/
structure RQ (w : World) (B : Nat) (W : World) (c : List UInt8) (vc vl : Value) (xs : List Int) : Prop where
  below : Below w.heap.size w W
  res : Blk W w.heap.size 32 #[.slice none 0 0, .int .i64 0, .int .i64 0]
  sl : SlB B W vc c
  own : OwnX eI W B vl xs
  hB : w.heap.size < B ∧ B ≤ W.heap.size
/-- a number more, told by the document's way -/
theorem decs_split {R : (List Int × Int × Int) × Int} {c : List UInt8} {acc : List Int} (hc : c ≠ []) (h : R = (match (decs c).map (acc ++ ·) with | none => badM | some l => endR l)) :
    (∃ u k, getL 0 0 c = some (u, k) ∧ 0 < k ∧ k ≤ c.length ∧ u < 18446744073709551616 ∧ (999999999 < (u : Int) → R = badM) ∧ ((u : Int) ≤ 999999999 → R = (match (decs (c.drop k)).map ((acc ++ [(u : Int)]) ++ ·) with | none => badM | some l => endR l))) ∨ (getL 0 0 c = none ∧ R = badM) := by
  rcases hg : getL 0 0 c with _ | ⟨u, k⟩
  · rw [decs_none hc hg] at h
    exact .inr ⟨rfl, h⟩
  · have := getL0_pos hg
    rw [decs_some hg] at h
    refine .inl ⟨u, k, rfl, this.1, this.2.1, this.2.2, fun hu => ?_, fun hu => ?_⟩
    · rw [if_pos hu] at h; exact h
    · rw [if_neg (by omega), Option.map_map] at h
      rw [h]
      have e : ((acc ++ ·) ∘ ((u : Int) :: ·)) = (fun l : List Int => (acc ++ [(u : Int)]) ++ l) := by funext l; simp
      rw [e]

theorem SlI.cut {w : World} {v : Value} {l : List Int} (h : SlI w v l) (k : Nat) (hk : k ≤ l.length) : SlI w (cutV v k) (l.drop k) := by
  obtain ⟨a, c, rfl, hc, hx⟩ := h.ex
  refine ⟨if c = k then a else a.map (·.add k), c - k, by rw [List.length_drop]; rfl, by rw [List.length_drop]; omega, fun h0 => ?_⟩
  rw [List.length_drop] at h0
  obtain ⟨g, o, rfl, hcell⟩ := hx (by omega)
  refine ⟨g, o + k, ?_, fun j hj => ?_⟩
  · rw [if_neg (by omega)]
    simp only [Option.map_some, Addr.add]
    split <;> simp_all
  · rw [List.length_drop] at hj
    rw [Nat.add_assoc, hcell (k + j) (by omega)]
    simp [List.getElem_drop]
theorem SlI.cut_run {a : Option Addr} {n c k : Nat} (hk : k ≤ n) (hn : n ≤ c) (W : World) :
    (Instr.slice 22 (.slice a n c) (some (.int .i64 (k : Int))) none none).run Tryd.prog W = .ok (cutV (.slice a n c) k) W := by
  rw [run_slice_l W _ _ _ _ undInt .i64 _ (by omega) (by omega), sizeInt]
  simp [Result.andThen, sliced, cutV]
def lenOf : Value → Nat
  | .slice _ n _ => n
  | _ => 0
def SmallL (l : List Int) : Prop := ∀ x ∈ l, 0 ≤ x ∧ x ≤ 999999999
theorem SmallL.snoc {l : List Int} (h : SmallL l) {x : Int} (h0 : 0 ≤ x) (h1 : x ≤ 999999999) : SmallL (l ++ [x]) := by
  intro y hy
  rcases List.mem_append.1 hy with hy | hy
  · exact h y hy
  · simp at hy; subst hy; exact ⟨h0, h1⟩
/-- What the round says. -/
def RQH (l : List UInt8) (c : List UInt8) (acc : List Int) : Prop := readM l = (match (decs c).map (acc ++ ·) with | none => badM | some l => endR l) ∧ SmallL acc ∧ acc.length + c.length ≤ 100000
theorem RQH.len {l c : List UInt8} {acc : List Int} (h : RQH l c acc) : acc.length + c.length ≤ 100000 := h.2.2

set_option maxHeartbeats 4000000 in
theorem rmRead_any (v : Value) (l : List UInt8) (w : World) (hv : SlB w.heap.size w v l) (hl : l.length ≤ 100000) :
    Calls Tryd.prog 19 #[v] w (MReadPost w (readM l)) := by
  have HV := Lib.hid hv
  obtain ⟨a, cp, rfl, hcp, hx⟩ := hv.ex
  clear hv hx
  have hb0 := Lib.hid (below_alloc (Below.refl _ w) (.cells #[.slice none 0 0, .int .i64 0, .int .i64 0] 32))
  have r0 := Lib.hid (Blk.new w 32 #[.slice none 0 0, .int .i64 0, .int .i64 0])
  have hdef := readM_eq l
  have hcl : (unframeL l).1.length ≤ l.length := by
    unfold unframeL
    repeat' split
    all_goals first | (simp; done) | (simp only [List.length_take, List.length_drop]; omega)
  unfold refReadM at hdef
  have U := Lib.hid (fun W (h : Below w.heap.size w W) => rUnframe_any (.slice a l.length cp) l W (HV.out.keep h) (by omega))
  generalize unframeL l = uf at *
  obtain ⟨c, n, e⟩ := uf
  simp only at hdef hcl
  have HDEF := Lib.hid hdef; clear hdef
  by_cases hbad : e ≠ 0 ∨ n ≠ l.length
  · have HE := Lib.hid (HDEF.out.trans (if_pos hbad))
    rcases (show ((e != 0) = true) ∨ ((e != 0) = false ∧ ((n : Int) != (l.length : Int)) = true) from by
      by_cases h : e = 0
      · right
        refine ⟨by simp [h], ?_⟩
        rcases hbad with hb | hb
        · exact absurd h hb
        · rw [bne_iff_ne]; omega
      · left; rw [bne_iff_ne]; exact h) with q1 | ⟨q1, q2⟩
    all_goals (
      clear hbad HDEF
      go_enter Tryd.func19, Tryd.ntmps19
      go_wp2_with fail
      generalize hW : w.alloc (.cells #[.slice none 0 0, .int .i64 0, .int .i64 0] 32) = W0 at *
      clear hW
      refine (U.out _ hb0.out).mono ?_
      rintro e1 w1 ⟨v1, rfl, hO1, hb1⟩
      have HB1 := Lib.hid (below_tr hb0.out hb1)
      have HR1 := r0.out.below hb1
      have r0 := HR1.cell 0 rfl; have r1 := HR1.cell 1 rfl; have r2 := HR1.cell 2 rfl
      have f0 := HR1.frozen 0; have f1 := HR1.frozen 1; have f2 := HR1.frozen 2
      clear hO1 hb1 HR1
      go_wp2_with fail
      refine bodyPost_ret (v := .tuple #[.agg #[.slice none 0 0, .int .i64 0, .int .i64 0], .int .i64 8]) (by simp [results, Tryd.results19, go_sem, r0, r1, r2]) rfl ?_
      exact MReadPost.bad HE.out (below_put3 HB1.out))
  · have q1 : (e != 0) = false := by
      by_cases h : e = 0
      · simp [h]
      · exact absurd (.inl h) hbad
    have q2 : ((n : Int) != (l.length : Int)) = false := by
      by_cases h : n = l.length
      · rw [h]; simp
      · exact absurd (.inr h) hbad
    have HD := Lib.hid (show readM l = (match (decs c).map (([] : List Int) ++ ·) with | none => badM | some l => endR l) by
      rw [HDEF.out, if_neg hbad]
      have : (fun l : List Int => ([] : List Int) ++ l) = id := by funext l; simp
      rw [this, Option.map_id]; rfl)
    clear hbad HDEF
    go_enter Tryd.func19, Tryd.ntmps19
    go_wp2_with fail
    generalize hW : w.alloc (.cells #[.slice none 0 0, .int .i64 0, .int .i64 0] 32) = W0 at *
    clear hW
    refine (U.out _ hb0.out).mono ?_
    rintro e1 w1 ⟨v1, rfl, hO1, hb1⟩
    have RQ1 := Lib.hid (RQ.mk (below_tr hb0.out hb1) (r0.out.below hb1) hO1.slB (OwnX.nil _ _) ⟨(r0.out.below hb1).lt, Nat.le_refl _⟩)
    obtain ⟨a1, c1, rfl, _, _⟩ := hO1.slB.ex
    clear hO1 hb1 hb0 r0 U HV
    go_wp2_with fail
    have HQ := Lib.hid (show RQH l c [] from ⟨HD.out, fun x hx => by simp at hx, by simp; omega⟩)
    clear HD q1 q2
    go_loopw [4, 7, 8, 9] (fun u4 u7 _ _ wr => ∃ (c' : List UInt8) (a' : Option Addr) (cc' : Nat) (acc : List Int), u4 = .slice a' c'.length cc' ∧ RQ w w1.heap.size wr c' u4 u7 acc ∧ RQH l c' acc) (fun u4 _ _ _ _ => lenOf u4)
    case atStart => exact ⟨c, a1, c1, [], rfl, RQ1.out, HQ.out⟩
    case round =>
      clear RQ1 HQ
      obtain ⟨c', a', cc', acc, rfl, hq, hh⟩ := hrel
      have HRQ := Lib.hid hq; have HH := Lib.hid hh
      have hlen := hh.len
      clear hq hh
      by_cases hce : 0 < c'.length
      · rcases decs_split (List.length_pos_iff.1 hce) HH.out.1 with ⟨u, k, hg, hk0, hkl, hu, hbig, hsm⟩ | ⟨hg, hbad⟩
        · have G := Lib.hid (rGet_any _ c' w1.heap.size wr HRQ.out.sl (by omega))
          rw [hg] at G
          by_cases hub : 999999999 < (u : Int)
          · have HE := Lib.hid (hbig hub)
            have r0 := HRQ.out.res.cell 0 rfl; have r1 := HRQ.out.res.cell 1 rfl; have r2 := HRQ.out.res.cell 2 rfl
            have f0 := HRQ.out.res.frozen 0; have f1 := HRQ.out.res.frozen 1; have f2 := HRQ.out.res.frozen 2
            have kz : ((k : Int) == 0) = false := by rw [beq_eq_false_iff_ne]; omega
            clear hbig hsm hg
            go_wp2_with fail
            refine G.out.mono ?_
            rintro e2 w2 ⟨he, rfl⟩
            rw [show getV (some (u, k)) = .returned (.tuple #[.int .u64 (u : Int), .int .i64 (k : Int)]) from rfl] at he
            subst he
            go_wp2_with fail
            refine bodyPost_ret (v := .tuple #[.agg #[.slice none 0 0, .int .i64 0, .int .i64 0], .int .i64 8]) (by simp [results, Tryd.results19, go_sem, r0, r1, r2]) rfl ?_
            exact MReadPost.bad HE.out (below_put3 HRQ.out.below)
          · have hun : (u : Int) ≤ 999999999 := by omega
            have HN := Lib.hid (show RQH l (c'.drop k) (acc ++ [(u : Int)]) from ⟨hsm hun, HH.out.2.1.snoc (by omega) hun, by rw [List.length_append, List.length_drop]; simp; omega⟩)
            have kz : ((k : Int) == 0) = false := by rw [beq_eq_false_iff_ne]; omega
            have cr := HRQ.out.sl.cut_run k hkl
            obtain ⟨a2, n2, c2, hv2⟩ : ∃ a2 n2 c2, cutV (.slice a' c'.length cc') k = .slice a2 n2 c2 := ⟨_, _, _, rfl⟩
            have hn2 : n2 = (c'.drop k).length := by
              have := congrArg lenOf hv2
              simp only [cutV, lenOf] at this
              rw [List.length_drop]; omega
            have cut := HRQ.out.sl.cut k hkl
            rw [hv2] at cut cr
            subst hn2
            have CUT := Lib.hid cut
            have hdl : (c'.drop k).length < c'.length := by rw [List.length_drop]; omega
            have hlx : acc.length + [(u : Int)].length ≤ 9223372036854775807 := by simp; omega
            have hly : (acc.length + [(u : Int)].length) * 8 ≤ 140737488355328 := by simp; omega
            have HBA := Lib.hid (below_alloc HRQ.out.below (.cells #[.int .i64 (u : Int)] 3))
            have HOA := Lib.hid (HRQ.out.own.alloc (.cells #[.int .i64 (u : Int)] 3))
            have HZA := Lib.hid (show w1.heap.size ≤ (wr.alloc (.cells #[.int .i64 (u : Int)] 3)).heap.size by have := HRQ.out.hB; simp; omega)
            have HBR := Lib.hid (show Below w1.heap.size wr (wr.alloc (.cells #[.int .i64 (u : Int)] 3)) from (Below.refl _ wr).alloc HRQ.out.hB.2 _)
            clear hbig hsm hg cut hv2
            go_wp2_with fail
            refine G.out.mono ?_
            rintro e2 w2 ⟨he, rfl⟩
            rw [show getV (some (u, k)) = .returned (.tuple #[.int .u64 (u : Int), .int .i64 (k : Int)]) from rfl] at he
            subst he
            go_wp2_with (at_builtin; go_must (refine ap_x (E := eI) rfl (.tmp 41) (.tmp 44) rfl w1.heap.size u7 acc _ _ [(u : Int)] rfl rfl (SlX.lit (E := eI) wr #[.int .i64 (u : Int)] [(u : Int)] 1 1 rfl (by simp) (by simp [eI_cells])) HOA.out HBR.out HZA.out hlx hly ?_); intro v6 w6 hO6 hB6 hz6 hg6)
            have HF := Lib.hid (show RQ w w1.heap.size w6 (c'.drop k) (.slice a2 (c'.length - k) c2) v6 (acc ++ [(u : Int)]) from by
              have hbw : Below w1.heap.size wr w6 := hB6
              have := CUT.out.below hbw
              rw [List.length_drop] at this
              exact ⟨HRQ.out.below.trans (hbw.mono (by have := HRQ.out.hB; omega)), HRQ.out.res.under hbw HRQ.out.hB.1, this, hO6, HRQ.out.hB.1, hz6⟩)
            clear hO6 hB6 hz6 hg6
            go_roundw
            case rel => exact ⟨c'.drop k, a2, c2, acc ++ [(u : Int)], by rw [List.length_drop], HF.out, HN.out⟩
            case measure => simp only [lenOf]; omega
        · have HE := Lib.hid hbad
          have G := Lib.hid (rGet_any _ c' w1.heap.size wr HRQ.out.sl (by omega))
          rw [hg] at G
          have r0 := HRQ.out.res.cell 0 rfl; have r1 := HRQ.out.res.cell 1 rfl; have r2 := HRQ.out.res.cell 2 rfl
          have f0 := HRQ.out.res.frozen 0; have f1 := HRQ.out.res.frozen 1; have f2 := HRQ.out.res.frozen 2
          clear hg hbad
          go_wp2_with fail
          refine G.out.mono ?_
          rintro e2 w2 ⟨he, rfl⟩
          rw [show getV none = .returned (.tuple #[.int .u64 0, .int .i64 0]) from rfl] at he
          subst he
          go_wp2_with fail
          refine bodyPost_ret (v := .tuple #[.agg #[.slice none 0 0, .int .i64 0, .int .i64 0], .int .i64 8]) (by simp [results, Tryd.results19, go_sem, r0, r1, r2]) rfl ?_
          exact MReadPost.bad HE.out (below_put3 HRQ.out.below)
      · have hcn : c' = [] := List.eq_nil_of_length_eq_zero (by omega)
        have HE := Lib.hid (show readM l = endR acc by rw [HH.out.1, hcn]; simp [decs_nil])
        have HSM := Lib.hid HH.out.2.1
        have HCN := Lib.hid hcn
        clear hcn
        obtain ⟨al, cl, rfl, hcl, hxl⟩ := HRQ.out.own.sl.ints.ex
        have HXL := Lib.hid hxl
        have r0 := HRQ.out.res.cell 0 rfl; have r1 := HRQ.out.res.cell 1 rfl; have r2 := HRQ.out.res.cell 2 rfl
        have f0 := HRQ.out.res.frozen 0; have f1 := HRQ.out.res.frozen 1; have f2 := HRQ.out.res.frozen 2
        clear hxl
        by_cases h3 : acc.length < 3
        · have HF := Lib.hid (HE.out.trans (endR_short h3))
          go_wp2_with fail
          refine bodyPost_ret (v := .tuple #[.agg #[.slice none 0 0, .int .i64 0, .int .i64 0], .int .i64 8]) (by simp [results, Tryd.results19, go_sem, r0, r1, r2]) rfl ?_
          exact MReadPost.bad HF.out (below_put3 HRQ.out.below)
        · obtain ⟨nx, fr, kk, ts, rfl⟩ : ∃ nx fr kk ts, acc = nx :: fr :: kk :: ts := by
            match acc, h3 with
            | x :: y :: z :: ts, _ => exact ⟨x, y, z, ts, rfl⟩
            | [], h => exact absurd (by simp) h
            | [_], h => exact absurd (by simp) h
            | [_, _], h => exact absurd (by simp) h
          obtain ⟨g, o, rfl, hcell⟩ := HXL.out (by simp)
          have d0 : wr.cell? ⟨g, o, none⟩ = some (.int .i64 nx) := hcell 0 (by simp)
          have d1 : wr.cell? ⟨g, o + 1, none⟩ = some (.int .i64 fr) := hcell 1 (by simp)
          have d2 : wr.cell? ⟨g, o + 2, none⟩ = some (.int .i64 kk) := hcell 2 (by simp)
          have hkk := HSM.out kk (by simp)
          have hnx := HSM.out nx (by simp)
          have hfr := HSM.out fr (by simp)
          have hSI := HRQ.out.own.sl.ints
          have hlt3 : (nx :: fr :: kk :: ts).length = ts.length + 3 := by simp
          rw [hlt3] at hcl hSI hlen ⊢
          clear hcell HXL h3
          by_cases hk : (ts.length : Int) = kk
          · subst hk
            have q : ((ts.length : Int) + 3 != 3 + (ts.length : Int)) = false := by rw [Int.add_comm]; exact bne_self_eq_false _
            have cr : ∀ W, (Instr.slice 22 (.slice (some ⟨g, o, none⟩) (ts.length + 3) cl) (some (.int .i64 3)) none none).run Tryd.prog W = .ok (cutV (.slice (some ⟨g, o, none⟩) (ts.length + 3) cl) 3) W := fun W => SlI.cut_run (k := 3) (by omega) hcl W
            have hcut := hSI.cut 3 (by simp)
            obtain ⟨a3, n3, c3, hv3⟩ : ∃ a3 n3 c3, cutV (.slice (some ⟨g, o, none⟩) (ts.length + 3) cl) 3 = .slice a3 n3 c3 := ⟨_, _, _, rfl⟩
            have hn3 : n3 = ts.length := by
              have := congrArg lenOf hv3
              simp only [cutV, lenOf] at this
              omega
            subst hn3
            rw [hv3] at hcut
            simp only [hv3] at cr
            have HCUT := Lib.hid (show SlI wr (.slice a3 ts.length c3) ts from hcut)
            have l0 : (0 : Int) < (ts.length : Int) + 3 := by omega
            have l1 : (1 : Int) < (ts.length : Int) + 3 := by omega
            have l2 : (2 : Int) < (ts.length : Int) + 3 := by omega
            have G := Lib.hid (fun W (h : Below wr.heap.size wr W) => rGood_any (.slice a3 ts.length c3) ts nx fr W (HCUT.out.below h) (by omega))
            have e0 := cell_keep (below_alloc (Below.refl _ wr) (.cells #[.slice none 0 0, .int .i64 0, .int .i64 0] 32)) d0
            have e1 := cell_keep (below_alloc (Below.refl _ wr) (.cells #[.slice none 0 0, .int .i64 0, .int .i64 0] 32)) d1
            have HV3 := Lib.hid hv3
            clear hcut hv3 hSI
            go_wp2_with fail
            go_region
            have hbN := (below_alloc (Below.refl _ wr) (.cells #[.slice a3 ts.length c3, .int .i64 nx, .int .i64 fr] 32)).drew
            have BN := (Blk.new wr 32 #[.slice a3 ts.length c3, .int .i64 nx, .int .i64 fr]).drew
            have m0 := BN.cell 0 rfl; have m1 := BN.cell 1 rfl; have m2 := BN.cell 2 rfl
            have HBN := Lib.hid hbN
            clear e0 e1 d0 d1 d2 BN hbN cr
            generalize hgN : (wr.alloc (.cells #[.slice a3 ts.length c3, .int .i64 nx, .int .i64 fr] 32)).drew = wN at *
            clear hgN
            generalize wr.heap.size = gN at m0 m1 m2 ⊢
            go_wp2_with fail
            refine (G.out wN HBN.out).mono ?_
            rintro e7 w7 ⟨rfl, hb7⟩
            have HB7 := Lib.hid (below_tr HBN.out hb7)
            have m0 := cell_keep hb7 m0; have m1 := cell_keep hb7 m1; have m2 := cell_keep hb7 m2
            have HR7 := HRQ.out.res.below HB7.out
            have r0 := HR7.cell 0 rfl; have r1 := HR7.cell 1 rfl; have r2 := HR7.cell 2 rfl
            have f0 := HR7.frozen 0; have f1 := HR7.frozen 1; have f2 := HR7.frozen 2
            clear hb7 HR7
            rcases hgd : goodM ts nx fr with _ | _
            · have HF := Lib.hid (HE.out.trans (show endR (nx :: fr :: (ts.length : Int) :: ts) = badM by unfold endR; simp only; rw [if_neg (fun h => by rw [hgd] at h; cases h.2)]))
              clear hgd
              go_wp2_with fail
              refine bodyPost_ret (v := .tuple #[.agg #[.slice none 0 0, .int .i64 0, .int .i64 0], .int .i64 8]) (by simp [results, Tryd.results19, go_sem, r0, r1, r2]) rfl ?_
              exact MReadPost.bad HF.out (below_put3 (below_tr HRQ.out.below HB7.out))
            · have HF := Lib.hid (HE.out.trans (show endR (nx :: fr :: (ts.length : Int) :: ts) = ((ts, nx, fr), 0) by unfold endR; simp only; rw [if_pos ⟨trivial, hgd⟩]))
              clear hgd
              go_wp2_with fail
              refine bodyPost_ret (v := .tuple #[.agg #[.slice a3 ts.length c3, .int .i64 nx, .int .i64 fr], .int .i64 0]) (by simp [results, Tryd.results19, go_sem, r0, r1, r2]) rfl ?_
              have HS : SlI (((w7.setCell ⟨w.heap.size, 0, none⟩ (.slice a3 ts.length c3)).setCell ⟨w.heap.size, 1, none⟩ (.int .i64 nx)).setCell ⟨w.heap.size, 2, none⟩ (.int .i64 fr)) (cutV (.slice (some ⟨g, o, none⟩) (ts.length + 3) cl) 3) ts := (SlX.but (HRQ.out.own.below HB7.out) (but_put3 (g := w.heap.size) (a := .slice a3 ts.length c3) (b := .int .i64 nx) (c := .int .i64 fr)) (fun k hk => by have := HRQ.out.hB.1; omega)).ints.cut 3 (by simp)
              rw [HV3.out] at HS
              exact MReadPost.good HF.out HS (below_put3 (below_tr HRQ.out.below HB7.out))
          · have q : ((ts.length : Int) + 3 != 3 + kk) = true := by rw [bne_iff_ne]; omega
            have HF := Lib.hid (HE.out.trans (show endR (nx :: fr :: kk :: ts) = badM by unfold endR; simp only; rw [if_neg (fun h => hk h.1)]))
            have l2 : (2 : Int) < (ts.length : Int) + 3 := by omega
            clear hk
            go_wp2_with fail
            refine bodyPost_ret (v := .tuple #[.agg #[.slice none 0 0, .int .i64 0, .int .i64 0], .int .i64 8]) (by simp [results, Tryd.results19, go_sem, r0, r1, r2]) rfl ?_
            exact MReadPost.bad HF.out (below_put3 HRQ.out.below)
end Go.Proofs.YtkmcjainbhmbdaaDoor
