/- The law PurgeCells. Condition: the row's own bounds. -/
import Derived.Test.YtmjeifbadjdnfaaDoorWn
import Derived.Test.YtmjeifbadjdnfaaDoorHg
set_option linter.unusedVariables false
set_option linter.unusedSimpArgs false
set_option maxRecDepth 50000
namespace Go.Proofs.YtmjeifbadjdnfaaDoor
open Go.RowKit Go.Sort
open Go.Lib hiding intOf

theorem Lists.cons {w : World} {h : Hd} {L : List Cel} {hs : List Hd} {ls : List (List Cel)} (h1 : SlX eC w.heap.size w h.val L) (h2 : Room L.length) (h3 : Lists w hs ls) : Lists w (h :: hs) (L :: ls) :=
  ⟨by simp [h3.len], fun i a b => by
    rcases i with _ | i
    · exact ⟨h1, h2⟩
    · exact h3.at_ i (by simpa using a) (by simpa using b)⟩
set_option maxHeartbeats 8000000 in
theorem PurgeCells_walk (v : Value) (L : List Cel) (vo : Value) (hs : List Hd) (ls : List (List Cel)) (now gr : Int) (w : World) (HV : SlX eC w.heap.size w v L) (hl : Room L.length) (ok : ∀ c ∈ L, CelOk c)
    (hvo : SlX eH w.heap.size w vo hs) (hls : Lists w hs ls) (hn : hs.length * 24 ≤ 140737488351232) (okl : ∀ l ∈ ls, ∀ c ∈ l, CelOk c) (i2 : In64 now) (i3 : In64 gr) :
    Calls Tryd.prog 3 #[v, vo, .agg #[.int .i64 now, .int .i64 gr]] w fun e w' => e = .returned (.bool true) ∧ Below w.heap.size w w' := by
  have LV := Lib.hid (fun W => lives11_any W)
  obtain ⟨F, hF⟩ : ∃ F, ((normC L).filter fun c => !(oldV c.v now gr && !anyK c.k ls)) = F := ⟨_, rfl⟩
  have hF2 : ((normC L).filter fun c => anyK c.k ls || !oldV c.v now gr) = F := by
    rw [← hF]; congr 1; funext c
    cases oldV c.v now gr <;> cases anyK c.k ls <;> rfl
  have FR := Lib.hid (show Room F.length by
    rw [← hF]; have h1 := normC_len L; have h2 := List.length_filter_le (fun c => !(oldV c.v now gr && !anyK c.k ls)) (normC L); unfold Room at *; omega)
  have CG := Lib.hid (fun (W : World) (hW : Below w.heap.size w W) => cellsG_any v vo L hs ls now gr W (HV.keep hW) hl ok (hvo.keep hW) (hls.keep hW) okl (by omega) i2 i3)
  have RG := Lib.hid (fun (W : World) (hW : Below w.heap.size w W) => rCells_any v vo L hs ls now gr W (HV.keep hW) hl ok (hvo.keep hW) (hls.keep hW) (by omega) i2 i3)
  rw [hF] at CG
  rw [hF2] at RG
  clear hF hF2
  have HVh := Lib.hid HV; have HO := Lib.hid hvo; have LSh := Lib.hid hls
  have OLD := Lib.hid (fun x (hx : x ∈ L) W => Old_any x.v now gr W (ok x hx).2 i2 i3)
  have ROLD := Lib.hid (fun x (hx : x ∈ L) W => rOld_any x.v now gr W (ok x hx).2 i2 i3)
  obtain ⟨a, cap, rfl, _, hx⟩ := HV.ex
  have HX := Lib.hid hx
  obtain ⟨ao, capo, rfl, _, _⟩ := hvo.ex
  have FEW := Lib.hid (fun (W : World) (hW : Below w.heap.size w W) (base : Nat) (vv : Value) (hO : OwnX eH W base vv ([⟨a, L.length, cap⟩] ++ hs)) => few_any vv ([⟨a, L.length, cap⟩] ++ hs) (L :: ls) W hO.sl (Lists.cons (HV.keep hW) hl (hls.keep hW)) (by simp; omega))
  have b1 := Blk.new w 25 #[.int .i64 now, .int .i64 gr]
  have B0 := below_alloc (Below.refl _ w) (.cells #[.int .i64 now, .int .i64 gr] 25)
  have HB0 := Lib.hid B0; have K1 := Lib.hid b1
  have l1 : [(⟨a, L.length, cap⟩ : Hd)].length + hs.length ≤ 9223372036854775807 := by simp; omega
  have l2 : ([(⟨a, L.length, cap⟩ : Hd)].length + hs.length) * eH.bytes ≤ 140737488355328 := by show (_ + _) * 24 ≤ _; simp; omega
  have hl' := hl
  unfold Room at hl'
  have L12 := Lib.hid (And.intro l1 l2)
  clear B0 b1 HV ok hl hx hvo hls okl i2 i3 l1 l2
  go_enter Tryd.func3, Tryd.ntmps3
  go_upto_region 1 with (fail)
  generalize hW0 : w.alloc (.cells #[.int .i64 now, .int .i64 gr] 25) = W0 at *
  clear hW0
  have HBX := Lib.hid (below_alloc (Below.refl _ W0) (.cells #[.slice a L.length cap] 22))
  have OX := Lib.hid (OwnX.lit (E := eH) W0 W0.heap.size #[.slice a L.length cap] [⟨a, L.length, cap⟩] 1 (Nat.le_refl _) rfl (by simp) rfl)
  have SX := Lib.hid (HO.out.keep (below_tr HB0.out HBX.out))
  go_wp2_with (at_builtin; go_must (refine ap_x (E := eH) rfl (.tmp 10) (.tmp 11) rfl W0.heap.size (.slice (some ⟨W0.heap.size, 0, none⟩) 1 1) [⟨a, L.length, cap⟩] _ _ hs rfl rfl SX.out OX.out HBX.out HBX.out.size L12.out.1 L12.out.2 ?_); intro v2 w2 hO2 hB2 hz2 hg2)
  have FW := Lib.hid (FEW.out w2 (below_tr HB0.out hB2) _ _ hO2)
  have HB2 := Lib.hid hB2
  clear hO2 hB2 hz2 hg2 FEW
  refine FW.out.mono ?_
  rintro e w1 ⟨r, rfl, hb⟩
  have HB1 := Lib.hid (below_tr HB2.out hb)
  have HBw1 := Lib.hid (below_tr HB0.out HB1.out)
  clear hb FW
  cases r with
  | false =>
    go_wp2_with fail
    refine (LV.out _).mono ?_
    rintro e w3 ⟨rfl, hb⟩
    have HB3 := Lib.hid (below_tr HBw1.out hb); clear hb
    go_wp2_with fail
    go_ret
    exact ⟨rfl, HB3.out⟩
  | true =>
    go_wp2_with fail
    go_loopw [8, 18] (fun _ v18 wr => ∃ i : Nat, v18 = .int .i64 (i : Int) ∧ i ≤ L.length ∧ Below w1.heap.size w1 wr) (fun _ v18 _ => L.length - (intOf v18).toNat)
    case atStart => exact ⟨0, rfl, by omega, Below.refl _ _⟩
    case round =>
      obtain ⟨i, rfl, hi, hb⟩ := hrel
      have HB := Lib.hid hb; clear hb
      by_cases hlt : i < L.length
      · have hz : (i : Int) < (L.length : Int) := by omega
        obtain ⟨gl, o, rfl, hgl2, _⟩ := HX.out (by omega)
        have ten := (Ten.of HVh.out i hlt).keep (below_tr HBw1.out HB.out)
        have OL := Lib.hid (OLD.out L[i] (List.getElem_mem hlt)); have RO := Lib.hid (ROLD.out L[i] (List.getElem_mem hlt))
        generalize L[i] = x at *
        have HB3 := Lib.hid (below_alloc HB.out (.cells (celEnc x).toArray 35))
        have BK := Lib.hid (Blk.new wr 35 (celEnc x).toArray)
        have WB := Lib.hid (((K1.out.below HB1.out).below HB.out).alloc (.cells (celEnc x).toArray 35))
        generalize oldV x.v now gr = ob at *
        obtain ⟨c0, c1, c2, c3, c4, c5, c6, c7, c8, c9⟩ := ten
        obtain ⟨⟨t, p, r, q⟩, ⟨tm, dd, lc, kd, nn, ss⟩⟩ := x
        simp only [celEnc, vrEnc] at *
        go_wp2_with fail
        clear c0 c1 c2 c3 c4 c5 c6 c7 c8 c9
        generalize hW1 : wr.alloc (.cells #[.string t, .string p, .int .i64 r, .string q, .int .i64 tm, .bool dd, .int .i64 lc, .int .i64 kd, .int .i64 nn, .string ss] 35) = W1 at *
        clear hW1
        generalize wr.heap.size = gx at *
        have q1 := Lib.hid (QP.of (P := Tryd.prog) (W := W1) fun W' _ => OL.out W')
        have q2 := Lib.hid (QP.of (P := Tryd.prog) (W := W1) fun W' _ => RO.out W')
        have kx := fun dr os => Blk.ten (x := (⟨⟨t, p, r, q⟩, ⟨tm, dd, lc, kd, nn, ss⟩⟩ : Cel)) (BK.out.below (below_regrown W1 dr os))
        have f4 := fun dr os => (kx dr os).c4; have f5 := fun dr os => (kx dr os).c5; have f6 := fun dr os => (kx dr os).c6; have f7 := fun dr os => (kx dr os).c7; have f8 := fun dr os => (kx dr os).c8; have f9 := fun dr os => (kx dr os).c9
        have y0 := fun dr os => (WB.out.below (below_regrown W1 dr os)).cell 0 (v := .int .i64 now) rfl
        have y1 := fun dr os => (WB.out.below (below_regrown W1 dr os)).cell 1 (v := .int .i64 gr) rfl
        simp only [Nat.zero_add] at f4 f5 f6 f7 f8 f9
        clear kx
        have hbb : (ob != ob) = false := by simp
        refine wp_region_quiet_below (by kernel_rfl) (by kernel_rfl) ?_
        repeat (quiet_step (first | with_reducible exact q1.out.at _ _ | with_reducible exact q2.out.at _ _))
        refine wpQuiet_nil ?_
        intro w3 hw3
        have HB4 := Lib.hid (below_tr HB3.out (regrown_below hw3))
        clear hw3 f4 f5 f6 f7 f8 f9 y0 y1 q1 q2
        go_wp2_with fail
        exact ⟨⟨i + 1, by first | rfl | go_num, by omega, HB4.out⟩, by simp [intOf]; omega⟩
      · have hz : ¬ (i : Int) < (L.length : Int) := by omega
        have WB := (K1.out.below HB1.out).below HB.out
        have x0 := WB.cell 0 (v := .int .i64 now) rfl; have x1 := WB.cell 1 (v := .int .i64 gr) rfl
        have HWr := Lib.hid (below_tr HBw1.out HB.out)
        have HS := Lib.hid (fun w' (h : Below wr.heap.size wr w') => show InW wr w' ∧ w'.cell? ⟨w.heap.size, 0, none⟩ = some (.int .i64 now) ∧ w'.cell? ⟨w.heap.size, 1, none⟩ = some (.int .i64 gr) from ⟨h, cell_keep h x0, cell_keep h x1⟩)
        clear WB
        go_upto_region 9 with (fail)
        clear x0 x1 hz
        go_region_held3 (fun w' => InW wr w' ∧ w'.cell? ⟨w.heap.size, 0, none⟩ = some (.int .i64 now) ∧ w'.cell? ⟨w.heap.size, 1, none⟩ = some (.int .i64 gr))
          (first | assumption | exact HS.out _ (by repeat (first | exact Below.refl _ _ | exact (show Below wr.heap.size wr _ from And.left (by assumption)) | exact below_tr (show Below wr.heap.size wr _ from And.left (by assumption)) (by assumption) | refine Below.drew ?_ | refine below_alloc ?_ _)))
          (first | (go_at_call 16; refine (CG.out _ (below_tr HWr.out (‹InW wr _ ∧ _›).1)).mono ?_; rintro e w' ⟨v', rfl, hs, hb⟩) | (go_at_call 17; refine (RG.out _ (below_tr HWr.out (‹InW wr _ ∧ _›).1)).mono ?_; rintro e w' ⟨v', rfl, hs, hb⟩) | (go_at_call 15; refine (like_any _ _ F _ (by first | with_reducible assumption | exact SlX.keep (by with_reducible assumption) (by with_reducible assumption)) (by first | with_reducible assumption | exact SlX.keep (by with_reducible assumption) (by with_reducible assumption)) FR.out).mono ?_; rintro e w' ⟨rfl, hb⟩) | (go_at_call 12; refine (LV.out _).mono ?_; rintro e w' ⟨rfl, hb⟩))
        all_goals
          have hin := (‹InW wr _ ∧ _›).1
          go_wp2_with fail
          go_ret
          exact ⟨rfl, below_tr HWr.out hin⟩
end Go.Proofs.YtmjeifbadjdnfaaDoor
