/- The walk of the law TableWrites: it returns true. Condition: the row's own bounds; the asked key has room. -/
import Derived.Test.YtplghaoflmaadaaGreatDoorZ44
section
set_option linter.unusedVariables false
set_option linter.unusedSimpArgs false
set_option maxRecDepth 50000
namespace Go.Proofs.YtplghaoflmaadaaGreatDoor
open Go.RowKit Go.Sort
open Go.Lib hiding intOf

set_option maxHeartbeats 4000000 in
theorem TableWrites_walk (v : Value) (L : List Cel) (k1 k2 k3 : Ky) (w : World) (he : Env w) (hv : SlX eC w.heap.size w v L) (hl : Room L.length) (hin : ∀ c ∈ L, CelIn c) (hre : ∀ c ∈ L, CelRe c) (hkz : k1.t.size + k1.p.size + k1.c.size ≤ 2000000) :
    Calls Tryz.prog 3 #[v, askV k1 k2 k3] w fun e w' => e = .returned (.bool true) ∧ Below w.heap.size w w' := by
  have HL0 := Lib.hid hl; have HKZ := Lib.hid hkz; have HIN := Lib.hid hin
  have B0 := below_alloc (Below.refl _ w) (.cells #[.string k1.t, .string k1.p, .int .i64 k1.r, .string k1.c, .string k2.t, .string k2.p, .int .i64 k2.r, .string k2.c, .string k3.t, .string k3.p, .int .i64 k3.r, .string k3.c] 26)
  have KB0 := Lib.hid (Blk.new w 26 #[.string k1.t, .string k1.p, .int .i64 k1.r, .string k1.c, .string k2.t, .string k2.p, .int .i64 k2.r, .string k2.c, .string k3.t, .string k3.p, .int .i64 k3.r, .string k3.c])
  have ENDB := Lib.hid (fun (W : World) (h : Below (w.alloc (.cells #[.string k1.t, .string k1.p, .int .i64 k1.r, .string k1.c, .string k2.t, .string k2.p, .int .i64 k2.r, .string k2.c, .string k3.t, .string k3.p, .int .i64 k3.r, .string k3.c] 26)).heap.size (w.alloc (.cells #[.string k1.t, .string k1.p, .int .i64 k1.r, .string k1.c, .string k2.t, .string k2.p, .int .i64 k2.r, .string k2.c, .string k3.t, .string k3.p, .int .i64 k3.r, .string k3.c] 26)) W) => show Below w.heap.size w W from below_tr B0 h)
  have hv := hv.keep B0
  have HE := Lib.hid (he.below B0); have HV := Lib.hid hv
  have TL := Lib.hid (fun b v W (hW : Env W) (h : SlB W.heap.size W v b) (h2 : b.length ≤ 120000) => tells_any v b k1 k2 k3 W hW h h2 hkz)
  obtain ⟨a, cap, rfl, hc, hx⟩ := hv.ex
  clear B0 hkz hx hv he
  unfold askV at *
  go_enter Tryz.func3, Tryz.ntmps3
  go_wp2_with fail
  generalize w.alloc (.cells #[.string k1.t, .string k1.p, .int .i64 k1.r, .string k1.c, .string k2.t, .string k2.p, .int .i64 k2.r, .string k2.c, .string k3.t, .string k3.p, .int .i64 k3.r, .string k3.c] 26) = W0 at *
  have WG := Lib.hid (weigh_ex (.slice a L.length cap) L 400 W0 HV.out HL0.out hre (by decide))
  clear hre hin hl
  go_wp2_with fail
  refine WG.out.mono ?_
  rintro e w0 ⟨r, rfl, hr, hb0⟩
  have HB0 := Lib.hid hb0
  by_cases hgt : 400 < r
  · have hq : (400 : Int) < (r : Int) := by omega
    have LV := Lib.hid (lives_any w0 (HE.out.below hb0))
    clear hr hgt hb0 WG
    go_wp2_with fail
    refine LV.out.mono ?_
    rintro e w1 ⟨rfl, hb1⟩
    have HB1 := Lib.hid (below_tr HB0.out hb1)
    clear hb1 LV
    go_wp2_with fail
    go_ret
    exact ⟨rfl, ENDB.out _ HB1.out⟩
  · have hq : ¬ (400 : Int) < (r : Int) := by omega
    have HWT := Lib.hid (hr (by omega))
    have FL := Lib.hid (fit_light HIN.out HWT.out)
    have HTL := Lib.hid (tab_light HIN.out HWT.out)
    have HV0 := Lib.hid (HV.out.keep HB0.out)
    clear hr hgt hb0 WG
    by_cases hok : OkT L
    · have HOK := Lib.hid hok
      have WR := Lib.hid (write_ok _ L w0 (HE.out.below HB0.out) HV0.out hok FL.out.1)
      clear hok
      go_wp2_with fail
      refine WR.out.mono ?_
      rintro e w1 ⟨v1, rfl, hO1, hb1⟩
      have HB1 := Lib.hid (below_tr HB0.out hb1); have HO1 := Lib.hid hO1
      have RW := Lib.hid (rwrite_ok _ L w1 (HE.out.below HB1.out) (HV0.out.keep hb1) HOK.out FL.out.1)
      generalize tableL L = TB at *
      clear hO1 hb1 WR
      go_wp2_with fail
      refine RW.out.mono ?_
      rintro e w2 ⟨v2, rfl, hO2, hb2⟩
      have HB2 := Lib.hid (below_tr HB1.out hb2); have HO2 := Lib.hid (HO1.out.below hb2)
      have SM := Lib.hid (SameT v1 v2 TB w2 (OwnB.reads HO2.out) (OwnB.reads hO2))
      clear hO2 hb2 RW
      go_wp2_with fail
      refine SM.out.mono ?_
      rintro e w3 ⟨rfl, hb3⟩
      have HB3 := Lib.hid (below_tr HB2.out hb3)
      have TC := Lib.hid (TL.out TB v1 w3 (HE.out.below HB3.out) (OwnB.slB (HO2.out.below hb3)) HTL.out)
      have kb := KB0.out.below HB3.out
      have a0 := kb.cell 0 rfl; have a1 := kb.cell 1 rfl; have a2 := kb.cell 2 rfl; have a3 := kb.cell 3 rfl; have a4 := kb.cell 4 rfl; have a5 := kb.cell 5 rfl; have a6 := kb.cell 6 rfl; have a7 := kb.cell 7 rfl; have a8 := kb.cell 8 rfl; have a9 := kb.cell 9 rfl; have a10 := kb.cell 10 rfl; have a11 := kb.cell 11 rfl
      clear kb hb3 SM
      go_wp2_with fail
      refine TC.out.mono ?_
      rintro e w4 ⟨rfl, hb4⟩
      have HB4 := Lib.hid (below_tr HB3.out hb4)
      have LV := Lib.hid (lives_any w4 (HE.out.below HB4.out))
      clear hb4 TC a0 a1 a2 a3 a4 a5 a6 a7 a8 a9 a10 a11
      go_wp2_with fail
      refine LV.out.mono ?_
      rintro e w5 ⟨rfl, hb5⟩
      have HB5 := Lib.hid (below_tr HB4.out hb5)
      clear hb5 LV
      go_wp2_with fail
      go_ret
      exact ⟨rfl, ENDB.out _ HB5.out⟩
    · have HOK := Lib.hid hok
      have hlm : L.length * 112 ≤ 140737488355328 := by have := FL.out.2.2.1; omega
      have WR := Lib.hid (write_bad _ L w0 HV0.out hlm FL.out.2.1 hok)
      clear hok hlm
      go_wp2_with fail
      refine WR.out.mono ?_
      rintro e w1 ⟨rfl, hb1⟩
      have HB1 := Lib.hid (below_tr HB0.out hb1)
      have hlm : L.length * 112 ≤ 140737488355328 := by have := FL.out.2.2.1; omega
      have RW := Lib.hid (rwrite_bad _ L w1 (HV0.out.keep hb1) hlm FL.out.2.1 HOK.out)
      clear hb1 WR hlm
      go_wp2_with fail
      refine RW.out.mono ?_
      rintro e w2 ⟨rfl, hb2⟩
      have HB2 := Lib.hid (below_tr HB1.out hb2)
      have SM := Lib.hid (SameT (.slice none 0 0) (.slice none 0 0) [] w2 (OwnB.reads (OwnB.nil w2 0)) (OwnB.reads (OwnB.nil w2 0)))
      clear hb2 RW
      go_wp2_with fail
      refine SM.out.mono ?_
      rintro e w3 ⟨rfl, hb3⟩
      have HB3 := Lib.hid (below_tr HB2.out hb3)
      have TC := Lib.hid (TL.out [] (.slice none 0 0) w3 (HE.out.below HB3.out) (SlB.nil _ _ _) (by simp))
      have kb := KB0.out.below HB3.out
      have a0 := kb.cell 0 rfl; have a1 := kb.cell 1 rfl; have a2 := kb.cell 2 rfl; have a3 := kb.cell 3 rfl; have a4 := kb.cell 4 rfl; have a5 := kb.cell 5 rfl; have a6 := kb.cell 6 rfl; have a7 := kb.cell 7 rfl; have a8 := kb.cell 8 rfl; have a9 := kb.cell 9 rfl; have a10 := kb.cell 10 rfl; have a11 := kb.cell 11 rfl
      clear kb hb3 SM
      go_wp2_with fail
      refine TC.out.mono ?_
      rintro e w4 ⟨rfl, hb4⟩
      have HB4 := Lib.hid (below_tr HB3.out hb4)
      have LV := Lib.hid (lives_any w4 (HE.out.below HB4.out))
      clear hb4 TC a0 a1 a2 a3 a4 a5 a6 a7 a8 a9 a10 a11
      go_wp2_with fail
      refine LV.out.mono ?_
      rintro e w5 ⟨rfl, hb5⟩
      have HB5 := Lib.hid (below_tr HB4.out hb5)
      clear hb5 LV
      go_wp2_with fail
      go_ret
      exact ⟨rfl, ENDB.out _ HB5.out⟩
end Go.Proofs.YtplghaoflmaadaaGreatDoor
end
