/- The walk of the law TableOpens: it returns true. Condition: the row's own bounds; the asked key has room. -/
import Derived.Test.YtplghaoflmaadaaGreatDoorZ44
import Derived.Test.YtplghaoflmaadaaGreatDoorZ43
section
set_option linter.unusedVariables false
set_option linter.unusedSimpArgs false
set_option maxRecDepth 50000
namespace Go.Proofs.YtplghaoflmaadaaGreatDoor
open Go.RowKit Go.Sort
open Go.Lib hiding intOf

set_option maxHeartbeats 4000000 in
theorem TableOpens_walk (v : Value) (l : List UInt8) (k1 k2 k3 : Ky) (w : World) (he : Env w) (hv : SlB w.heap.size w v l) (hl : l.length ≤ 140737488351232) (hkz : k1.t.size + k1.p.size + k1.c.size ≤ 2000000) :
    Calls Tryz.prog 4 #[v, askV k1 k2 k3] w fun e w' => e = .returned (.bool true) ∧ Below w.heap.size w w' := by
  have HKZ := Lib.hid hkz
  have B0 := below_alloc (Below.refl _ w) (.cells #[.string k1.t, .string k1.p, .int .i64 k1.r, .string k1.c, .string k2.t, .string k2.p, .int .i64 k2.r, .string k2.c, .string k3.t, .string k3.p, .int .i64 k3.r, .string k3.c] 26)
  have KB0 := Lib.hid (Blk.new w 26 #[.string k1.t, .string k1.p, .int .i64 k1.r, .string k1.c, .string k2.t, .string k2.p, .int .i64 k2.r, .string k2.c, .string k3.t, .string k3.p, .int .i64 k3.r, .string k3.c])
  have ENDB := Lib.hid (fun (W : World) (h : Below (w.alloc (.cells #[.string k1.t, .string k1.p, .int .i64 k1.r, .string k1.c, .string k2.t, .string k2.p, .int .i64 k2.r, .string k2.c, .string k3.t, .string k3.p, .int .i64 k3.r, .string k3.c] 26)).heap.size (w.alloc (.cells #[.string k1.t, .string k1.p, .int .i64 k1.r, .string k1.c, .string k2.t, .string k2.p, .int .i64 k2.r, .string k2.c, .string k3.t, .string k3.p, .int .i64 k3.r, .string k3.c] 26)) W) => show Below w.heap.size w W from below_tr B0 h)
  have hv := hv.keep B0
  have HE := Lib.hid (he.below B0); have HV := Lib.hid hv
  have TL := Lib.hid (fun b v W (hW : Env W) (h : SlB W.heap.size W v b) (h2 : b.length ≤ 120000) => tells_any v b k1 k2 k3 W hW h h2 hkz)
  obtain ⟨a, cap, rfl, hc, hx⟩ := hv.ex
  clear B0 hkz hx hv he
  unfold askV at *
  by_cases hgt : 8000 < l.length
  · have hq : (8000 : Int) < (l.length : Int) := by omega
    go_enter Tryz.func4, Tryz.ntmps4
    go_wp2_with fail
    generalize w.alloc (.cells #[.string k1.t, .string k1.p, .int .i64 k1.r, .string k1.c, .string k2.t, .string k2.p, .int .i64 k2.r, .string k2.c, .string k3.t, .string k3.p, .int .i64 k3.r, .string k3.c] 26) = W0 at *
    have LV := Lib.hid (lives_any W0 HE.out)
    go_wp2_with fail
    refine LV.out.mono ?_
    rintro e w1 ⟨rfl, hb1⟩
    have HB1 := Lib.hid hb1
    clear hb1 LV
    go_wp2_with fail
    go_ret
    exact ⟨rfl, ENDB.out _ HB1.out⟩
  · have hq : ¬ (8000 : Int) < (l.length : Int) := by omega
    have HLL := Lib.hid (show l.length ≤ 8000 by omega)
    go_enter Tryz.func4, Tryz.ntmps4
    go_wp2_with fail
    generalize w.alloc (.cells #[.string k1.t, .string k1.p, .int .i64 k1.r, .string k1.c, .string k2.t, .string k2.p, .int .i64 k2.r, .string k2.c, .string k3.t, .string k3.p, .int .i64 k3.r, .string k3.c] 26) = W0 at *
    have LD := Lib.hid (lend_any _ l W0 HV.out (by have := HLL.out; omega))
    go_wp2_with fail
    refine LD.out.mono ?_
    rintro e w1 ⟨wv, ov, rfl, hwv, hov, hb1⟩
    have HB1 := Lib.hid hb1; have HW1 := Lib.hid hwv
    have TC := Lib.hid (TL.out l ov w1 (HE.out.below hb1) hov (by have := HLL.out; omega))
    have kb := KB0.out.below HB1.out
    have a0 := kb.cell 0 rfl; have a1 := kb.cell 1 rfl; have a2 := kb.cell 2 rfl; have a3 := kb.cell 3 rfl; have a4 := kb.cell 4 rfl; have a5 := kb.cell 5 rfl; have a6 := kb.cell 6 rfl; have a7 := kb.cell 7 rfl; have a8 := kb.cell 8 rfl; have a9 := kb.cell 9 rfl; have a10 := kb.cell 10 rfl; have a11 := kb.cell 11 rfl
    clear kb hb1 hwv hov LD
    go_wp2_with fail
    refine TC.out.mono ?_
    rintro e w4 ⟨rfl, hb4⟩
    have HB4 := Lib.hid (below_tr HB1.out hb4)
    have KP := Lib.hid (kept_any wv _ l w4 (HW1.out.keep hb4) (HV.out.keep HB4.out) (by have := HLL.out; omega))
    clear hb4 TC a0 a1 a2 a3 a4 a5 a6 a7 a8 a9 a10 a11
    go_wp2_with fail
    refine KP.out.mono ?_
    rintro e w5 ⟨rfl, hb5⟩
    have HB5 := Lib.hid (below_tr HB4.out hb5)
    have LV := Lib.hid (lives_any w5 (HE.out.below HB5.out))
    clear hb5 KP
    go_wp2_with fail
    refine LV.out.mono ?_
    rintro e w6 ⟨rfl, hb6⟩
    have HB6 := Lib.hid (below_tr HB5.out hb6)
    clear hb6 LV
    go_wp2_with fail
    go_ret
    exact ⟨rfl, ENDB.out _ HB6.out⟩
end Go.Proofs.YtplghaoflmaadaaGreatDoor
end
