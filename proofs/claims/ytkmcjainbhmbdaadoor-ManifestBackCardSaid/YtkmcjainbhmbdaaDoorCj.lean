/- Contracts of the codec's Frame and Unframe. Conditions: lengths leave room. -/
import Derived.Test.YtkmcjainbhmbdaaDoorCi
import Derived.Laws.MakeOwn
set_option linter.unusedVariables false
set_option linter.unusedSimpArgs false
set_option maxRecDepth 20000
namespace Go.Proofs.YtkmcjainbhmbdaaDoor
open Go.RowKit

set_option maxHeartbeats 1000000 in
theorem Frame_any (v : Value) (l : List UInt8) (w : World) (hv : SlB w.heap.size w v l) (hl : l.length ≤ 1000000) :
    Calls Tryd.prog 53 #[v] w (RetB w.heap.size w (frameL l)) := by
  have HV := Lib.hid hv
  obtain ⟨a, c, rfl, hc, hx⟩ := hv.ex
  clear hx hv
  by_cases hg : 262144 < l.length
  · have e : frameL l = [] := if_neg (by omega)
    rw [e]
    go_enter Tryd.func53, Tryd.ntmps53
    go_wp2_with fail
    go_ret
    exact ⟨_, rfl, OwnB.nil _ _, Below.refl _ _⟩
  · have e : frameL l = fourL l.length ++ fourL (sealL (fourL l.length) l) ++ l := if_pos (by omega)
    have hsr := sealL_range (fourL l.length) l
    obtain ⟨i0, hi, hz0, hz1, hz2⟩ := info_parts infoByte
    obtain ⟨w1, hmk, hO1, hg1⟩ := run_make_own (P := Tryd.prog) (w := w) w.heap.size 25 5 i0 _ 1 Tryd.underlying25 hi hz0 hz1 .i64 .i64 (l.length + 8) (by rw [hz2]; omega) (by unfold maxLen; omega) (Nat.le_refl _)
    rw [show ((l.length + 8 : Nat) : Int) = (l.length : Int) + 8 by omega] at hmk
    clear hi hz0 hz1 hz2 i0
    have hb1 : Below w.heap.size w w1 := (Below.refl _ w).grown hg1 (Nat.le_refl _) (fun k hk => by cases hk)
    clear hg1
    have F1 := Lib.hid (four_any w.heap.size _ [] (l.length : Int) w1 hO1 hb1.size (by omega) (by omega) (by simp))
    have HSL := Lib.hid (fun W v2 (hO : OwnB W w.heap.size v2 (fourL l.length)) (hb : Below w.heap.size w W) => seal_any v2 (.slice a l.length c) (fourL l.length) l W.heap.size W hO.slB (HV.out.keep hb) (by rw [fourL_length]; omega) hl)
    have F2 := Lib.hid (fun W v2 (hO : OwnB W w.heap.size v2 (fourL l.length)) (hb : Below w.heap.size w W) => four_any w.heap.size v2 (fourL l.length) (sealL (fourL l.length) l) W hO hb.size hsr.1 hsr.2 (by rw [fourL_length]; omega))
    have hlen : (fourL l.length ++ fourL (sealL (fourL l.length) l)).length + l.length ≤ 140737488355328 := by rw [List.length_append, fourL_length, fourL_length]; omega
    have E := Lib.hid e; clear e
    clear hO1
    have HB1 := Lib.hid hb1; clear hb1
    go_enter Tryd.func53, Tryd.ntmps53
    go_wp2_with fail
    clear hmk
    refine F1.out.mono ?_
    rintro e w2 ⟨v2, rfl, hO2, hb2⟩
    rw [List.nil_append] at hO2
    have HO2 := Lib.hid hO2; have HB2 := Lib.hid (HB1.out.trans hb2); clear hO2 hb2
    go_wp2_with fail
    refine (HSL.out w2 v2 HO2.out HB2.out).mono ?_
    rintro e w2_ ⟨rfl, rfl⟩
    go_wp2_with fail
    refine (F2.out w2 v2 HO2.out HB2.out).mono ?_
    rintro e w3 ⟨v3, rfl, hO3, hb3⟩
    have HO3 := Lib.hid hO3; have HB3 := Lib.hid (HB2.out.trans hb3); clear hO3 hb3
    go_wp2_with (at_builtin; go_must (refine ap_sl rfl (.tmp 19) (.tmp 20) rfl w.heap.size v3 _ w3.heap.size _ l rfl rfl (HV.out.keep HB3.out) HO3.out HB3.out HB3.out.size hlen ?_); intro v4 w4 hO4 hB4 hz4 _)
    go_ret
    exact ⟨_, rfl, by rw [E.out]; exact hO4, hB4⟩
end Go.Proofs.YtkmcjainbhmbdaaDoor
