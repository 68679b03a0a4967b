/- Contracts of the reference's Frame and Unframe. Conditions: lengths leave room. -/
import Derived.Test.YtkmcjainbhmbdaaDoorCk
set_option linter.unusedVariables false
set_option linter.unusedSimpArgs false
set_option maxRecDepth 20000
namespace Go.Proofs.YtkmcjainbhmbdaaDoor
open Go.RowKit

set_option maxHeartbeats 1000000 in
theorem rFrame_any (v : Value) (l : List UInt8) (w : World) (hv : SlB w.heap.size w v l) (hl : l.length ≤ 1000000) :
    Calls Tryd.prog 55 #[v] w (RetB w.heap.size w (frameL l)) := by
  have HV := Lib.hid hv
  obtain ⟨a, c, rfl, hc, hx⟩ := hv.ex
  clear hx hv
  by_cases hg : 262144 < l.length
  · have e : frameL l = [] := if_neg (by omega)
    rw [e]
    go_enter Tryd.func55, Tryd.ntmps55
    go_wp2_with fail
    go_ret
    exact ⟨_, rfl, OwnB.nil _ _, Below.refl _ _⟩
  · have e : frameL l = fourL l.length ++ fourL (sealL (fourL l.length) l) ++ l := if_pos (by omega)
    have hsr := sealL_range (fourL l.length) l
    have F1 := Lib.hid (rFour_any (l.length : Int) w (by omega) (by omega))
    have SM := Lib.hid (fun W v2 (hO : OwnB W w.heap.size v2 (fourL l.length ++ l)) => rSum_any v2 _ W.heap.size W hO.slB (by rw [List.length_append, fourL_length]; omega))
    have F2 := Lib.hid (fun W => rFour_any (sealL (fourL l.length) l) W hsr.1 hsr.2)
    have hl1 : ([] : List UInt8).length + (fourL (l.length : Int)).length ≤ 140737488355328 := by rw [fourL_length]; simp
    have hl2 : ([] ++ fourL (l.length : Int)).length + l.length ≤ 140737488355328 := by rw [List.nil_append, fourL_length]; omega
    have hl3 : (fourL (l.length : Int)).length + (fourL (sealL (fourL l.length) l)).length ≤ 140737488355328 := by rw [fourL_length, fourL_length]; omega
    have hl4 : (fourL (l.length : Int) ++ fourL (sealL (fourL l.length) l)).length + l.length ≤ 140737488355328 := by rw [List.length_append, fourL_length, fourL_length]; omega
    generalize hn : fourL (l.length : Int) = n4 at *
    generalize hs : fourL (sealL n4 l) = s4 at *
    clear hn
    have HS4 := Lib.hid hs; clear hs
    have E := Lib.hid e; clear e
    go_enter Tryd.func55, Tryd.ntmps55
    go_wp2_with fail
    refine F1.out.mono ?_
    rintro e w1 ⟨v1, rfl, hO1, hb1⟩
    have HO1 := Lib.hid hO1; have HB1 := Lib.hid hb1; clear hO1 hb1
    have HB1' := Lib.hid (below_alloc HB1.out (.cells #[] 5))
    have HL := Lib.hid (OwnB.lit w1 w1.heap.size #[] [] 0 (Nat.le_refl _) rfl (by simp) (by simp [bcells]))
    have HO1' := Lib.hid (HO1.out.alloc (.cells #[] 5))
    have hsz : w1.heap.size ≤ (w1.alloc (.cells #[] 5)).heap.size := by simp
    have HSZ := Lib.hid hsz; clear hsz
    have HBL := Lib.hid (below_alloc (Below.refl _ w1) (.cells #[] 5))
    go_wp2_with (at_builtin; first | (refine ap_sl rfl (.tmp 12) (.tmp 13) rfl w1.heap.size (.slice (some ⟨w1.heap.size, 0, none⟩) 0 0) [] _ v1 n4 rfl rfl HO1'.out.slB HL.out HBL.out HSZ.out hl1 ?_; intro v2 w2 hO2 hB2 hz2 _) | (refine ap_sl rfl (.tmp 14) (.tmp 15) rfl w1.heap.size _ _ w1.heap.size _ l rfl rfl ((HV.out.keep HB1.out).below hB2) hO2 hB2 hz2 hl2 ?_; intro v3 w3 hO3 hB3 hz3 _))
    rw [List.nil_append] at hO3
    have hO3' := hO3.weaken HB1.out.size
    have HB3 := Lib.hid hB3
    clear hO3 hO2 hB2 hz2 hB3 hz3
    refine (SM.out w3 v3 hO3').mono ?_
    rintro e w3_ ⟨rfl, rfl⟩
    clear hO3'
    have HS : (4294967295 : Int) - crcL 4294967295 (n4 ++ l) = sealL n4 l := (seal_app n4 l).symm
    have hO1' := (HO1.out.below HB3.out)
    have HO1x := Lib.hid hO1'; clear hO1'
    have HBx := Lib.hid (below_tr HB1.out HB3.out)
    go_wp2_with fail
    refine (F2.out w3).mono ?_
    rintro e w4 ⟨v4, rfl, hO4, hb4⟩
    have HO4 := Lib.hid hO4
    have HB4 := Lib.hid (below_tr HBx.out hb4)
    have HO1y := Lib.hid (HO1x.out.below hb4)
    clear hO4 hb4 HS
    have hz4 := HB4.out.size
    have HB4' := Lib.hid (show Below w.heap.size w w4 from HB4.out)
    go_wp2_with (at_builtin; first | (refine ap_sl rfl (.tmp 18) (.tmp 20) rfl w.heap.size v1 n4 w4.heap.size v4 s4 rfl rfl HO4.out.slB HO1y.out HB4'.out hz4 hl3 ?_; intro v5 w5 hO5 hB5 hz5 _) | (refine ap_sl rfl (.tmp 21) (.tmp 22) rfl w.heap.size _ _ w.heap.size _ l rfl rfl (HV.out.below hB5) hO5 hB5 hz5 hl4 ?_; intro v6 w6 hO6 hB6 hz6 _))
    go_ret
    exact ⟨_, rfl, by rw [E.out, ← HS4.out] at *; exact hO6, hB6⟩


def unframeR (o : List UInt8 × Nat × Int) (base : Nat) (w : World) (e : Ending) (w' : World) : Prop := ∃ v, e = .returned (.tuple #[v, .int .i64 (o.2.1 : Int), .int .i64 o.2.2]) ∧ OwnB w' base v o.1 ∧ Below base w w'
set_option maxHeartbeats 1000000 in
theorem rUnframe_any (v : Value) (l : List UInt8) (w : World) (hv : SlB w.heap.size w v l) (hl : l.length ≤ 1000000) :
    Calls Tryd.prog 59 #[v] w (unframeV (unframeL l) w.heap.size w) := by
  have HV := Lib.hid hv
  obtain ⟨a, c, rfl, hc, hx⟩ := hv.ex
  clear hv
  by_cases h8 : l.length < 8
  · have e : unframeL l = ([], 0, 10) := by unfold unframeL; rw [if_pos h8]
    rw [e]
    clear hx
    go_enter Tryd.func59, Tryd.ntmps59
    go_wp2_with fail
    go_ret3
    exact ⟨_, rfl, OwnB.nil _ _, Below.refl _ _⟩
  · have F := Lib.hid (rFourth_any (.slice a l.length c) l w.heap.size w HV.out (by omega) hl)
    have hr := num32_range (l.take 4) (by rw [List.length_take]; omega)
    obtain ⟨g, o, rfl, hg, hcell⟩ := hx (by omega)
    clear hcell
    have hU : unframeL l = if 262144 < num32 (l.take 4) then ([], 0, 6) else if (l.length : Int) - 8 < num32 (l.take 4) then ([], 0, 10)
      else if sealL (l.take 4) ((l.drop 8).take (num32 (l.take 4)).toNat) ≠ num32 ((l.drop 4).take 4) then ([], 0, 8)
      else ((l.drop 8).take (num32 (l.take 4)).toNat, (num32 (l.take 4)).toNat + 8, 0) := by unfold unframeL; rw [if_neg h8]
    generalize num32 (l.take 4) = n at *
    obtain ⟨m, rfl⟩ : ∃ m : Nat, n = m := ⟨n.toNat, by omega⟩
    rw [Int.toNat_natCast] at hU
    have HU := Lib.hid hU; have hm32 : (m : Int) ≤ 4294967295 := by omega
    clear hU hr
    by_cases h1 : 262144 < m
    · have e := Lib.hid (HU.out.trans (if_pos (by omega)))
      go_enter Tryd.func59, Tryd.ntmps59
      go_wp2_with fail
      refine F.out.mono ?_
      rintro e w1 ⟨rfl, nd, rfl⟩
      go_wp2_with fail
      go_ret3
      rw [e.out]
      exact ⟨_, rfl, OwnB.nil _ _, below_drewN (Below.refl _ _) _⟩
    · replace HU := Lib.hid (HU.out.trans (if_neg (by omega)))
      by_cases h2 : l.length < m + 8
      · have e := Lib.hid (HU.out.trans (if_pos (by omega)))
        have q1 : ¬ (262144 : Int) < (m : Int) := by omega
        have q2 : (l.length : Int) - 8 < (m : Int) := by omega
        go_enter Tryd.func59, Tryd.ntmps59
        go_wp2_with fail
        refine F.out.mono ?_
        rintro e w1 ⟨rfl, nd, rfl⟩
        go_wp2_with fail
        go_ret3
        rw [e.out]
        exact ⟨_, rfl, OwnB.nil _ _, below_drewN (Below.refl _ _) _⟩
      · replace HU := Lib.hid (HU.out.trans (if_neg (by omega)))
        have r4 := fun W => SlB.head4_run (a := some ⟨g, o, none⟩) (n := l.length) (c := c) (by omega) hc W
        rw [show (some (⟨g, o, none⟩ : Addr)).map (·.add 0) = some ⟨g, o, none⟩ from rfl] at r4
        obtain ⟨A8, hA8⟩ := cut_some ⟨g, o, none⟩ c 8
        have r8 : ∀ W, (Instr.slice 25 (.slice (some ⟨g, o, none⟩) l.length c) (some (.int .i64 8)) (some (.int .i64 (8 + (m : Int)))) none).run Tryd.prog W = .ok (.slice (some A8) m (c - 8)) W := fun W => by rw [← hA8]; exact mid_run (a := some ⟨g, o, none⟩) (n := l.length) (c := c) (i := 8) (k := m) (by omega) W (8 + m) (by omega)
        have rd : ∀ W, (Instr.slice 25 (.slice (some ⟨g, o, none⟩) l.length c) (some (.int .i64 4)) (some (.int .i64 8)) none).run Tryd.prog W = .ok (.slice (some ⟨g, o + 4, none⟩) 4 (c - 4)) W := fun W => by
          have := mid_run (a := some ⟨g, o, none⟩) (n := l.length) (c := c) (i := 4) (k := 4) (by omega) W 8 (by omega)
          rw [if_neg (by omega)] at this
          exact this
        have S4 : SlB w.heap.size w (.slice (some ⟨g, o, none⟩) 4 c) (l.take 4) := HV.out.head 4 (by omega) rfl
        have C4 := HV.out.cut 4 (by omega)
        have C8 := HV.out.cut 8 (by omega)
        have eq4 : cutV (.slice (some ⟨g, o, none⟩) l.length c) 4 = .slice (some ⟨g, o + 4, none⟩) (l.length - 4) (c - 4) := by
          simp only [cutV]; rw [if_neg (by omega)]; simp [Addr.add]
        have eq8 : cutV (.slice (some ⟨g, o, none⟩) l.length c) 8 = .slice (some A8) (l.length - 8) (c - 8) := by
          rw [← hA8]; rfl
        rw [eq4] at C4
        rw [eq8] at C8
        have S8 : SlB w.heap.size w (.slice (some A8) m (c - 8)) ((l.drop 8).take m) := C8.head m (by rw [List.length_drop]; omega) rfl
        have S44 : SlB w.heap.size w (.slice (some ⟨g, o + 4, none⟩) 4 (c - 4)) ((l.drop 4).take 4) := C4.head 4 (by rw [List.length_drop]; omega) rfl
        have hlb : ((l.drop 8).take m).length ≤ 1000000 := by rw [List.length_take, List.length_drop]; omega
        have hl4 : (l.take 4).length = 4 := by rw [List.length_take]; omega
        have hl44 : ((l.drop 4).take 4).length = 4 := by rw [List.length_take, List.length_drop]; omega
        have SM := Lib.hid (fun W v2 (h : SlB W.heap.size W v2 (l.take 4 ++ (l.drop 8).take m)) => rSum_any v2 _ W.heap.size W h (by rw [List.length_append, hl4]; omega))
        have F4 := Lib.hid (fun W (h : Below w.heap.size w W) => rFourth_any _ _ w.heap.size W (S44.below h) (by omega) (by omega))
        have tk : ((l.drop 4).take 4).take 4 = (l.drop 4).take 4 := List.take_of_length_le (by omega)
        rw [tk] at F4
        have SA := seal_app (l.take 4) ((l.drop 8).take m)
        rw [← SA] at SM
        have S8' := Lib.hid S8; have S4' := Lib.hid S4; have HL4 := Lib.hid hl4; have HLB := Lib.hid hlb
        clear S4 S8 C4 C8 eq4 eq8 hA8 S44 hl4 hl44 tk SA hlb
        generalize sealL (l.take 4) ((l.drop 8).take m) = sl at *
        generalize num32 ((l.drop 4).take 4) = nm at *
        generalize (l.drop 8).take m = body at *
        generalize l.take 4 = hd at *
        have q1 : ¬ (262144 : Int) < (m : Int) := by omega
        have q2 : ¬ (l.length : Int) - 8 < (m : Int) := by omega
        go_enter Tryd.func59, Tryd.ntmps59
        go_wp2_with fail
        refine F.out.mono ?_
        rintro e w1 ⟨rfl, nd, rfl⟩
        have HB0 := Lib.hid (below_drewN (Below.refl w.heap.size w) nd)
        generalize hw1 : w.drewN nd = w1 at *
        have hsw : w.heap.size ≤ w1.heap.size := by rw [← hw1]; exact Nat.le_refl _
        clear hw1
        have HSW := Lib.hid hsw; clear hsw
        have HLT := Lib.hid (OwnB.lit w1 w1.heap.size #[] [] 0 (Nat.le_refl _) rfl (by simp) (by simp [bcells]))
        have HBT := Lib.hid (below_alloc (Below.refl _ w1) (.cells #[] 5))
        have hl2 : ([] : List UInt8).length + body.length ≤ 140737488355328 := by have := HLB.out; simp; omega
        have S8x := Lib.hid ((S8'.out.below (below_al HB0.out (.cells #[] 5) HSW.out)))
        go_wp2_with (at_builtin; go_must (refine ap_sl rfl (.tmp 22) (.tmp 26) rfl w1.heap.size (.slice (some ⟨w1.heap.size, 0, none⟩) 0 0) [] w.heap.size _ body rfl rfl S8x.out HLT.out HBT.out HBT.out.size hl2 ?_); intro v2 w2 hO2 hB2 hz2 _)
        rw [List.nil_append] at hO2
        have HO2 := Lib.hid hO2
        have HB2 := Lib.hid (show Below w.heap.size w w2 from HB0.out.trans (hB2.mono HSW.out))
        clear hO2 hB2 hz2 HLT HBT S8x
        have HD := Lib.hid (show 0 < hd.length by have := HL4.out; omega)
        have HD2 := Lib.hid (show hd.length ≤ 140737488355328 by have := HL4.out; omega)
        have HD3 := Lib.hid (show hd.length + body.length ≤ 140737488355328 by have := HL4.out; have := HLB.out; omega)
        have HO2s := Lib.hid HO2.out.slB
        clear HL4 HLB
        go_region_held3 (fun w' => InW w2 w')
          (repeat (first
            | exact InW.refl _
            | with_reducible assumption
            | refine InW.drew ?_
            | refine InW.drewN ?_ _
            | refine InW.al ?_ _
            | exact InW.tr (by with_reducible assumption) (by with_reducible assumption)
            | refine InW.grown ?_ (by with_reducible assumption) (by first | (intro k hk; cases hk; done) | (intro k hk; exact OwnB.base hO3' k hk))))
          (first
            | (refine st_grow (by rfl) (.tmp 28) (.tmp 30) (by rfl) _ w.heap.size _ hd (by rfl) (by rfl) (S4'.out.below (HB2.out.trans ((‹InW w2 _› : Below _ _ _).mono HB2.out.size))) HD.out HD2.out ?_; intro v3 w3 hO3 hg3; have hO3' := OwnB.weaken hO3 (Below.size (‹InW w2 _› : Below _ _ _)); clear hO3)
            | (refine st_sl (by rfl) (.tmp 31) (.tmp 32) (by rfl) w2.heap.size v3 hd w2.heap.size v2 body (by rfl) (by rfl) (HO2s.out.below (‹InW w2 _› : Below _ _ _)) hO3' (Below.size (‹InW w2 _› : Below _ _ _)) HD3.out ?_; intro v4 w4 hO4 hg4)
            | (go_at_call 99; refine (F4.out _ (HB2.out.trans ((‹InW w2 _› : Below _ _ _).mono HB2.out.size))).mono ?_; rintro e w' ⟨rfl, nq, rfl⟩)
            | (go_at_call 97; refine (SM.out _ _ (OwnB.slB hO4)).mono ?_; rintro e w' ⟨rfl, rfl⟩))
        have HF := (‹InW w2 _› : Below _ _ _)
        have HFB := Lib.hid (HB2.out.trans (HF.mono HB2.out.size))
        have HO2f := Lib.hid ((HO2.out.below HF).weaken HSW.out)
        clear HF hg3 hO3' hO4 hg4
        by_cases h3 : sl = nm
        · have e := Lib.hid (HU.out.trans (if_neg (by simp [h3])))
          subst h3
          have hnn := bne_self_eq_false sl
          go_wp2_with fail
          go_ret3
          rw [e.out]
          exact ⟨_, ret_unf (show (m : Int) + 8 = ((m + 8 : Nat) : Int) by omega), HO2f.out, HFB.out⟩
        · have e := Lib.hid (HU.out.trans (if_pos h3))
          have hnn : (sl != nm) = true := by rw [bne_iff_ne]; exact h3
          go_wp2_with fail
          go_ret3
          rw [e.out]
          exact ⟨_, rfl, OwnB.nil _ _, HFB.out⟩
end Go.Proofs.YtkmcjainbhmbdaaDoor
