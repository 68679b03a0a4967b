/- Contracts of the codec's Frame and Unframe. Conditions: lengths leave room. Contracts of the codec's Unframe. Condition: at most a million bytes. Contracts of the reference's Frame and Unframe. Conditions: lengths leave room. -/
import Derived.Test.YtefndmjimmbhnaaZ04
import Derived.Laws.MakeOwn
section
set_option linter.unusedVariables false
set_option linter.unusedSimpArgs false
set_option maxRecDepth 20000
namespace Go.Proofs.Ytefndmjimmbhnaa
open Go.RowKit

set_option maxHeartbeats 1000000 in
theorem Frame_any (v : Value) (l : List UInt8) (w : World) (hv : SlB w.heap.size w v l) (hl : l.length ≤ 1000000) :
    Calls Try.prog 50 #[v] w (RetB w.heap.size w (frameL l)) := by
  have HV := Lib.hid hv
  obtain ⟨a, c, rfl, hc, hx⟩ := hv.ex
  clear hx hv
  by_cases hg : 262144 < l.length
  · have e : frameL l = [] := if_neg (by omega)
    rw [e]
    go_enter Try.func50, Try.ntmps50
    go_wp2_with fail
    go_ret
    exact ⟨_, rfl, OwnB.nil _ _, Below.refl _ _⟩
  · have e : frameL l = fourL l.length ++ fourL (sealL (fourL l.length) l) ++ l := if_pos (by omega)
    have hsr := sealL_range (fourL l.length) l
    obtain ⟨i0, hi, hz0, hz1, hz2⟩ := info_parts infoByte
    obtain ⟨w1, hmk, hO1, hg1⟩ := run_make_own (P := Try.prog) (w := w) w.heap.size 69 5 i0 _ 1 Try.underlying69 hi hz0 hz1 .i64 .i64 (l.length + 8) (by rw [hz2]; omega) (by unfold maxLen; omega) (Nat.le_refl _)
    rw [show ((l.length + 8 : Nat) : Int) = (l.length : Int) + 8 by omega] at hmk
    clear hi hz0 hz1 hz2 i0
    have hb1 : Below w.heap.size w w1 := (Below.refl _ w).grown hg1 (Nat.le_refl _) (fun k hk => by cases hk)
    clear hg1
    have F1 := Lib.hid (four_any w.heap.size _ [] (l.length : Int) w1 hO1 hb1.size (by omega) (by omega) (by simp))
    have HSL := Lib.hid (fun W v2 (hO : OwnB W w.heap.size v2 (fourL l.length)) (hb : Below w.heap.size w W) => seal_any v2 (.slice a l.length c) (fourL l.length) l W.heap.size W hO.slB (HV.out.keep hb) (by rw [fourL_length]; omega) hl)
    have F2 := Lib.hid (fun W v2 (hO : OwnB W w.heap.size v2 (fourL l.length)) (hb : Below w.heap.size w W) => four_any w.heap.size v2 (fourL l.length) (sealL (fourL l.length) l) W hO hb.size hsr.1 hsr.2 (by rw [fourL_length]; omega))
    have hlen : (fourL l.length ++ fourL (sealL (fourL l.length) l)).length + l.length ≤ 140737488355328 := by rw [List.length_append, fourL_length, fourL_length]; omega
    have E := Lib.hid e; clear e
    clear hO1
    have HB1 := Lib.hid hb1; clear hb1
    go_enter Try.func50, Try.ntmps50
    go_wp2_with fail
    clear hmk
    refine F1.out.mono ?_
    rintro e w2 ⟨v2, rfl, hO2, hb2⟩
    rw [List.nil_append] at hO2
    have HO2 := Lib.hid hO2; have HB2 := Lib.hid (HB1.out.trans hb2); clear hO2 hb2
    go_wp2_with fail
    refine (HSL.out w2 v2 HO2.out HB2.out).mono ?_
    rintro e w2_ ⟨rfl, rfl⟩
    go_wp2_with fail
    refine (F2.out w2 v2 HO2.out HB2.out).mono ?_
    rintro e w3 ⟨v3, rfl, hO3, hb3⟩
    have HO3 := Lib.hid hO3; have HB3 := Lib.hid (HB2.out.trans hb3); clear hO3 hb3
    go_wp2_with (at_builtin; go_must (refine ap_sl rfl (.tmp 19) (.tmp 20) rfl w.heap.size v3 _ w3.heap.size _ l rfl rfl (HV.out.keep HB3.out) HO3.out HB3.out HB3.out.size hlen ?_); intro v4 w4 hO4 hB4 hz4 _)
    go_ret
    exact ⟨_, rfl, by rw [E.out]; exact hO4, hB4⟩
end Go.Proofs.Ytefndmjimmbhnaa
end

section
set_option linter.unusedVariables false
set_option linter.unusedSimpArgs false
set_option maxRecDepth 20000
namespace Go.Proofs.Ytefndmjimmbhnaa
open Go.RowKit

/-- 'v[4:]', 'v[:4]', 'v[8:8+n]' of bytes that came in. -/
theorem SlB.head {B : Nat} {w : World} {v : Value} {l : List UInt8} (h : SlB B w v l) (k : Nat) (hk : k ≤ l.length) : ∀ {a : Option Addr} {n c : Nat}, v = .slice a n c → SlB B w (.slice a k c) (l.take k) := by
  intro a n c hv
  obtain ⟨a', c', hv', hc, hx⟩ := h.ex
  rw [hv] at hv'
  injection hv' with e1 e2 e3
  subst e1 e2 e3
  refine ⟨a, c, by rw [List.length_take, Nat.min_eq_left hk], by rw [List.length_take]; omega, fun h0 => ?_⟩
  rw [List.length_take] at h0
  obtain ⟨g, o, ea, hg, hcell⟩ := hx (by omega)
  refine ⟨g, o, ea, hg, fun j hj => ?_⟩
  rw [List.length_take] at hj
  rw [hcell j (by omega), List.getElem_take]
theorem mid_run {a : Option Addr} {n c i k : Nat} (hk : i + k ≤ c) (W : World) (y : Int) (hy : y = (i + k : Nat)) :
    (Instr.slice 69 (.slice a n c) (some (.int .i64 (i : Int))) (some (.int .i64 y)) none).run Try.prog W = .ok (.slice (if c = i then a else a.map (·.add i)) k (c - i)) W := by
  subst hy
  rw [run_slice_lh W _ _ _ _ undByte .i64 .i64 _ _ (by omega) (by omega) (by omega), sizeByte]
  have e : ((i + k : Nat) : Int).toNat = i + k := by omega
  simp only [Result.andThen, sliced, e, Int.toNat_natCast, Nat.mul_one, Nat.add_sub_cancel_left]
theorem cut_some (a : Addr) (c i : Nat) : ∃ A, (if c = i then some a else (some a).map (·.add i)) = some A := by
  by_cases h : c = i
  · exact ⟨a, if_pos h⟩
  · exact ⟨a.add i, by rw [if_neg h]; rfl⟩

def unframeV (o : List UInt8 × Nat × Int) (base : Nat) (w : World) (e : Ending) (w' : World) : Prop := ∃ v, e = .returned (.tuple #[v, .int .i64 (o.2.1 : Int), .int .i64 o.2.2]) ∧ OwnB w' base v o.1 ∧ Below base w w'
theorem ret_unf {v : Value} {n m k : Int} (h : n = m) : Ending.returned (.tuple #[v, .int .i64 n, .int .i64 k]) = Ending.returned (.tuple #[v, .int .i64 m, .int .i64 k]) := by rw [h]
set_option maxHeartbeats 1000000 in
theorem Unframe_any (v : Value) (l : List UInt8) (w : World) (hv : SlB w.heap.size w v l) (hl : l.length ≤ 1000000) :
    Calls Try.prog 39 #[v] w (unframeV (unframeL l) w.heap.size w) := by
  have HV := Lib.hid hv
  obtain ⟨a, c, rfl, hc, hx⟩ := hv.ex
  clear hv
  by_cases h8 : l.length < 8
  · have e : unframeL l = ([], 0, 10) := by unfold unframeL; rw [if_pos h8]
    rw [e]
    clear hx
    go_enter Try.func39, Try.ntmps39
    go_wp2_with fail
    go_ret3
    exact ⟨_, rfl, OwnB.nil _ _, Below.refl _ _⟩
  · have F := Lib.hid (fourth_any (.slice a l.length c) l w.heap.size w HV.out (by omega) hl)
    have hr := num32_range (l.take 4) (by rw [List.length_take]; omega)
    obtain ⟨g, o, rfl, hg, hcell⟩ := hx (by omega)
    clear hcell
    have hU : unframeL l = if 262144 < num32 (l.take 4) then ([], 0, 6) else if (l.length : Int) - 8 < num32 (l.take 4) then ([], 0, 10)
      else if sealL (l.take 4) ((l.drop 8).take (num32 (l.take 4)).toNat) ≠ num32 ((l.drop 4).take 4) then ([], 0, 8)
      else ((l.drop 8).take (num32 (l.take 4)).toNat, (num32 (l.take 4)).toNat + 8, 0) := by unfold unframeL; rw [if_neg h8]
    generalize num32 (l.take 4) = n at *
    obtain ⟨m, rfl⟩ : ∃ m : Nat, n = m := ⟨n.toNat, by omega⟩
    rw [Int.toNat_natCast] at hU
    have HU := Lib.hid hU; have hm32 : (m : Int) ≤ 4294967295 := by omega
    clear hU hr
    by_cases h1 : 262144 < m
    · have e := Lib.hid (HU.out.trans (if_pos (by omega)))
      go_enter Try.func39, Try.ntmps39
      go_wp2_with fail
      refine F.out.mono ?_
      rintro e w1 ⟨rfl, rfl⟩
      go_wp2_with fail
      go_ret3
      rw [e.out]
      exact ⟨_, rfl, OwnB.nil _ _, Below.refl _ _⟩
    · replace HU := Lib.hid (HU.out.trans (if_neg (by omega)))
      by_cases h2 : l.length < m + 8
      · have e := Lib.hid (HU.out.trans (if_pos (by omega)))
        have q1 : ¬ (262144 : Int) < (m : Int) := by omega
        have q2 : (l.length : Int) - 8 < (m : Int) := by omega
        go_enter Try.func39, Try.ntmps39
        go_wp2_with fail
        refine F.out.mono ?_
        rintro e w1 ⟨rfl, rfl⟩
        go_wp2_with fail
        go_ret3
        rw [e.out]
        exact ⟨_, rfl, OwnB.nil _ _, Below.refl _ _⟩
      · replace HU := Lib.hid (HU.out.trans (if_neg (by omega)))
        have r4 := fun W => SlB.head4_run (a := some ⟨g, o, none⟩) (n := l.length) (c := c) (by omega) hc W
        rw [show (some (⟨g, o, none⟩ : Addr)).map (·.add 0) = some ⟨g, o, none⟩ from rfl] at r4
        obtain ⟨A8, hA8⟩ := cut_some ⟨g, o, none⟩ c 8
        have r8 : ∀ W, (Instr.slice 69 (.slice (some ⟨g, o, none⟩) l.length c) (some (.int .i64 8)) (some (.int .i64 (8 + (m : Int)))) none).run Try.prog W = .ok (.slice (some A8) m (c - 8)) W := fun W => by rw [← hA8]; exact mid_run (a := some ⟨g, o, none⟩) (n := l.length) (c := c) (i := 8) (k := m) (by omega) W (8 + m) (by omega)
        have rd : ∀ W, (Instr.slice 69 (.slice (some ⟨g, o, none⟩) l.length c) (some (.int .i64 4)) none none).run Try.prog W = .ok (cutV (.slice (some ⟨g, o, none⟩) l.length c) 4) W := fun W => HV.out.cut_run 4 (by omega) W
        have S4 : SlB w.heap.size w (.slice (some ⟨g, o, none⟩) 4 c) (l.take 4) := HV.out.head 4 (by omega) rfl
        have C4 := HV.out.cut 4 (by omega)
        have C8 := HV.out.cut 8 (by omega)
        have eq4 : cutV (.slice (some ⟨g, o, none⟩) l.length c) 4 = .slice (some ⟨g, o + 4, none⟩) (l.length - 4) (c - 4) := by
          simp only [cutV]; rw [if_neg (by omega)]; simp [Addr.add]
        have eq8 : cutV (.slice (some ⟨g, o, none⟩) l.length c) 8 = .slice (some A8) (l.length - 8) (c - 8) := by
          rw [← hA8]; rfl
        rw [eq4] at C4 rd
        rw [eq8] at C8
        have S8 : SlB w.heap.size w (.slice (some A8) m (c - 8)) ((l.drop 8).take m) := C8.head m (by rw [List.length_drop]; omega) rfl
        have SE := Lib.hid (fun W (h : Below w.heap.size w W) => seal_any _ _ _ _ w.heap.size W (S4.below h) (S8.below h) (by rw [List.length_take]; omega) (by rw [List.length_take, List.length_drop]; omega))
        have F4 := Lib.hid (fun W (h : Below w.heap.size w W) => fourth_any _ _ w.heap.size W (C4.below h) (by rw [List.length_drop]; omega) (by rw [List.length_drop]; omega))
        have S8' := Lib.hid S8
        have hl2 : ([] : List UInt8).length + ((l.drop 8).take m).length ≤ 140737488355328 := by rw [List.length_take, List.length_drop]; simp; omega
        have q1 : ¬ (262144 : Int) < (m : Int) := by omega
        have q2 : ¬ (l.length : Int) - 8 < (m : Int) := by omega
        clear S4 S8 C4 C8 eq4 eq8 hA8
        generalize sealL (l.take 4) ((l.drop 8).take m) = sl at *
        generalize num32 ((l.drop 4).take 4) = nm at *
        generalize (l.drop 8).take m = body at *
        by_cases h3 : sl = nm
        · have e := Lib.hid (HU.out.trans (if_neg (by simp [h3])))
          subst h3
          have hnn := bne_self_eq_false sl
          go_enter Try.func39, Try.ntmps39
          go_wp2_with fail
          refine F.out.mono ?_
          rintro e w1 ⟨rfl, rfl⟩
          go_wp2_with fail
          go_quiet ((first | (go_at_call 62; exact Calls.quiet_of_same ((SE.out _ (by first | exact Below.refl _ _ | exact below_drewN (Below.refl _ _) _)).mono (fun e w' h => ⟨h.1, h.2.symm⟩))) | (go_at_call 61; exact Calls.quiet_of_same ((F4.out _ (by first | exact Below.refl _ _ | exact below_drewN (Below.refl _ _) _)).mono (fun e w' h => ⟨h.1, h.2.symm⟩)))))
          have HBq := Lib.hid (below_drewN (Below.refl w.heap.size w) nq)
          have hbq : w.heap.size ≤ (w.drewN nq).heap.size := Nat.le_refl _
          go_wp2_with (at_builtin; go_must (refine ap_sl rfl (.const (.slice none 0 0)) (.tmp 36) rfl w.heap.size (.slice none 0 0) [] w.heap.size _ body rfl rfl (S8'.out.below HBq.out) (OwnB.nil _ _) HBq.out hbq hl2 ?_); intro v4 w4 hO4 hB4 hz4 _)
          go_ret3
          rw [e.out]
          rw [List.nil_append] at hO4
          exact ⟨_, ret_unf (show (m : Int) + 8 = ((m + 8 : Nat) : Int) by omega), hO4, hB4⟩
        · have e := Lib.hid (HU.out.trans (if_pos h3))
          have hnn : (sl != nm) = true := by rw [bne_iff_ne]; exact h3
          go_enter Try.func39, Try.ntmps39
          go_wp2_with fail
          refine F.out.mono ?_
          rintro e w1 ⟨rfl, rfl⟩
          go_wp2_with fail
          go_quiet ((first | (go_at_call 62; exact Calls.quiet_of_same ((SE.out _ (by first | exact Below.refl _ _ | exact below_drewN (Below.refl _ _) _)).mono (fun e w' h => ⟨h.1, h.2.symm⟩))) | (go_at_call 61; exact Calls.quiet_of_same ((F4.out _ (by first | exact Below.refl _ _ | exact below_drewN (Below.refl _ _) _)).mono (fun e w' h => ⟨h.1, h.2.symm⟩)))))
          go_wp2_with fail
          go_ret3
          rw [e.out]
          exact ⟨_, rfl, OwnB.nil _ _, below_drewN (Below.refl _ _) _⟩
end Go.Proofs.Ytefndmjimmbhnaa
end

section
set_option linter.unusedVariables false
set_option linter.unusedSimpArgs false
set_option maxRecDepth 20000
namespace Go.Proofs.Ytefndmjimmbhnaa
open Go.RowKit

def unframeR (o : List UInt8 × Nat × Int) (base : Nat) (w : World) (e : Ending) (w' : World) : Prop := ∃ v, e = .returned (.tuple #[v, .int .i64 (o.2.1 : Int), .int .i64 o.2.2]) ∧ OwnB w' base v o.1 ∧ Below base w w'
end Go.Proofs.Ytefndmjimmbhnaa
end
