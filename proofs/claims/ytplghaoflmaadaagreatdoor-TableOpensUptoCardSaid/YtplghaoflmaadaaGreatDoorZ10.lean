/- Contracts of the codec's Zig, Zag, text, PutText, GetText, Sum and of the reference's. Conditions: numbers of their kinds; lengths leave room. A law of regions that draw their order: all operations but a forced tail read, or call what only makes new memory; the tail is walked in its one order. It speaks of no program; no condition. Slices that a call owns: stores of whole elements, and what the library's sort leaves. No condition. -/
import Derived.Test.YtplghaoflmaadaaGreatDoorZ09
import Derived.Test.YtplghaoflmaadaaGreatDoorZ01
import Derived.Lib.QuietBelow
import Derived.StillTail
import Derived.Shelf.SlSortCmp.NoneTotal
section
set_option linter.unusedVariables false
set_option linter.unusedSimpArgs false
set_option maxRecDepth 20000
namespace Go.Proofs.YtplghaoflmaadaaGreatDoor
open Go.RowKit

theorem wu64 (x : Int) : IntKind.u64.wrap x = x % 18446744073709551616 := by rw [IntKind.wrap_u64]
theorem xor64_0 (a : Nat) (h : a < 18446744073709551616) : Go.bits .xor .u64 (a : Int) 0 = (a : Int) := by
  show IntKind.wrap .u64 ((BitVec.ofInt 64 (a : Int) ^^^ BitVec.ofInt 64 0).toNat : Int) = _
  rw [show BitVec.ofInt 64 0 = 0#64 from by decide, BitVec.xor_zero, BitVec.ofInt_natCast, BitVec.toNat_ofNat, Nat.mod_eq_of_lt h, wu64]
  omega
theorem xor64_1 (a : Nat) (h : a < 18446744073709551616) : Go.bits .xor .u64 (a : Int) 18446744073709551615 = ((18446744073709551615 - a : Nat) : Int) := by
  have e : (BitVec.ofInt 64 (a : Int) ^^^ BitVec.ofInt 64 18446744073709551615).toNat = 18446744073709551615 - a := by
    rw [show BitVec.ofInt 64 18446744073709551615 = BitVec.allOnes 64 from by decide, BitVec.xor_allOnes, BitVec.toNat_not, BitVec.ofInt_natCast, BitVec.toNat_ofNat, Nat.mod_eq_of_lt (by omega)]
  show IntKind.wrap .u64 ((BitVec.ofInt 64 (a : Int) ^^^ BitVec.ofInt 64 18446744073709551615).toNat : Int) = _
  rw [e, wu64]
  omega
theorem zig_val (n : Int) (h : In64 n) : Go.bits .xor .u64 (IntKind.u64.wrap (IntKind.u64.wrap n * 2)) (IntKind.u64.wrap (n / 9223372036854775808)) = (zigN n : Int) := by
  unfold In64 at h
  by_cases h0 : n < 0
  · have e1 : IntKind.u64.wrap (n / 9223372036854775808) = 18446744073709551615 := by rw [wu64]; omega
    obtain ⟨a, ha⟩ : ∃ a : Nat, IntKind.u64.wrap (IntKind.u64.wrap n * 2) = a := ⟨(IntKind.u64.wrap (IntKind.u64.wrap n * 2)).toNat, by rw [wu64, wu64]; omega⟩
    rw [ha, e1, xor64_1 a (by rw [wu64, wu64] at ha; omega)]
    rw [wu64, wu64] at ha
    unfold zigN
    rw [if_pos h0]
    omega
  · have e1 : IntKind.u64.wrap (n / 9223372036854775808) = 0 := by rw [wu64]; omega
    obtain ⟨a, ha⟩ : ∃ a : Nat, IntKind.u64.wrap (IntKind.u64.wrap n * 2) = a := ⟨(IntKind.u64.wrap (IntKind.u64.wrap n * 2)).toNat, by rw [wu64, wu64]; omega⟩
    rw [ha, e1, xor64_0 a (by rw [wu64, wu64] at ha; omega)]
    rw [wu64, wu64] at ha
    unfold zigN
    rw [if_neg h0]
    omega
theorem and64_1 (u : Nat) (h : u < 18446744073709551616) : Go.bits .and .u64 (u : Int) 1 = ((u % 2 : Nat) : Int) := by
  have e : (BitVec.ofInt 64 (u : Int) &&& BitVec.ofInt 64 1).toNat = u % 2 := by
    rw [show BitVec.ofInt 64 1 = 1#64 from by decide, BitVec.toNat_and, BitVec.ofInt_natCast, BitVec.toNat_ofNat, Nat.mod_eq_of_lt (by omega)]
    exact Nat.and_one_is_mod u
  show IntKind.wrap .u64 ((BitVec.ofInt 64 (u : Int) &&& BitVec.ofInt 64 1).toNat : Int) = _
  rw [e, wu64]
  omega
theorem zag_val (u : Nat) (h : u < 18446744073709551616) : Go.bits .xor .i64 ((u : Int) / 2) (wrap64 (-wrap64 (Go.bits .and .u64 (u : Int) 1))) = zagI u := by
  rw [and64_1 u h]
  obtain ⟨a, ha⟩ : ∃ a : Nat, (u : Int) / 2 = a := ⟨u / 2, by omega⟩
  have hlt : a < 9223372036854775808 := by omega
  rcases Nat.mod_two_eq_zero_or_one u with h1 | h1
  · rw [h1, ha, show wrap64 (-wrap64 ((0 : Nat) : Int)) = 0 from by unfold wrap64; omega]
    show IntKind.wrap .i64 ((BitVec.ofInt 64 (a : Int) ^^^ BitVec.ofInt 64 0).toNat : Int) = _
    rw [show BitVec.ofInt 64 0 = 0#64 from by decide, BitVec.xor_zero, BitVec.ofInt_natCast, BitVec.toNat_ofNat, Nat.mod_eq_of_lt (by omega)]
    unfold zagI
    rw [if_neg (by omega)]
    rw [IntKind.wrap_i64]
    omega
  · rw [h1, ha, show wrap64 (-wrap64 ((1 : Nat) : Int)) = -1 from by unfold wrap64; omega]
    have e : (BitVec.ofInt 64 (a : Int) ^^^ BitVec.ofInt 64 (-1)).toNat = 18446744073709551615 - a := by
      rw [show BitVec.ofInt 64 (-1) = BitVec.allOnes 64 from by decide, BitVec.xor_allOnes, BitVec.toNat_not, BitVec.ofInt_natCast, BitVec.toNat_ofNat, Nat.mod_eq_of_lt (by omega)]
    show IntKind.wrap .i64 ((BitVec.ofInt 64 (a : Int) ^^^ BitVec.ofInt 64 (-1)).toNat : Int) = _
    rw [e]
    unfold zagI
    rw [if_pos h1]
    rw [IntKind.wrap_i64]
    omega
theorem Zig_any (n : Int) (h : In64 n) (w : World) : Calls Tryz.prog 81 #[.int .i64 n] w fun e w' => e = .returned (.int .u64 (zigN n : Int)) ∧ w = w' := by
  have hz := zig_val n h
  have HZ := Lib.hid hz; clear hz
  unfold In64 at h
  go_enter Tryz.func81, Tryz.ntmps81
  go_wp2_with fail
  go_ret
  exact ⟨ret_i HZ.out, rfl⟩
theorem Zag_any (u : Nat) (h : u < 18446744073709551616) (w : World) : Calls Tryz.prog 151 #[.int .u64 (u : Int)] w fun e w' => e = .returned (.int .i64 (zagI u)) ∧ w = w' := by
  have hz := zag_val u h
  have HZ := Lib.hid hz; clear hz
  have hu : (u : Int) < 18446744073709551616 := by omega
  go_enter Tryz.func151, Tryz.ntmps151
  go_wp2_with fail
  go_ret
  exact ⟨ret_i HZ.out, rfl⟩
theorem rZig_any (n : Int) (h : In64 n) (w : World) : Calls Tryz.prog 90 #[.int .i64 n] w fun e w' => e = .returned (.int .u64 (zigN n : Int)) ∧ w = w' := by
  unfold In64 at h
  by_cases h0 : n < 0
  all_goals
    go_enter Tryz.func90, Tryz.ntmps90
    go_wp2_with fail
    go_ret
    refine ⟨ret_i ?_, rfl⟩
    unfold zigN
    first | rw [if_pos h0] | rw [if_neg (by omega)]
    omega
theorem rZag_any (u : Nat) (h : u < 18446744073709551616) (w : World) : Calls Tryz.prog 142 #[.int .u64 (u : Int)] w fun e w' => e = .returned (.int .i64 (zagI u)) ∧ w = w' := by
  have hu : (u : Int) < 18446744073709551616 := by omega
  have hz : zagI u = if u % 2 = 1 then -((u / 2 : Nat) : Int) - 1 else ((u / 2 : Nat) : Int) := rfl
  by_cases h0 : u % 2 = 1
  · rw [if_pos h0] at hz
    have q : ((u : Int) % 2 == 1) = true := by rw [beq_iff_eq]; omega
    have HZ := Lib.hid hz; clear hz h0
    go_enter Tryz.func142, Tryz.ntmps142
    go_wp2_with fail
    go_ret
    exact ⟨ret_i (by rw [HZ.out]; omega), rfl⟩
  · rw [if_neg h0] at hz
    have q : ((u : Int) % 2 == 1) = false := by rw [beq_eq_false_iff_ne]; omega
    have HZ := Lib.hid hz; clear hz h0
    go_enter Tryz.func142, Tryz.ntmps142
    go_wp2_with fail
    go_ret
    exact ⟨ret_i (by rw [HZ.out]; omega), rfl⟩
theorem cSum_any (v : Value) (l : List UInt8) (B : Nat) (w : World) (hv : SlB B w v l) (hl : l.length ≤ 1000000) :
    Calls Tryz.prog 43 #[v] w fun e w' => e = .returned (.int .u32 (4294967295 - crcL 4294967295 l)) ∧ w = w' := by
  have C := Lib.hid (crc_any 4294967295 v l B w hv (by omega) (by omega) hl)
  obtain ⟨r0, r1⟩ := crcL_range l 4294967295 (by omega) (by omega)
  generalize crcL 4294967295 l = z at *
  have hx := xor_max z r0 r1
  have HX := Lib.hid hx; clear hx
  obtain ⟨a, c, rfl, hc, hx⟩ := hv.ex
  clear hx hv
  go_enter Tryz.func43, Tryz.ntmps43
  go_wp2_with fail
  refine C.out.mono ?_
  rintro e w' ⟨rfl, rfl⟩
  go_wp2_with fail
  go_ret
  exact ⟨ret_i HX.out, rfl⟩
theorem text_any (base : Nat) (v : Value) (l : List UInt8) (s : ByteArray) (w : World) (HO : OwnB w base v l) (hbase : base ≤ w.heap.size) (hs : s.size ≤ 1000000) (hl : l.length ≤ 10000000000) :
    Calls Tryz.prog 80 #[v, .string s] w (RetB base w (l ++ textL s.toList)) := by
  have C := Lib.hid (put_any base v l s.size w HO hbase (by omega) (by omega))
  have hp := putL_len 9 s.size (by omega)
  have hm : (l ++ putL s.size).length + s.size ≤ 140737488355328 := by simp; omega
  have hsz : s.size ≤ maxLen := by unfold maxLen; omega
  unfold maxLen at hsz
  clear hp
  have hW : IntKind.u64.wrap (s.size : Int) = (s.size : Int) := by rw [wu64]; omega
  have HL := Lib.hid (show textL s.toList = putL s.size ++ s.toList by unfold textL; rw [str_len])
  generalize hput : putL s.size = pu at *
  clear HO
  go_enter Tryz.func80, Tryz.ntmps80
  go_wp2_with fail
  refine C.out.mono ?_
  rintro e w1 ⟨v1, rfl, hO1, hb1⟩
  have hz1 := Nat.le_trans hbase hb1.size
  go_wp2_with (at_builtin; go_must (refine ap_str rfl (.tmp 9) (.tmp 10) rfl base v1 _ s rfl rfl hO1 hb1 hz1 hm ?_); intro v2 w2 hO2 hB2 hz2 _)
  go_ret
  exact ⟨_, rfl, by rw [HL.out, ← List.append_assoc]; exact hO2, hB2⟩
theorem PutText_any (v : Value) (l : List UInt8) (s : ByteArray) (B : Nat) (w : World) (hv : SlB B w v l) (hs : s.size ≤ 1000000) (hl : l.length ≤ 1000000000) :
    Calls Tryz.prog 38 #[v, .string s] w (RetB w.heap.size w (l ++ textL s.toList)) := by
  have HV := Lib.hid hv
  obtain ⟨a, c, rfl, hc, hx⟩ := hv.ex
  clear hx hv
  have C := Lib.hid (fun W v1 (h : OwnB W w.heap.size v1 l) (hz : w.heap.size ≤ W.heap.size) => text_any w.heap.size v1 l s W h hz hs (by omega))
  have hl2 : ([] : List UInt8).length + l.length ≤ 140737488355328 := by simp; omega
  go_enter Tryz.func38, Tryz.ntmps38
  go_wp2_with (at_builtin; go_must (refine ap_sl rfl (.const (.slice none 0 0)) (.tmp 5) rfl w.heap.size (.slice none 0 0) [] B _ l rfl rfl HV.out (OwnB.nil _ _) (Below.refl _ _) (Nat.le_refl _) hl2 ?_); intro v1 w1 hO1 hB1 hz1 _)
  rw [List.nil_append] at hO1
  refine (C.out _ _ hO1 hz1).mono ?_
  rintro e w2 ⟨v2, rfl, hO2, hb2⟩
  have hB2 := hB1.trans hb2
  clear hO1 hB1 hb2
  go_wp2_with fail
  go_ret
  exact ⟨_, rfl, hO2, hB2⟩
theorem rPutText_any (base : Nat) (v : Value) (l : List UInt8) (s : ByteArray) (w : World) (HO : OwnB w base v l) (hs : s.size ≤ 1000000) (hl : l.length ≤ 10000000) :
    Calls Tryz.prog 48 #[v, .string s] w (RetB w.heap.size w (l ++ textL s.toList)) := by
  have C := Lib.hid (rPut_any base v l s.size w HO (by omega) (by omega))
  have hp := putL_len 9 s.size (by omega)
  have hm : (l ++ putL s.size).length + s.size ≤ 140737488355328 := by simp; omega
  have hsz : s.size ≤ maxLen := by unfold maxLen; omega
  unfold maxLen at hsz
  clear hp
  have hW : IntKind.u64.wrap (s.size : Int) = (s.size : Int) := by rw [wu64]; omega
  have HL := Lib.hid (show textL s.toList = putL s.size ++ s.toList by unfold textL; rw [str_len])
  generalize hput : putL s.size = pu at *
  clear HO
  go_enter Tryz.func48, Tryz.ntmps48
  go_wp2_with fail
  refine C.out.mono ?_
  rintro e w1 ⟨v1, rfl, hO1, hb1⟩
  have hz1 := hb1.size
  go_wp2_with (at_builtin; go_must (refine ap_str rfl (.tmp 9) (.tmp 10) rfl w.heap.size v1 _ s rfl rfl hO1 hb1 hz1 hm ?_); intro v2 w2 hO2 hB2 hz2 _)
  go_ret
  exact ⟨_, rfl, by rw [HL.out, ← List.append_assoc]; exact hO2, hB2⟩
/-- a text that bytes begin with, and how many they are -/
def getTV (o : Option (List UInt8 × Nat)) : Ending := .returned (.tuple #[sv (o.getD ([], 0)).1, .int .i64 ((o.getD ([], 0)).2 : Int)])
theorem getT_cases (l : List UInt8) : (getL 0 0 l = none ∧ getT l = none) ∨ ∃ n k, getL 0 0 l = some (n, k) ∧ n < 18446744073709551616 ∧ 0 < k ∧ k ≤ l.length ∧ getT l = if n ≤ l.length - k then some ((l.drop k).take n, k + n) else none := by
  unfold getT
  cases e : getL 0 0 l with
  | none => exact .inl ⟨rfl, rfl⟩
  | some p =>
    obtain ⟨n, k⟩ := p
    have hb := getL_bound l 0 0 n k (by decide) (by decide) e
    exact .inr ⟨n, k, rfl, hb.1, by omega, by omega, rfl⟩
theorem SlB.reads {B : Nat} {w : World} {v : Value} {l : List UInt8} (h : SlB B w v l) : ReadsB w v l := by
  obtain ⟨a, c, rfl, hc, hx⟩ := h.ex
  by_cases h0 : 0 < l.length
  · obtain ⟨g, o, rfl, hg, hcell⟩ := hx h0
    refine conv_at w g o c l.length l rfl (fun j u hj => ?_)
    have hlt : j < l.length := by
      rcases Nat.lt_or_ge j (bcells l).length with h | h
      · rwa [bcells_length] at h
      · rw [List.getElem?_eq_none h] at hj; cases hj
    rw [bcells_get, List.getElem?_eq_getElem hlt] at hj
    rw [hcell j hlt]; exact hj
  · obtain rfl : l = [] := List.eq_nil_of_length_eq_zero (by omega)
    cases a with
    | none => exact run_convert_bytes_nil w 29 5 Tryz.underlying29 Tryz.underlying5 0 c 9 Tryz.underlying9
    | some ad =>
      obtain ⟨g, o, z⟩ := ad
      unfold ReadsB
      rw [run_convert_bytes_string w 29 9 5 _ _ c Tryz.underlying29 Tryz.underlying5 Tryz.underlying9]
      simp [Conv.bytesToString, loadCells]
      rfl
/-- b[i:i+k] -/
theorem SlB.mid {B : Nat} {w : World} {v : Value} {l : List UInt8} (h : SlB B w v l) (i k : Nat) (hk : i + k ≤ l.length) :
    ∃ a c, SlB B w (.slice a k c) ((l.drop i).take k) ∧ ∀ (y : Int), y = (i + k : Nat) → ∀ W, (Instr.slice 29 v (some (.int .i64 (i : Int))) (some (.int .i64 y)) none).run Tryz.prog W = .ok (.slice a k c) W := by
  obtain ⟨a, c, rfl, hc, hx⟩ := h.ex
  have h1 := h.cut i (by omega)
  exact ⟨_, _, h1.head k (by rw [List.length_drop]; omega) rfl, fun y hy W => mid_run (by omega) W y hy⟩
set_option maxHeartbeats 1000000 in
theorem GetText_any (v : Value) (l : List UInt8) (B : Nat) (w : World) (hv : SlB B w v l) (hl : l.length ≤ 1000000) :
    Calls Tryz.prog 150 #[v] w fun e w' => e = getTV (getT l) ∧ w = w' := by
  have HV := Lib.hid hv
  have C := Lib.hid (Get_any v l B w hv hl)
  obtain ⟨a, c, rfl, hc, hx⟩ := hv.ex
  clear hv hx
  rcases getT_cases l with ⟨h1, h2⟩ | ⟨n, k, h1, h2, h3, h4, h5⟩
  · rw [h1] at C
    rw [h2]
    clear h1 h2
    go_enter Tryz.func150, Tryz.ntmps150
    go_wp2_with fail
    refine C.out.mono ?_
    rintro e w' ⟨rfl, rfl⟩
    unfold getV
    go_wp2_with fail
    go_ret2
    exact ⟨rfl, rfl⟩
  · rw [h1] at C
    have b0 : ((k : Int) == 0) = false := by rw [beq_eq_false_iff_ne]; omega
    have hW : IntKind.u64.wrap ((l.length : Int) - k) = (l.length : Int) - k := by rw [wu64]; omega
    have hkl : (k : Int) ≤ (l.length : Int) := by omega
    by_cases h6 : n ≤ l.length - k
    · rw [if_pos h6] at h5
      obtain ⟨a2, c2, hm, hr⟩ := HV.out.mid k n (by omega)
      have hrd := hm.reads.out
      have hr' := hr ((k : Int) + (n : Int)) (by omega)
      have H5 := Lib.hid h5
      have q : ¬ (l.length : Int) - k < (n : Int) := by omega
      have hn : (n : Int) ≤ 1000000 := by omega
      have H6 := Lib.hid h6
      clear h1 h2 h5 h6 hr hm
      generalize hx : (l.drop k).take n = x at *
      clear hx
      go_enter Tryz.func150, Tryz.ntmps150
      go_wp2_with fail
      refine C.out.mono ?_
      rintro e w' ⟨rfl, rfl⟩
      unfold getV
      go_wp2_with fail
      go_ret2
      refine ⟨?_, rfl⟩
      rw [H5.out]
      unfold getTV
      simp
    · rw [if_neg h6] at h5
      have H5 := Lib.hid h5
      have q : (l.length : Int) - k < (n : Int) := by omega
      have H6 := Lib.hid h6
      clear h1 h5 h6
      go_enter Tryz.func150, Tryz.ntmps150
      go_wp2_with fail
      refine C.out.mono ?_
      rintro e w' ⟨rfl, rfl⟩
      unfold getV
      go_wp2_with fail
      go_ret2
      exact ⟨by rw [H5.out]; rfl, rfl⟩
set_option maxHeartbeats 1000000 in
theorem rGetText_any (v : Value) (l : List UInt8) (B : Nat) (w : World) (hv : SlB B w v l) (hl : l.length ≤ 1000000) :
    Calls Tryz.prog 161 #[v] w fun e w' => e = getTV (getT l) ∧ w = w' := by
  have HV := Lib.hid hv
  have C := Lib.hid (rGet_any v l B w hv hl)
  obtain ⟨a, c, rfl, hc, hx⟩ := hv.ex
  clear hv hx
  rcases getT_cases l with ⟨h1, h2⟩ | ⟨n, k, h1, h2, h3, h4, h5⟩
  · rw [h1] at C
    rw [h2]
    clear h1 h2
    go_enter Tryz.func161, Tryz.ntmps161
    go_wp2_with fail
    refine C.out.mono ?_
    rintro e w' ⟨rfl, rfl⟩
    unfold getV
    go_wp2_with fail
    go_ret2
    exact ⟨rfl, rfl⟩
  · rw [h1] at C
    have b0 : ((k : Int) == 0) = false := by rw [beq_eq_false_iff_ne]; omega
    have hW : IntKind.u64.wrap ((l.length : Int) - k) = (l.length : Int) - k := by rw [wu64]; omega
    have hkl : (k : Int) ≤ (l.length : Int) := by omega
    by_cases h6 : n ≤ l.length - k
    · rw [if_pos h6] at h5
      obtain ⟨a2, c2, hm, hr⟩ := HV.out.mid k n (by omega)
      have hrd := hm.reads.out
      have hr' := hr ((k : Int) + (n : Int)) (by omega)
      have H5 := Lib.hid h5
      have q : ¬ (l.length : Int) - k < (n : Int) := by omega
      have hn : (n : Int) ≤ 1000000 := by omega
      have H6 := Lib.hid h6
      clear h1 h2 h5 h6 hr hm
      generalize hx : (l.drop k).take n = x at *
      clear hx
      go_enter Tryz.func161, Tryz.ntmps161
      go_wp2_with fail
      refine C.out.mono ?_
      rintro e w' ⟨rfl, rfl⟩
      unfold getV
      go_wp2_with fail
      go_ret2
      refine ⟨?_, rfl⟩
      rw [H5.out]
      unfold getTV
      simp
    · rw [if_neg h6] at h5
      have H5 := Lib.hid h5
      have q : (l.length : Int) - k < (n : Int) := by omega
      have H6 := Lib.hid h6
      clear h1 h5 h6
      go_enter Tryz.func161, Tryz.ntmps161
      go_wp2_with fail
      refine C.out.mono ?_
      rintro e w' ⟨rfl, rfl⟩
      unfold getV
      go_wp2_with fail
      go_ret2
      exact ⟨by rw [H5.out]; rfl, rfl⟩
end Go.Proofs.YtplghaoflmaadaaGreatDoor
end

section
set_option linter.unusedVariables false
set_option linter.unusedSimpArgs false
namespace Go.Proofs.YtplghaoflmaadaaGreatDoor
open Go.RowKit Go.Sort Go

section
variable {P : Program} {ops : Array Oper} {md : Region.Mode} {C : World → Prop}
/-- Whatever order is picked, until all ahead of place n have come up; then L. -/
def anyHead (P : Program) (md : Region.Mode) (ops : Array Oper) (C : World → Prop) (n : Nat) (L : Array Bool → Act → Prop) : Nat → Array Bool → Act → Prop
  | 0, listed, a => L listed a
  | f + 1, listed, a => Region.ready md ops listed ≠ [] ∧ ∀ i, i ∈ Region.ready md ops listed → i < n ∧ qOp P ops C i (anyHead P md ops C n L f (listed.setIfInBounds i true)) a

theorem anyHead_wp {n g : Nat} {L : Array Bool → Act → Prop} {Q' : Exit → Act → World → Prop} (hL : ∀ listed a w, C w → L listed a → wpAny P md ops Q' g listed a w) (f : Nat) :
    ∀ (listed : Array Bool) (a : Act) (w : World), C w → anyHead P md ops C n L f listed a → wpAny P md ops Q' (f + g) listed a w := by
  induction f with
  | zero => intro listed a w hc h; rw [Nat.zero_add]; exact hL _ _ _ hc h
  | succ f ih =>
    intro listed a w hc h
    obtain ⟨hne, hall⟩ := h
    have e : f + 1 + g = (f + g) + 1 := by omega
    rw [e]
    refine ⟨fun h0 => absurd h0 hne, fun i hi => ?_⟩
    exact wpOp_of_qOp hc (fun a' w' hc' h' => ih _ a' w' hc' h') (hall i hi).2

/-- One that may come up is taken first. -/
theorem anyHead_take {n i : Nat} {oi : Oper} {v : Value} {L : Array Bool → Act → Prop} (hi : ops[i]? = some oi) (hsel : Region.noSelect ops = true)
    (hs : Region.sinkB md ops n = true) (hc : Region.chainB md ops n = true) (hn : n < ops.size) (hin : i < n) (hL : ∀ listed a, L listed a → ∀ j ∈ Region.ready md ops listed, n ≤ j) (f : Nat) :
    ∀ (listed : Array Bool) (a : Act), HeadInv md ops n listed → (∀ j oj, ops[j]? = some oj → j ≠ i → listed.getD j true = false → (∀ e ∈ oj.after, Region.binds md e = true → e.on ≠ i) → oi.apart ops oj = true) →
      i ∈ Region.ready md ops listed → YieldsIn P ops C oi v a → anyHead P md ops C n L f (listed.setIfInBounds i true) (a.put oi.dst v) → anyHead P md ops C n L (f + 1) listed a := by
  have SEL := Region.noSelect_spec hsel
  induction f with
  | zero =>
    intro listed a inv _ hr hy H
    have hun := (mem_ready.1 hr).1
    refine ⟨List.ne_nil_of_mem hr, fun j hj => ?_⟩
    have hjn : j < n := Nat.lt_of_not_le fun h => tail_waits hs hc hn inv _ i rfl hin hun j h hj
    refine ⟨hjn, ?_⟩
    by_cases e : j = i
    · subst e; exact hy.qOp hi H
    · exact absurd (hL _ _ H j (ready_mono hj e)) (by omega)
  | succ f ih =>
    intro listed a inv hfree hr hy H
    have hun := (mem_ready.1 hr).1
    refine ⟨List.ne_nil_of_mem hr, fun j hj => ?_⟩
    have hjn : j < n := Nat.lt_of_not_le fun h => tail_waits hs hc hn inv _ i rfl hin hun j h hj
    refine ⟨hjn, ?_⟩
    by_cases e : j = i
    · subst e; exact hy.qOp hi H
    · obtain ⟨hjun, oj, hoj, hafter⟩ := mem_ready.1 hj
      have hno : ∀ e ∈ oj.after, Region.binds md e = true → e.on ≠ i := fun e he hb heq => by
        have := hafter e he hb
        rw [heq, getD_both hun] at this
        cases this
      have hput := qOp_put hoj (hfree j oj hoj e hjun hno) (fun cs b => SEL i oi cs b hi) (fun cs b => SEL j oj cs b hoj) hy (H.2 j (ready_mono hj e)).2
      refine qOp_mono (fun a' h3 => ih (listed.setIfInBounds j true) a' (inv.set hj hjn) (fun k ok hk hki hku hkno => hfree k ok hk hki ?_ hkno) (ready_mono hr (Ne.symm e)) h3.1 ?_) hput
      · by_cases hjk : j = k
        · subst hjk; exact hjun
        · rwa [getD_set_ne true hjk] at hku
      · rw [Array.setIfInBounds_comm _ _ e]; exact h3.2

theorem anyHead_lex {n g : Nat} {Lq : Act → Prop} (hsel : Region.noSelect ops = true) (hs : Region.sinkB md ops n = true) (hc : Region.chainB md ops n = true) (hn : n < ops.size) (l : List Oper) :
    ∀ (k : Nat) (listed : Array Bool) (a : Act), (∀ j, j < l.length → l[j]? = ops[k + j]?) → k + l.length = n → HeadInv md ops n listed → Region.lexHead md ops g l.length k listed = true → wpQuiet P ops C Lq l a →
      anyHead P md ops C n (fun listed' a' => Region.seqB md ops g n listed' = true ∧ Lq a') l.length listed a := by
  induction l with
  | nil =>
    intro k listed a _ hk _ hB h
    obtain rfl : k = n := by simpa using hk
    exact ⟨by simpa [Region.lexHead] using hB, h⟩
  | cons o l ih =>
    intro k listed a hl hk inv hB h
    have h0 : ops[k]? = some o := by simpa using (hl 0 (by simp)).symm
    simp only [List.length_cons, Region.lexHead, Bool.and_eq_true] at hB
    have hlen : k + (l.length + 1) = n := by simpa using hk
    have hr : k ∈ Region.ready md ops listed := by simpa using hB.1.1
    have hq : qOp P ops C k (wpQuiet P ops C Lq l) a := by unfold qOp; simp only [h0]; exact h
    obtain ⟨v, hy, hK⟩ := yieldsIn_of_qOp h0 hq
    refine anyHead_take h0 hsel hs hc hn (by omega) (fun listed' a' hL => seqB_ready hL.1) l.length listed a inv (Region.free_spec h0 hB.1.2) hr hy ?_
    exact ih (k + 1) _ _ (fun j hj => by have := hl (j + 1) (by simp; omega); simpa [Nat.add_assoc, Nat.add_comm 1 j] using this) (by omega) (inv.set hr (by omega)) hB.2 hK

/-- Quiet ahead of place n, in the class of worlds that W grows into; behind it a list, in whatever world of the class. -/
theorem wp_region_quiet_tail {id : Nat} {Q : Exit → Act → World → Prop} {a : Act} {w : World} {l : List Oper} (n : Nat) (hm : P.follows .mixedOrders = true) (hB : Region.lexTailB .any l.toArray n = true)
    (h : wpQuiet P l.toArray (fun w' => ∃ p : Regrown, w' = grow (redrawn w p.d) p.os) (fun a' => ∀ w', (∃ p : Regrown, w' = grow (redrawn w p.d) p.os) → wpList P l.toArray Q (l.drop n) a' w') (l.take n) a) : (Code.region id l.toArray true).wp P Q a w := by
  simp only [Region.lexTailB, Bool.and_eq_true, decide_eq_true_eq] at hB
  obtain ⟨⟨⟨⟨hsel, hn⟩, hs⟩, hc⟩, hlex⟩ := hB
  have hn' : n < l.length := by simpa using hn
  have htl : (l.take n).length = n := by simp; omega
  have hdl : (l.drop n).length = l.toArray.size - n := by simp
  have inv0 : HeadInv .any l.toArray n (Array.replicate l.toArray.size false) :=
    ⟨by simp, fun j oj _ hl => (by rw [getD_replicate_false] at hl; cases hl), fun t _ ht => getD_in (by simpa using ht) (getD_replicate_false _ _)⟩
  have H := anyHead_lex (md := .any) (g := l.toArray.size - n) hsel hs hc hn (l.take n) 0 _ a (fun j hj => by
    have hj' : j < n := by omega
    simp [hj']) (by omega) inv0 (by rw [htl]; exact hlex) h
  refine wp_region_any hm ?_
  have hw : ∃ p : Regrown, { w with drawn := w.drawn + 1 } = grow (redrawn w p.d) p.os := ⟨⟨w.drawn + 1, #[]⟩, by rw [grow_empty]; rfl⟩
  have := anyHead_wp (Q' := Q) (g := l.toArray.size - n) (fun listed a' w' hc' hL => by
    have := wpAny_of_seq (md := .any) (Q' := Q) (l.drop n) n listed a' w' (fun j => by simp [List.getElem?_drop]) (by rw [hdl]; exact hL.1) (hL.2 w' hc')
    rwa [hdl] at this) _ _ _ _ hw H
  rw [htl, show n + (l.toArray.size - n) = l.toArray.size by omega] at this
  exact this
end

/-- A callee's contract, in every world that W grows into. -/
def QP (P : Program) (W : World) (f : FuncId) (args : Array Value) (v : Value) : Prop := ∀ d os, Calls P f args (grow (redrawn W d) os) fun e w'' => e = .returned v ∧ ∃ p : Regrown, w'' = grow (redrawn W p.d) p.os
section
variable {P : Program} {W : World} {f : FuncId} {args : Array Value} {v : Value}
theorem QP.of (h : ∀ W', Below W.heap.size W W' → Calls P f args W' fun e w' => e = .returned v ∧ Below W'.heap.size W' w') : QP P W f args v := fun d os => Calls.regrown_of (h _ (below_regrown W d os))
theorem QP.same (h : ∀ W', Calls P f args W' fun e w' => e = .returned v ∧ W' = w') : QP P W f args v :=
  QP.of fun W' _ => (h W').mono fun e w' ⟨h1, h2⟩ => ⟨h1, by subst h2; exact Below.refl _ _⟩
theorem QP.at (h : QP P W f args v) (d : Nat) (os : Array Obj) : Calls P f args (grow (redrawn W d) os) fun e w'' => e = .returned v ∧ ∃ p : Regrown, w'' = grow (redrawn W p.d) p.os := h d os
end
/-- At a function's end the world is forgotten but for what is said of it. -/
theorem ret_gen {P : Program} {f : Func} {Q : Ending → World → Prop} {e : Exit} {a : Act} {W : World} (R : World → Prop) (hR : R W) (h : ∀ w2, R w2 → bodyPost P f Q e a w2) : bodyPost P f Q e a W := h W hR
theorem regrown_below {W w : World} (h : ∃ p : Regrown, w = grow (redrawn W p.d) p.os) : Below W.heap.size W w := by
  obtain ⟨p, rfl⟩ := h; exact below_regrown _ _ _
end Go.Proofs.YtplghaoflmaadaaGreatDoor
end

section
set_option linter.unusedVariables false
set_option linter.unusedSimpArgs false
set_option maxRecDepth 20000
namespace Go.Proofs.YtplghaoflmaadaaGreatDoor
open Go.RowKit

/-! stores of whole elements -/
def setW (g : Nat) : World → Nat → List Value → World
  | w, _, [] => w
  | w, s, u :: us => setW g (w.setCell ⟨g, s, none⟩ u) (s + 1) us
def setL : List Value → Nat → List Value → List Value
  | c, _, [] => c
  | c, s, u :: us => setL (c.set s u) (s + 1) us
theorem setL_length (us : List Value) : ∀ (c : List Value) (s : Nat), (setL c s us).length = c.length := by
  induction us with
  | nil => intro c s; rfl
  | cons u us ih => intro c s; rw [setL, ih, List.length_set]
theorem setL_get (us : List Value) : ∀ (c : List Value) (s t : Nat), (setL c s us)[t]? = if s ≤ t ∧ t < s + us.length ∧ t < c.length then us[t - s]? else c[t]? := by
  induction us with
  | nil => intro c s t; rw [if_neg (by simp only [List.length_nil]; omega)]; rfl
  | cons u us ih =>
    intro c s t
    rw [setL, ih, List.length_set, List.length_cons]
    by_cases h : s + 1 ≤ t ∧ t < s + 1 + us.length ∧ t < c.length
    · rw [if_pos h, if_pos (by omega)]
      obtain ⟨d, rfl⟩ : ∃ d, t = s + 1 + d := ⟨t - (s + 1), by omega⟩
      rw [show s + 1 + d - (s + 1) = d by omega, show s + 1 + d - s = d + 1 by omega]; rfl
    · rw [if_neg h, List.getElem?_set]
      by_cases e : s = t
      · subst e
        rw [if_pos rfl]
        by_cases h2 : s < c.length
        · rw [if_pos h2, if_pos (by omega), Nat.sub_self]; rfl
        · rw [if_neg h2, if_neg (by omega), List.getElem?_eq_none (by omega)]
      · rw [if_neg e, if_neg (by omega)]
section
variable {α : Type} {E : El α}
theorem El.cells_at (l : List α) (t : Nat) (h : t < l.length * E.size) : (E.cells l)[t]? = (E.enc (l[t / E.size]'((Nat.div_lt_iff_lt_mul E.pos).2 h)))[t % E.size]? := by
  have h1 : t / E.size < l.length := (Nat.div_lt_iff_lt_mul E.pos).2 h
  have := E.cells_get l (t / E.size) (t % E.size) h1 (Nat.mod_lt _ E.pos)
  rwa [Nat.mul_comm, Nat.div_add_mod] at this
theorem El.cells_set (l : List α) (k : Nat) (x : α) (hk : k < l.length) : setL (E.cells l) (k * E.size) (E.enc x) = E.cells (l.set k x) := by
  apply List.ext_getElem?
  intro t
  rw [setL_get, E.cells_len, E.len]
  rcases Nat.lt_or_ge t (l.length * E.size) with h | h
  · have hq : t / E.size < l.length := (Nat.div_lt_iff_lt_mul E.pos).2 h
    rw [El.cells_at l t h, El.cells_at (l.set k x) t (by rw [List.length_set]; exact h), List.getElem_set]
    have hd := Nat.div_add_mod t E.size
    have hm := Nat.mod_lt t E.pos
    by_cases e : k = t / E.size
    · rw [if_pos e]
      have e2 : k * E.size = E.size * (t / E.size) := by rw [e, Nat.mul_comm]
      rw [if_pos (by omega), show t - k * E.size = t % E.size by omega]
    · rw [if_neg e, if_neg]
      rintro ⟨a, b, _⟩
      apply e
      have h1 : k ≤ t / E.size := (Nat.le_div_iff_mul_le E.pos).2 a
      have h2 : t / E.size < k + 1 := (Nat.div_lt_iff_lt_mul E.pos).2 (by rw [Nat.succ_mul]; exact b)
      omega
  · rw [if_neg (by omega), List.getElem?_eq_none (by rw [E.cells_len]; exact h), List.getElem?_eq_none (by rw [E.cells_len, List.length_set]; exact h)]
theorem row_setW {w0 : World} {base g n c : Nat} {e : TypeId} {size : Nat} (us : List Value) : ∀ (w : World) (s : Nat) (xs : List Value), w.ownsRow base e size (.slice (some ⟨g, 0, none⟩) n c) n xs → w0.grownBy w (some g) →
    (setW g w s us).ownsRow base e size (.slice (some ⟨g, 0, none⟩) n c) n (setL xs s us) ∧ w0.grownBy (setW g w s us) (some g) := by
  induction us with
  | nil => intro w s xs h k; exact ⟨h, k⟩
  | cons u us ih =>
    intro w s xs h k
    obtain ⟨h1, k1⟩ := World.ownsRow.stored h s u
    exact ih _ _ _ h1 ⟨k1.os.trans k.os, k1.tape.trans k.tape, k1.output.trans k.output, Nat.le_trans k.size k1.size, fun i hi hne => (k1.block i (Nat.lt_of_lt_of_le hi k.size) hne).trans (k.block i hi hne)⟩
/-- An element is stored. -/
theorem OwnX.put {w : World} {base g n c : Nat} {l : List α} (h : OwnX E w base (.slice (some ⟨g, 0, none⟩) n c) l) (k : Nat) (hk : k < l.length) (x : α) :
    OwnX E (setW g w (k * E.size) (E.enc x)) base (.slice (some ⟨g, 0, none⟩) n c) (l.set k x) ∧ w.grownBy (setW g w (k * E.size) (E.enc x)) (some g) := by
  have hn : n = l.length := by
    rcases h.2 with ⟨h', _⟩ | ⟨g', cap', cur, h', _⟩
    · simp at h'
    · simp only [Value.slice.injEq] at h'; exact h'.2.1
  subst hn
  have := row_setW (w0 := w) (E.enc x) w (k * E.size) _ h (World.grownBy.refl w _)
  unfold OwnX
  rw [List.length_set, ← El.cells_set l k x hk]
  exact this
theorem OwnX.frozen {w : World} {base g n c : Nat} {l : List α} (h : OwnX E w base (.slice (some ⟨g, 0, none⟩) n c) l) (j : Nat) : w.frozen? ⟨g, j, none⟩ = false := by
  have hn : n = l.length := by
    rcases h.2 with ⟨h', _⟩ | ⟨g', cap', cur, h', _⟩
    · simp at h'
    · simp only [Value.slice.injEq] at h'; exact h'.2.1
  subst hn
  exact World.ownsRow.frozenAt h j
theorem OwnX.cell {w : World} {base g n c : Nat} {l : List α} (h : OwnX E w base (.slice (some ⟨g, 0, none⟩) n c) l) (j i : Nat) (hj : j < l.length) {u : Value} (hu : (E.enc l[j])[i]? = some u) : w.cell? ⟨g, j * E.size + i, none⟩ = some u := by
  have := (h.sl).cell j i hj hu
  rwa [Nat.zero_add] at this

/-! the sort's -/
theorem flat_toList [Inhabited α] (l : List α) : (Sort.flatK E.enc E.size l.toArray).toList = E.cells l := by
  apply List.ext_getElem?
  intro t
  rcases Nat.lt_or_ge t (l.length * E.size) with h | h
  · have hs : t < (Sort.flatK E.enc E.size l.toArray).size := by rw [Sort.size_flatK]; simpa using h
    have h1 : t / E.size < l.length := (Nat.div_lt_iff_lt_mul E.pos).2 h
    rw [El.cells_at l t h, Array.getElem?_toList, Array.getElem?_eq_getElem hs]
    have := Sort.get_flatK E.enc E.size l.toArray t (by simpa using h)
    rw [getElem!_pos _ t hs, getElem!_pos l.toArray (t / E.size) (by simpa using h1)] at this
    rw [this, List.getElem_toArray, getElem!_pos _ _ (by rw [E.len]; exact Nat.mod_lt _ E.pos), List.getElem?_eq_getElem (by rw [E.len]; exact Nat.mod_lt _ E.pos)]
  · rw [List.getElem?_eq_none (by rw [Array.length_toList, Sort.size_flatK]; simpa using h), List.getElem?_eq_none (by rw [E.cells_len]; exact h)]
theorem OwnX.holdsK [Inhabited α] {w : World} {base g n c : Nat} {l : List α} (h : OwnX E w base (.slice (some ⟨g, 0, none⟩) n c) l) : Sort.HoldsK E.enc E.size w g 0 l.toArray := by
  intro t ht
  have hn : n = l.length := by
    rcases h.2 with ⟨h', _⟩ | ⟨g', cap', cur, h', _⟩
    · simp at h'
    · simp only [Value.slice.injEq] at h'; exact h'.2.1
  subst hn
  rw [Sort.size_flatK] at ht
  have ht' : t < l.length * E.size := by simpa using ht
  refine ⟨?_, ?_⟩
  · rw [Nat.zero_add, World.ownsRow.cellAt h t ht', ← flat_toList (E := E) l, Array.getElem?_toList, getElem!_pos _ t (by rw [Sort.size_flatK]; exact ht), Array.getElem?_eq_getElem (by rw [Sort.size_flatK]; exact ht)]
    rfl
  · rw [Nat.zero_add]; exact World.ownsRow.frozenAt h t
theorem OwnX.sorted [Inhabited α] {w : World} {base g n c : Nat} {l : List α} (h : OwnX E w base (.slice (some ⟨g, 0, none⟩) n c) l) (l' : List α) (hl : l'.length = l.length) (m : Nat) (os : Array Obj) :
    OwnX E (sortWorldK E.enc E.size w g 0 m l'.toArray os) base (.slice (some ⟨g, 0, none⟩) n c) l' ∧ w.grownBy (sortWorldK E.enc E.size w g 0 m l'.toArray os) (some g) := by
  obtain ⟨hlen, hx⟩ := h
  have hlt := World.ownsRow.lt ⟨hlen, hx⟩
  rcases hx with ⟨h', _⟩ | ⟨g', cap', cur, h', hb, hg, hnc, hcm, hcs, htake⟩
  · simp at h'
  · simp only [Value.slice.injEq, Option.some.injEq, Addr.mk.injEq, and_true, true_and] at h'
    obtain ⟨rfl, rfl, rfl⟩ := h'
    have hgl := (hlt g rfl).2
    have hF : ∀ t, t < l'.length * E.size → (Sort.flatK E.enc E.size l'.toArray)[t]? = (E.cells l')[t]? := fun t ht => by rw [← flat_toList (E := E) l', Array.getElem?_toList]
    have hsz : (Sort.flatK E.enc E.size l'.toArray).size = l'.length * E.size := by rw [Sort.size_flatK]; simp
    have hheap : (sortWorldK E.enc E.size w g 0 m l'.toArray os).heap[g]? = some (.cells (Sort.putCells id 0 (Sort.flatK E.enc E.size l'.toArray) cur) E.t (0, 0)) := by
      show (Sort.grow (Sort.mapBlock (Sort.ahead w m) g _) os).heap[g]? = _
      rw [Sort.heap_grow_old _ _ (by show g < (Array.modify _ _ _).size; rw [Array.size_modify]; exact hgl)]
      show (Array.modify w.heap g _)[g]? = _
      rw [Array.getElem?_modify, if_pos rfl, hg]; rfl
    refine ⟨⟨by rw [E.cells_len], .inr ⟨g, c, _, by rw [hl], hb, hheap, by omega, hcm, by simp only [Sort.putCells, Array.size_mapIdx]; exact hcs, ?_⟩⟩, ?_⟩
    · apply List.ext_getElem?
      intro t
      rw [List.getElem?_take]
      by_cases ht : t < l'.length * E.size
      · rw [if_pos ht, Array.getElem?_toList]
        have htc : t < cur.size := by
          rw [hcs]
          have : l'.length * E.size ≤ c * E.size := Nat.mul_le_mul_right _ (by omega)
          omega
        simp only [Sort.putCells, Array.getElem?_mapIdx, Array.getElem?_eq_getElem htc, Option.map_some]
        rw [if_pos ⟨Nat.zero_le _, by rw [hsz]; omega⟩, ← hF t ht, Nat.sub_zero, getElem!_pos _ t (by rw [hsz]; exact ht), Array.getElem?_eq_getElem (by rw [hsz]; exact ht)]
        rfl
      · rw [if_neg ht, List.getElem?_eq_none (by rw [E.cells_len]; omega)]
    · refine ⟨rfl, rfl, rfl, ?_, fun k hk hne => ?_⟩
      · show w.heap.size ≤ (Array.modify _ _ _ ++ os).size
        rw [Array.size_append, Array.size_modify]; exact Nat.le_add_right _ _
      · show (Sort.grow (Sort.mapBlock (Sort.ahead w m) g _) os).heap[k]? = _
        rw [Sort.heap_grow_old _ _ (by show k < (Array.modify _ _ _).size; rw [Array.size_modify]; exact hk)]
        show (Array.modify w.heap g _)[k]? = _
        rw [Array.getElem?_modify, if_neg (fun e => hne (by rw [e]))]
end
end Go.Proofs.YtplghaoflmaadaaGreatDoor
end
