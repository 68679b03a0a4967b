/- Contracts of the reference's Four, Fourth, Put. Conditions: lengths leave room. Contracts of the codec's Frame and Unframe. Conditions: lengths leave room. Contracts of the reference's text and Bytes of keys: bytes in new memory. Conditions: the lengths leave room. -/
import Derived.Test.YtplghaoflmaadaaGreatDoorZ07
import Derived.Laws.MakeOwn
import Derived.Test.YtplghaoflmaadaaGreatDoorZ04
section
set_option linter.unusedVariables false
set_option linter.unusedSimpArgs false
set_option maxRecDepth 20000
namespace Go.Proofs.YtplghaoflmaadaaGreatDoor
open Go.RowKit

theorem OwnB.lit (w : World) (base : Nat) (cs : Array Value) (l : List UInt8) (n : Nat) (hb : base ≤ w.heap.size) (hn : n = l.length) (hl : l.length ≤ 1000000) (hc : cs.toList = bcells l) : OwnB (w.alloc (.cells cs 5)) base (.slice (some ⟨w.heap.size, 0, none⟩) n n) l := by
  subst hn
  have h := World.ownsRow_lit (base := base) (e := 5) (size := 1) w cs l.length hb (by unfold maxLen; omega) (by have := congrArg List.length hc; rw [bcells_length] at this; simpa using this)
  rw [hc] at h
  exact h

theorem rFour_any (n : Int) (w : World) (h0 : 0 ≤ n) (h1 : n < 4294967296) :
    Calls Tryz.prog 91 #[.int .u32 n] w (RetB w.heap.size w (fourL n)) := by
  have HC := Lib.hid (fourL_cells n h0 h1)
  go_enter Tryz.func91, Tryz.ntmps91
  go_wp2_with fail
  go_ret
  exact ⟨_, rfl, OwnB.lit w w.heap.size _ (fourL n) 4 (Nat.le_refl _) rfl (by rw [fourL_length]; omega) HC.out, below_alloc (Below.refl _ w) _⟩

theorem or32 (a y i : Nat) (hy : y < 2 ^ i) (h : a * 2 ^ i + y < 4294967296) : Go.bits .or .u32 (((a * 2 ^ i : Nat) : Int)) (y : Int) = ((a * 2 ^ i + y : Nat) : Int) := by
  have e : (BitVec.ofInt 32 ((a * 2 ^ i : Nat) : Int) ||| BitVec.ofInt 32 (y : Int)).toNat = a * 2 ^ i + y := by
    rw [BitVec.toNat_or, BitVec.ofInt_natCast, BitVec.ofInt_natCast, BitVec.toNat_ofNat, BitVec.toNat_ofNat, Nat.mod_eq_of_lt (by omega), Nat.mod_eq_of_lt (by omega)]
    have := Nat.shiftLeft_add_eq_or_of_lt (b := y) (i := i) hy a
    rw [Nat.shiftLeft_eq] at this
    exact this.symm
  show IntKind.u32.wrap ((BitVec.ofInt 32 ((a * 2 ^ i : Nat) : Int) ||| BitVec.ofInt 32 (y : Int)).toNat : Int) = _
  rw [e, wrap32u _ h]
theorem num32_shifts (a b c d : UInt8) : Go.bits .or .u32 (Go.bits .or .u32 (Go.bits .or .u32 ((a.toNat : Int) * 16777216) ((b.toNat : Int) * 65536)) ((c.toNat : Int) * 256)) (d.toNat : Int) = num32 [a, b, c, d] := by
  have b0 := a.toNat_lt; have b1 := b.toNat_lt; have b2 := c.toNat_lt; have b3 := d.toNat_lt
  rw [num32_four]
  generalize a.toNat = a at *; generalize b.toNat = b at *; generalize c.toNat = c at *; generalize d.toNat = d at *
  have e1 := or32 a (b * 65536) 24 (by omega) (by omega)
  have e2 := or32 (a * 256 + b) (c * 256) 16 (by omega) (by omega)
  have e3 := or32 (a * 65536 + b * 256 + c) d 8 (by omega) (by omega)
  rw [show ((a : Int) * 16777216) = ((a * 2 ^ 24 : Nat) : Int) by omega, show ((b : Int) * 65536) = ((b * 65536 : Nat) : Int) by omega, e1, show ((a * 2 ^ 24 + b * 65536 : Nat) : Int) = (((a * 256 + b) * 2 ^ 16 : Nat) : Int) by omega, show ((c : Int) * 256) = ((c * 256 : Nat) : Int) by omega, e2, show (((a * 256 + b) * 2 ^ 16 + c * 256 : Nat) : Int) = (((a * 65536 + b * 256 + c) * 2 ^ 8 : Nat) : Int) by omega, e3]
  omega
set_option maxHeartbeats 1000000 in
theorem rFourth_any (v : Value) (l : List UInt8) (B : Nat) (w : World) (hv : SlB B w v l) (h4 : 4 ≤ l.length) (hl : l.length ≤ 1000000) :
    Calls Tryz.prog 119 #[v] w fun e w' => e = .returned (.int .u32 (num32 (l.take 4))) ∧ ∃ n, w' = w.drewN n := by
  obtain ⟨a, c, rfl, hc, hx⟩ := hv.ex
  obtain ⟨gb, o, rfl, hgb, hcell⟩ := hx (by omega)
  obtain ⟨x0, x1, x2, x3, r, rfl⟩ : ∃ x0 x1 x2 x3 r, l = x0 :: x1 :: x2 :: x3 :: r := by
    match l, h4 with
    | x0 :: x1 :: x2 :: x3 :: r, _ => exact ⟨x0, x1, x2, x3, r, rfl⟩
  have c0 : w.cell? ⟨gb, o, none⟩ = some (.int .u8 (x0.toNat : Int)) := hcell 0 (by omega)
  have c1 : w.cell? ⟨gb, o + 1, none⟩ = some (.int .u8 (x1.toNat : Int)) := hcell 1 (by omega)
  have c2 : w.cell? ⟨gb, o + 2, none⟩ = some (.int .u8 (x2.toNat : Int)) := hcell 2 (by omega)
  have c3 : w.cell? ⟨gb, o + 3, none⟩ = some (.int .u8 (x3.toNat : Int)) := hcell 3 (by omega)
  have b0 := x0.toNat_lt; have b1 := x1.toNat_lt; have b2 := x2.toNat_lt; have b3 := x3.toNat_lt
  have HN := Lib.hid (num32_shifts x0 x1 x2 x3)
  clear hcell hx hv
  generalize hn : (x0 :: x1 :: x2 :: x3 :: r).length = n at *
  clear hn
  go_enter Tryz.func119, Tryz.ntmps119
  go_wp2_with fail
  go_quiet (fail)
  go_wp2_with fail
  go_ret
  refine ⟨ret_i ?_, nq, rfl⟩
  exact HN.out

set_option maxHeartbeats 1000000 in
theorem rPut_any (base : Nat) (v : Value) (l : List UInt8) (u : Nat) (w : World) (HO : OwnB w base v l) (hu : u < 18446744073709551616) (hl : l.length ≤ 100000000) :
    Calls Tryz.prog 50 #[v, .int .u64 (u : Int)] w (RetB w.heap.size w (l ++ putL u)) := by
  have hp := putL_len 9 u (by omega)
  have HT := Lib.hid (rfl : l ++ putL u = l ++ putL u)
  generalize htot : l ++ putL u = tot at *
  have htl : tot.length ≤ 100000000010 := by rw [← htot]; simp; omega
  clear hp
  have HTO := Lib.hid htot; clear htot HT
  rcases HO.2 with ⟨rfl, h0⟩ | ⟨g, cap, cur, rfl, hg, hrest⟩
  · clear HO
    obtain rfl : l = [] := List.eq_nil_of_length_eq_zero h0
    clear h0
    have hO1 := Lib.hid (OwnB.lit w w.heap.size #[] [] 0 (Nat.le_refl _) rfl (by simp) (by simp [bcells]))
    have hB1 := Lib.hid (below_alloc (Below.refl _ w) (.cells #[] 5))
    have hz1 : w.heap.size ≤ (w.alloc (.cells #[] 5)).heap.size := hB1.out.size
    have HZ1 := Lib.hid hz1; clear hz1
    go_enter Tryz.func50, Tryz.ntmps50
    go_wp2_with fail
    generalize Value.slice (some ⟨w.heap.size, 0, none⟩) 0 0 = v1 at *
    generalize w.alloc (.cells #[] 5) = w1 at *
    replace hB1 := hB1.out
    replace hO1 := hO1.out
    have hz1 := HZ1.out
    clear HZ1
    go_loopw [1, 5] (fun i s wr => ∃ (m : Nat) (acc : List UInt8), m ≤ u ∧ i = .int .u64 (m : Int) ∧ Below w.heap.size w wr ∧ w.heap.size ≤ wr.heap.size ∧ OwnB wr w.heap.size s acc ∧ acc ++ putL m = tot) (fun i _ _ => (intOf i).toNat)
    case atStart => exact ⟨u, [], Nat.le_refl _, rfl, hB1, hz1, hO1, HTO.out⟩
    case round =>
      obtain ⟨m, acc, hm, rfl, hB, hz, hO, he⟩ := hrel
      have hlen : acc.length + 1 ≤ 140737488355328 := by
        have h1 := congrArg List.length he; rw [List.length_append] at h1; omega
      clear hO1 hB1 hz1
      have HO := Lib.hid hO; clear hO
      by_cases h : m < 128
      · rw [putL_small m h] at he
        have HE := Lib.hid he; clear he
        have hb := bcells_nat m (by omega)
        have HBC := Lib.hid hb; clear hb
        have hmod : (m : Int) % 256 = m := by omega
        go_wp2_with (at_builtin; go_must (refine ap_lit rfl (.tmp 20) (.tmp 23) rfl w.heap.size u5 acc [UInt8.ofNat m] _ 1 1 rfl rfl rfl HBC.out HO.out hB hz hlen ?_); intro v2 w2 hO2 hB2 hz2; clear HO hB hz)
        go_ret
        exact ⟨_, rfl, by rw [HE.out] at hO2; exact hO2, hB2⟩
      · rw [putL_great m h] at he
        have HE := Lib.hid he; clear he
        have hb := bcells_nat (m % 128 + 128) (by omega)
        have hcast : ((m % 128 + 128 : Nat) : Int) = (m : Int) % 128 + 128 := by omega
        rw [hcast] at hb
        clear hcast
        have HBC := Lib.hid hb; clear hb
        go_wp2_with (at_builtin; go_must (refine ap_lit rfl (.tmp 11) (.tmp 16) rfl w.heap.size u5 acc [UInt8.ofNat (m % 128 + 128)] _ 1 1 rfl rfl rfl HBC.out HO.out hB hz hlen ?_); intro v2 w2 hO2 hB2 hz2; clear HO hB hz)
        go_roundw
        case rel => exact ⟨m / 128, acc ++ [UInt8.ofNat (m % 128 + 128)], by omega, by go_num, hB2, hz2, hO2, by rw [List.append_assoc]; exact HE.out⟩
        case measure => (first | (simp [intOf]; done) | (simp [intOf]; omega))
  · have hcells : ∀ j x, (bcells l)[j]? = some x → w.cell? ((⟨g, 0, none⟩ : Addr).add j) = some x := World.ownsRow.cells HO rfl
    have HC := Lib.hid (fun j x h => (cell_keep (below_alloc (Below.refl _ w) (.cells #[] 5)) (hcells j x h)))
    clear hcells HO hrest
    have hO0 := Lib.hid (OwnB.lit w w.heap.size #[] [] 0 (Nat.le_refl _) rfl (by simp) (by simp [bcells]))
    have hB0 := Lib.hid (below_alloc (Below.refl _ w) (.cells #[] 5))
    have hl2 : ([] : List UInt8).length + l.length ≤ 140737488355328 := by simp; omega
    go_enter Tryz.func50, Tryz.ntmps50
    go_wp2_with (at_builtin; go_must (refine ap_bytes rfl (.tmp 6) (.tmp 7) rfl w.heap.size _ [] l ⟨g, 0, none⟩ l.length cap rfl rfl rfl HC.out hO0.out hB0.out hB0.out.size hl2 ?_); intro v1 w1 hO1 hB1 hz1 _)
    rw [List.nil_append] at hO1
    clear HC hO0 hB0 hl2
    go_loopw [1, 5] (fun i s wr => ∃ (m : Nat) (acc : List UInt8), m ≤ u ∧ i = .int .u64 (m : Int) ∧ Below w.heap.size w wr ∧ w.heap.size ≤ wr.heap.size ∧ OwnB wr w.heap.size s acc ∧ acc ++ putL m = tot) (fun i _ _ => (intOf i).toNat)
    case atStart => exact ⟨u, l, Nat.le_refl _, rfl, hB1, hz1, hO1, HTO.out⟩
    case round =>
      obtain ⟨m, acc, hm, rfl, hB, hz, hO, he⟩ := hrel
      have hlen : acc.length + 1 ≤ 140737488355328 := by
        have h1 := congrArg List.length he; rw [List.length_append] at h1; omega
      clear hO1 hB1 hz1
      have HO := Lib.hid hO; clear hO
      by_cases h : m < 128
      · rw [putL_small m h] at he
        have HE := Lib.hid he; clear he
        have hb := bcells_nat m (by omega)
        have HBC := Lib.hid hb; clear hb
        have hmod : (m : Int) % 256 = m := by omega
        go_wp2_with (at_builtin; go_must (refine ap_lit rfl (.tmp 20) (.tmp 23) rfl w.heap.size u5 acc [UInt8.ofNat m] _ 1 1 rfl rfl rfl HBC.out HO.out hB hz hlen ?_); intro v2 w2 hO2 hB2 hz2; clear HO hB hz)
        go_ret
        exact ⟨_, rfl, by rw [HE.out] at hO2; exact hO2, hB2⟩
      · rw [putL_great m h] at he
        have HE := Lib.hid he; clear he
        have hb := bcells_nat (m % 128 + 128) (by omega)
        have hcast : ((m % 128 + 128 : Nat) : Int) = (m : Int) % 128 + 128 := by omega
        rw [hcast] at hb
        clear hcast
        have HBC := Lib.hid hb; clear hb
        go_wp2_with (at_builtin; go_must (refine ap_lit rfl (.tmp 11) (.tmp 16) rfl w.heap.size u5 acc [UInt8.ofNat (m % 128 + 128)] _ 1 1 rfl rfl rfl HBC.out HO.out hB hz hlen ?_); intro v2 w2 hO2 hB2 hz2; clear HO hB hz)
        go_roundw
        case rel => exact ⟨m / 128, acc ++ [UInt8.ofNat (m % 128 + 128)], by omega, by go_num, hB2, hz2, hO2, by rw [List.append_assoc]; exact HE.out⟩
        case measure => (first | (simp [intOf]; done) | (simp [intOf]; omega))
end Go.Proofs.YtplghaoflmaadaaGreatDoor
end

section
set_option linter.unusedVariables false
set_option linter.unusedSimpArgs false
set_option maxRecDepth 20000
namespace Go.Proofs.YtplghaoflmaadaaGreatDoor
open Go.RowKit

set_option maxHeartbeats 1000000 in
theorem Frame_any (v : Value) (l : List UInt8) (w : World) (hv : SlB w.heap.size w v l) (hl : l.length ≤ 1000000) :
    Calls Tryz.prog 42 #[v] w (RetB w.heap.size w (frameL l)) := by
  have HV := Lib.hid hv
  obtain ⟨a, c, rfl, hc, hx⟩ := hv.ex
  clear hx hv
  by_cases hg : 262144 < l.length
  · have e : frameL l = [] := if_neg (by omega)
    rw [e]
    go_enter Tryz.func42, Tryz.ntmps42
    go_wp2_with fail
    go_ret
    exact ⟨_, rfl, OwnB.nil _ _, Below.refl _ _⟩
  · have e : frameL l = fourL l.length ++ fourL (sealL (fourL l.length) l) ++ l := if_pos (by omega)
    have hsr := sealL_range (fourL l.length) l
    obtain ⟨i0, hi, hz0, hz1, hz2⟩ := info_parts infoByte
    obtain ⟨w1, hmk, hO1, hg1⟩ := run_make_own (P := Tryz.prog) (w := w) w.heap.size 29 5 i0 _ 1 Tryz.underlying29 hi hz0 hz1 .i64 .i64 (l.length + 8) (by rw [hz2]; omega) (by unfold maxLen; omega) (Nat.le_refl _)
    rw [show ((l.length + 8 : Nat) : Int) = (l.length : Int) + 8 by omega] at hmk
    clear hi hz0 hz1 hz2 i0
    have hb1 : Below w.heap.size w w1 := (Below.refl _ w).grown hg1 (Nat.le_refl _) (fun k hk => by cases hk)
    clear hg1
    have F1 := Lib.hid (four_any w.heap.size _ [] (l.length : Int) w1 hO1 hb1.size (by omega) (by omega) (by simp))
    have HSL := Lib.hid (fun W v2 (hO : OwnB W w.heap.size v2 (fourL l.length)) (hb : Below w.heap.size w W) => seal_any v2 (.slice a l.length c) (fourL l.length) l W.heap.size W hO.slB (HV.out.keep hb) (by rw [fourL_length]; omega) hl)
    have F2 := Lib.hid (fun W v2 (hO : OwnB W w.heap.size v2 (fourL l.length)) (hb : Below w.heap.size w W) => four_any w.heap.size v2 (fourL l.length) (sealL (fourL l.length) l) W hO hb.size hsr.1 hsr.2 (by rw [fourL_length]; omega))
    have hlen : (fourL l.length ++ fourL (sealL (fourL l.length) l)).length + l.length ≤ 140737488355328 := by rw [List.length_append, fourL_length, fourL_length]; omega
    have E := Lib.hid e; clear e
    clear hO1
    have HB1 := Lib.hid hb1; clear hb1
    go_enter Tryz.func42, Tryz.ntmps42
    go_wp2_with fail
    clear hmk
    refine F1.out.mono ?_
    rintro e w2 ⟨v2, rfl, hO2, hb2⟩
    rw [List.nil_append] at hO2
    have HO2 := Lib.hid hO2; have HB2 := Lib.hid (HB1.out.trans hb2); clear hO2 hb2
    go_wp2_with fail
    refine (HSL.out w2 v2 HO2.out HB2.out).mono ?_
    rintro e w2_ ⟨rfl, rfl⟩
    go_wp2_with fail
    refine (F2.out w2 v2 HO2.out HB2.out).mono ?_
    rintro e w3 ⟨v3, rfl, hO3, hb3⟩
    have HO3 := Lib.hid hO3; have HB3 := Lib.hid (HB2.out.trans hb3); clear hO3 hb3
    go_wp2_with (at_builtin; go_must (refine ap_sl rfl (.tmp 19) (.tmp 20) rfl w.heap.size v3 _ w3.heap.size _ l rfl rfl (HV.out.keep HB3.out) HO3.out HB3.out HB3.out.size hlen ?_); intro v4 w4 hO4 hB4 hz4 _)
    go_ret
    exact ⟨_, rfl, by rw [E.out]; exact hO4, hB4⟩
end Go.Proofs.YtplghaoflmaadaaGreatDoor
end

section
set_option linter.unusedVariables false
set_option linter.unusedSimpArgs false
namespace Go.Proofs.YtplghaoflmaadaaGreatDoor
open Go.RowKit

theorem sub1_snoc (c : UInt8) (new l : List UInt8) (b : UInt8) : sub1 c new (l ++ [b]) = sub1 c new l ++ (if b = c then new else [b]) := by simp [sub1]
theorem str_get (s : ByteArray) (k : Nat) (h : k < s.size) : s.toList[k]? = some s[k] := by
  rw [ByteArray.toList_eq, Array.getElem?_toList]; exact Array.getElem?_eq_getElem (xs := s.data) h
theorem byteOf_nat (b : UInt8) : byteOf (b.toNat : Int) = b := by unfold byteOf; simp

set_option maxHeartbeats 1000000 in
set_option maxRecDepth 20000 in
theorem rtext_any (base : Nat) (v : Value) (l : List UInt8) (s : ByteArray) (w : World) (HO : OwnB w base v l) (hbase : base ≤ w.heap.size) (hs : s.size ≤ 1000000000) (hl : l.length ≤ 100000000000) :
    Calls Tryz.prog 92 #[v, .string s] w (RetB base w (l ++ esc s.toList ++ [0, 0])) := by
  rw [esc_eq]
  have HO0 := Lib.hid HO; clear HO
  have hlen := fun k => sub1_length_le 0 [0, 255] 2 (by decide) (by decide) (s.toList.take k)
  have hlen' : ∀ k, (sub1 0 [0, 255] (s.toList.take k)).length ≤ 2000000000 := fun k => by
    have h1 := hlen k; have h2 := List.length_take_le k s.toList; have h3 : (s.toList.take k).length ≤ s.toList.length := List.length_take_le' k s.toList
    rw [str_len] at h3; omega
  clear hlen
  have HL := Lib.hid hlen'; clear hlen'
  go_enter Tryz.func92, Tryz.ntmps92
  go_wp2
  go_loopw [0, 5] (fun u i wr => ∃ k : Nat, k ≤ s.size ∧ i = .int .i64 k ∧ Below base w wr ∧ base ≤ wr.heap.size ∧ OwnB wr base u (l ++ sub1 0 [0, 255] (s.toList.take k))) (fun _ i _ => s.size - (intOf i).toNat)
  case atStart => exact ⟨0, by omega, rfl, Below.refl _ _, hbase, by simpa [sub1] using HO0.out⟩
  case round =>
    obtain ⟨k, hk, rfl, hB, hz, hO⟩ := hrel
    clear HO0
    have hl1 := HL.out k
    by_cases hlt : k < s.size
    · have hsn : sub1 0 [0, 255] (s.toList.take (k + 1)) = sub1 0 [0, 255] (s.toList.take k) ++ (if s[k] = 0 then [0, 255] else [s[k]]) := by rw [take_snoc _ _ _ (str_get s k hlt), sub1_snoc]
      have HS := Lib.hid hsn; clear hsn
      have hbd : (s[k].toNat : Int) < 256 := by have := s[k].toNat_lt; omega
      have hbc : [Value.int .u8 (s[k].toNat : Int)] = bcells [s[k]] := rfl
      have HBC := Lib.hid hbc; clear hbc
      have HO' := Lib.hid hO; clear hO
      by_cases h0 : s[k] = 0
      · have h0' : (((s[k].toNat : Int)) == 0) = true := by rw [h0]; rfl
        have H0 := Lib.hid h0; clear h0
        go_wp2_with (first | (at_builtin; refine ap_lit rfl (.tmp 12) (.tmp 16) rfl base u0 _ [s[k]] _ 1 1 rfl rfl rfl HBC.out HO'.out hB hz (by simp; omega) ?_; intro v1 w1 hO1 hB1 hz1; have HO1 := Lib.hid hO1; clear hO1 HO' hB hz) | (at_builtin; refine ap_lit rfl (.tmp 22) (.tmp 23) rfl base v1 _ [255] #[.int .u8 255] 1 1 rfl rfl rfl rfl HO1.out hB1 hz1 (by simp; omega) ?_; intro v2 w2 hO2 hB2 hz2; clear HO1 hB1 hz1))
        go_roundw
        case rel => exact ⟨k + 1, by omega, by go_num, hB2, hz2, by rw [HS.out, if_pos H0.out]; rw [H0.out] at hO2; simpa [List.append_assoc] using hO2⟩
        case measure => (first | (simp [intOf]; done) | (simp [intOf]; omega))
      · have h0' : (((s[k].toNat : Int)) == 0) = false := by
          rw [beq_eq_false_iff_ne]; intro h; apply h0; exact UInt8.toNat_inj.1 (by simpa using h)
        have H0 := Lib.hid h0; clear h0
        go_wp2_with (at_builtin; refine ap_lit rfl (.tmp 12) (.tmp 16) rfl base u0 _ [s[k]] _ 1 1 rfl rfl rfl HBC.out HO'.out hB hz (by simp; omega) ?_; intro v1 w1 hO1 hB1 hz1; have HO1 := Lib.hid hO1; clear hO1 HO' hB hz)
        go_roundw
        case rel => exact ⟨k + 1, by omega, by go_num, hB1, hz1, by rw [HS.out, if_neg H0.out, ← List.append_assoc]; exact HO1.out⟩
        case measure => (first | (simp [intOf]; done) | (simp [intOf]; omega))
    · have hk' : s.toList.take k = s.toList := List.take_of_length_le (by rw [str_len]; omega)
      rw [hk'] at hO hl1
      have HO' := Lib.hid hO; clear hO hk'
      go_wp2_with (at_builtin; refine ap_lit rfl (.tmp 25) (.tmp 26) rfl base u0 _ [0, 0] #[.int .u8 0, .int .u8 0] 2 2 rfl rfl rfl rfl HO'.out hB hz (by simp; omega) ?_; intro v1 w1 hO1 hB1 hz1; clear HO' hB hz)
      go_ret
      exact ⟨_, rfl, by simpa [List.append_assoc] using hO1, hB1⟩

set_option maxHeartbeats 1000000 in
theorem rBytes_any (t p c : ByteArray) (r : Int) (w : World) (he : Env w) (h1 : t.size + p.size + c.size ≤ 10000000) :
    Calls Tryz.prog 49 #[.agg #[.string t, .string p, .int .i64 r, .string c]] w (RetB w.heap.size w (keyBytes t p r c)) := by
  unfold keyBytes rowU
  go_enter Tryz.func49, Tryz.ntmps49
  go_wp2_with fail
  have hb0 : Below w.heap.size w (w.alloc (.cells #[.string t, .string p, .int .i64 r, .string c] 24)) := below_alloc (Below.refl _ _) _
  have hc0 : (w.alloc (.cells #[.string t, .string p, .int .i64 r, .string c] 24)).cell? ⟨w.heap.size, 0, none⟩ = some (.string t) := by simp
  have hc1 : (w.alloc (.cells #[.string t, .string p, .int .i64 r, .string c] 24)).cell? ⟨w.heap.size, 1, none⟩ = some (.string p) := by simp
  have hc2 : (w.alloc (.cells #[.string t, .string p, .int .i64 r, .string c] 24)).cell? ⟨w.heap.size, 2, none⟩ = some (.int .i64 r) := by simp
  have hc3 : (w.alloc (.cells #[.string t, .string p, .int .i64 r, .string c] 24)).cell? ⟨w.heap.size, 3, none⟩ = some (.string c) := by simp
  have he1 := he.below hb0
  generalize w.alloc (.cells #[.string t, .string p, .int .i64 r, .string c] 24) = W at *
  have HS : ∀ w', Below W.heap.size W w' → (Below W.heap.size W w' ∧ w'.cell? ⟨w.heap.size, 0, none⟩ = some (.string t) ∧ w'.cell? ⟨w.heap.size, 1, none⟩ = some (.string p)) := fun w' h => ⟨h, cell_keep h hc0, cell_keep h hc1⟩
  have HS' := Lib.hid HS; clear HS
  have HT1 : ∀ w', Below W.heap.size W w' → Calls Tryz.prog 92 #[.slice none 0 0, .string t] w' (RetB W.heap.size w' ([] ++ esc t.toList ++ [0, 0])) := fun w' h => rtext_any W.heap.size _ [] t w' (OwnB.nil _ _) h.size (by omega) (by simp)
  have HT2 : ∀ w' v, Below W.heap.size W w' → OwnB w' W.heap.size v ([] ++ esc t.toList ++ [0, 0]) → Calls Tryz.prog 92 #[v, .string p] w' (RetB W.heap.size w' (([] ++ esc t.toList ++ [0, 0]) ++ esc p.toList ++ [0, 0])) := fun w' v h ho => rtext_any W.heap.size v _ p w' ho h.size (by omega) (by have := esc_len t.toList; rw [str_len] at this; simp; omega)
  have HT1' := Lib.hid HT1; clear HT1
  have HT2' := Lib.hid HT2; clear HT2
  go_region_held3 (fun w' => Below W.heap.size W w' ∧ w'.cell? ⟨w.heap.size, 0, none⟩ = some (.string t) ∧ w'.cell? ⟨w.heap.size, 1, none⟩ = some (.string p)) (first | exact HS'.out _ (Below.drew (Below.refl _ _)) | exact HS'.out _ (Below.trans (And.left (by assumption)) (by assumption)))
    (first | (go_at_call_of 92 t; refine (HT1'.out _ (‹Below W.heap.size W _ ∧ _›).1).mono ?_; rintro e w' ⟨v, rfl, HO, hb⟩) | (go_at_call_of 92 p; refine (HT2'.out _ _ (‹Below W.heap.size W _ ∧ _›).1 (by assumption)).mono ?_; rintro e w' ⟨v, rfl, HO2, hb2⟩))
  have hB := (‹Below W.heap.size W _ ∧ _›).1
  have hr := cell_keep hB hc2
  go_wp2_with fail
  generalize hpre : [] ++ esc t.toList ++ [0, 0] ++ esc p.toList ++ [0, 0] = pre at *
  have hpl : pre.length ≤ 100000000 := by have h1 := esc_len t.toList; have h2 := esc_len p.toList; rw [str_len] at h1 h2; rw [← hpre]; simp; omega
  have HP := Lib.hid hpre; clear hpre
  generalize hU : Go.bits .xor .u64 (IntKind.u64.wrap r) 9223372036854775808 = U at *
  have HU := Lib.hid hU; clear hU
  have HO2' := Lib.hid (show OwnB _ W.heap.size _ pre by assumption)
  go_loopw [3, 5] (fun v i wr => Below W.heap.size W wr ∧ ((∃ j : Nat, j ≤ 7 ∧ i = .int .i64 j ∧ OwnB wr W.heap.size v (pre ++ (row8 U).take (7 - j))) ∨ (i = .int .i64 (-1) ∧ OwnB wr W.heap.size v (pre ++ row8 U)))) (fun _ i _ => (intOf i + 1).toNat)
  case atStart => exact ⟨hB, .inl ⟨7, by omega, rfl, by simpa using HO2'.out⟩⟩
  case round =>
    obtain ⟨hBr, hO⟩ := hrel
    clear HT1' HT2' HS' HO2'
    rcases hO with ⟨j, hj, rfl, hO⟩ | ⟨rfl, hO⟩
    · have ht := take_snoc (row8 U) (7 - j) _ (row8_get U (7 - j) (by omega))
      rw [show 56 - 8 * (7 - j) = 8 * j by omega] at ht
      have HT := Lib.hid ht; clear ht
      have hlen : (pre ++ (row8 U).take (7 - j)).length + 1 ≤ 140737488355328 := by simp only [List.length_append, List.length_take, row8_length]; omega
      have hm : 0 ≤ U / 2 ^ (8 * j) % 256 ∧ U / 2 ^ (8 * j) % 256 < 256 := ⟨Int.emod_nonneg _ (by decide), Int.emod_lt_of_pos _ (by decide)⟩
      have HM := Lib.hid hm; clear hm
      have HO := Lib.hid hO; clear hO
      have hsz := hBr.size
      go_wp2_with (at_builtin; go_must (refine ap_lit rfl (.tmp 20) (.tmp 27) rfl W.heap.size u3 _ [byteOf (U / 2 ^ (8 * j) % 256)] _ 1 1 rfl rfl rfl (bcells_one_byte HM.out.1 HM.out.2) HO.out hBr hsz hlen ?_); intro v1 w1 hO1 hB1 hz1; clear hBr HO)
      rcases Nat.eq_zero_or_pos j with h0 | h0
      · subst h0
        go_roundw
        case rel => exact ⟨hB1, .inr ⟨by go_num, by rw [List.append_assoc, ← HT.out, List.take_of_length_le (by rw [row8_length]; omega)] at hO1; exact hO1⟩⟩
        case measure => (first | (simp [intOf]; done) | (simp [intOf]; omega))
      · obtain ⟨i, rfl⟩ : ∃ i, j = i + 1 := ⟨j - 1, by omega⟩
        go_roundw
        case rel => exact ⟨hB1, .inl ⟨i, by omega, by go_num, by rw [List.append_assoc, ← HT.out, show 7 - (i + 1) + 1 = 7 - i by omega] at hO1; exact hO1⟩⟩
        case measure => (first | (simp [intOf]; done) | (simp [intOf]; omega))
    · have hc := cell_keep hBr hc3
      have HTC := rtext_any W.heap.size u3 _ c wr hO hBr.size (by omega) (by simp only [List.length_append, row8_length]; omega)
      clear hO
      have HTC' := Lib.hid HTC; clear HTC
      go_wp2_with (go_at_call 92; refine HTC'.out.mono ?_; rintro e w1 ⟨v1, rfl, hO1, hB1⟩)
      go_ret
      refine ⟨_, rfl, ?_, ?_⟩
      · rw [← HP.out] at hO1
        simpa [List.append_assoc] using hO1.weaken hb0.size
      · exact hb0.trans ((hBr.trans hB1).mono hb0.size)
end Go.Proofs.YtplghaoflmaadaaGreatDoor
end
