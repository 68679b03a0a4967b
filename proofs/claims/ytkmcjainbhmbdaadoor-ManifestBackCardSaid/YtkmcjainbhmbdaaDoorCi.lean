/- Contracts of the reference's Four, Fourth, Put. Conditions: lengths leave room. -/
import Derived.Test.YtkmcjainbhmbdaaDoorCh
set_option linter.unusedVariables false
set_option linter.unusedSimpArgs false
set_option maxRecDepth 20000
namespace Go.Proofs.YtkmcjainbhmbdaaDoor
open Go.RowKit

theorem OwnB.lit (w : World) (base : Nat) (cs : Array Value) (l : List UInt8) (n : Nat) (hb : base ≤ w.heap.size) (hn : n = l.length) (hl : l.length ≤ 1000000) (hc : cs.toList = bcells l) : OwnB (w.alloc (.cells cs 5)) base (.slice (some ⟨w.heap.size, 0, none⟩) n n) l := by
  subst hn
  have h := World.ownsRow_lit (base := base) (e := 5) (size := 1) w cs l.length hb (by unfold maxLen; omega) (by have := congrArg List.length hc; rw [bcells_length] at this; simpa using this)
  rw [hc] at h
  exact h

theorem rFour_any (n : Int) (w : World) (h0 : 0 ≤ n) (h1 : n < 4294967296) :
    Calls Tryd.prog 96 #[.int .u32 n] w (RetB w.heap.size w (fourL n)) := by
  have HC := Lib.hid (fourL_cells n h0 h1)
  go_enter Tryd.func96, Tryd.ntmps96
  go_wp2_with fail
  go_ret
  exact ⟨_, rfl, OwnB.lit w w.heap.size _ (fourL n) 4 (Nat.le_refl _) rfl (by rw [fourL_length]; omega) HC.out, below_alloc (Below.refl _ w) _⟩

theorem or32 (a y i : Nat) (hy : y < 2 ^ i) (h : a * 2 ^ i + y < 4294967296) : Go.bits .or .u32 (((a * 2 ^ i : Nat) : Int)) (y : Int) = ((a * 2 ^ i + y : Nat) : Int) := by
  have e : (BitVec.ofInt 32 ((a * 2 ^ i : Nat) : Int) ||| BitVec.ofInt 32 (y : Int)).toNat = a * 2 ^ i + y := by
    rw [BitVec.toNat_or, BitVec.ofInt_natCast, BitVec.ofInt_natCast, BitVec.toNat_ofNat, BitVec.toNat_ofNat, Nat.mod_eq_of_lt (by omega), Nat.mod_eq_of_lt (by omega)]
    have := Nat.shiftLeft_add_eq_or_of_lt (b := y) (i := i) hy a
    rw [Nat.shiftLeft_eq] at this
    exact this.symm
  show IntKind.u32.wrap ((BitVec.ofInt 32 ((a * 2 ^ i : Nat) : Int) ||| BitVec.ofInt 32 (y : Int)).toNat : Int) = _
  rw [e, wrap32u _ h]
theorem num32_shifts (a b c d : UInt8) : Go.bits .or .u32 (Go.bits .or .u32 (Go.bits .or .u32 ((a.toNat : Int) * 16777216) ((b.toNat : Int) * 65536)) ((c.toNat : Int) * 256)) (d.toNat : Int) = num32 [a, b, c, d] := by
  have b0 := a.toNat_lt; have b1 := b.toNat_lt; have b2 := c.toNat_lt; have b3 := d.toNat_lt
  rw [num32_four]
  generalize a.toNat = a at *; generalize b.toNat = b at *; generalize c.toNat = c at *; generalize d.toNat = d at *
  have e1 := or32 a (b * 65536) 24 (by omega) (by omega)
  have e2 := or32 (a * 256 + b) (c * 256) 16 (by omega) (by omega)
  have e3 := or32 (a * 65536 + b * 256 + c) d 8 (by omega) (by omega)
  rw [show ((a : Int) * 16777216) = ((a * 2 ^ 24 : Nat) : Int) by omega, show ((b : Int) * 65536) = ((b * 65536 : Nat) : Int) by omega, e1, show ((a * 2 ^ 24 + b * 65536 : Nat) : Int) = (((a * 256 + b) * 2 ^ 16 : Nat) : Int) by omega, show ((c : Int) * 256) = ((c * 256 : Nat) : Int) by omega, e2, show (((a * 256 + b) * 2 ^ 16 + c * 256 : Nat) : Int) = (((a * 65536 + b * 256 + c) * 2 ^ 8 : Nat) : Int) by omega, e3]
  omega
set_option maxHeartbeats 1000000 in
theorem rFourth_any (v : Value) (l : List UInt8) (B : Nat) (w : World) (hv : SlB B w v l) (h4 : 4 ≤ l.length) (hl : l.length ≤ 1000000) :
    Calls Tryd.prog 99 #[v] w fun e w' => e = .returned (.int .u32 (num32 (l.take 4))) ∧ ∃ n, w' = w.drewN n := by
  obtain ⟨a, c, rfl, hc, hx⟩ := hv.ex
  obtain ⟨gb, o, rfl, hgb, hcell⟩ := hx (by omega)
  obtain ⟨x0, x1, x2, x3, r, rfl⟩ : ∃ x0 x1 x2 x3 r, l = x0 :: x1 :: x2 :: x3 :: r := by
    match l, h4 with
    | x0 :: x1 :: x2 :: x3 :: r, _ => exact ⟨x0, x1, x2, x3, r, rfl⟩
  have c0 : w.cell? ⟨gb, o, none⟩ = some (.int .u8 (x0.toNat : Int)) := hcell 0 (by omega)
  have c1 : w.cell? ⟨gb, o + 1, none⟩ = some (.int .u8 (x1.toNat : Int)) := hcell 1 (by omega)
  have c2 : w.cell? ⟨gb, o + 2, none⟩ = some (.int .u8 (x2.toNat : Int)) := hcell 2 (by omega)
  have c3 : w.cell? ⟨gb, o + 3, none⟩ = some (.int .u8 (x3.toNat : Int)) := hcell 3 (by omega)
  have b0 := x0.toNat_lt; have b1 := x1.toNat_lt; have b2 := x2.toNat_lt; have b3 := x3.toNat_lt
  have HN := Lib.hid (num32_shifts x0 x1 x2 x3)
  clear hcell hx hv
  generalize hn : (x0 :: x1 :: x2 :: x3 :: r).length = n at *
  clear hn
  go_enter Tryd.func99, Tryd.ntmps99
  go_wp2_with fail
  go_quiet (fail)
  go_wp2_with fail
  go_ret
  refine ⟨ret_i ?_, nq, rfl⟩
  exact HN.out

set_option maxHeartbeats 1000000 in
theorem rPut_any (base : Nat) (v : Value) (l : List UInt8) (u : Nat) (w : World) (HO : OwnB w base v l) (hu : u < 18446744073709551616) (hl : l.length ≤ 100000000) :
    Calls Tryd.prog 54 #[v, .int .u64 (u : Int)] w (RetB w.heap.size w (l ++ putL u)) := by
  have hp := putL_len 9 u (by omega)
  have HT := Lib.hid (rfl : l ++ putL u = l ++ putL u)
  generalize htot : l ++ putL u = tot at *
  have htl : tot.length ≤ 100000000010 := by rw [← htot]; simp; omega
  clear hp
  have HTO := Lib.hid htot; clear htot HT
  rcases HO.2 with ⟨rfl, h0⟩ | ⟨g, cap, cur, rfl, hg, hrest⟩
  · clear HO
    obtain rfl : l = [] := List.eq_nil_of_length_eq_zero h0
    clear h0
    have hO1 := Lib.hid (OwnB.lit w w.heap.size #[] [] 0 (Nat.le_refl _) rfl (by simp) (by simp [bcells]))
    have hB1 := Lib.hid (below_alloc (Below.refl _ w) (.cells #[] 5))
    have hz1 : w.heap.size ≤ (w.alloc (.cells #[] 5)).heap.size := hB1.out.size
    have HZ1 := Lib.hid hz1; clear hz1
    go_enter Tryd.func54, Tryd.ntmps54
    go_wp2_with fail
    generalize Value.slice (some ⟨w.heap.size, 0, none⟩) 0 0 = v1 at *
    generalize w.alloc (.cells #[] 5) = w1 at *
    replace hB1 := hB1.out
    replace hO1 := hO1.out
    have hz1 := HZ1.out
    clear HZ1
    go_loopw [1, 5] (fun i s wr => ∃ (m : Nat) (acc : List UInt8), m ≤ u ∧ i = .int .u64 (m : Int) ∧ Below w.heap.size w wr ∧ w.heap.size ≤ wr.heap.size ∧ OwnB wr w.heap.size s acc ∧ acc ++ putL m = tot) (fun i _ _ => (intOf i).toNat)
    case atStart => exact ⟨u, [], Nat.le_refl _, rfl, hB1, hz1, hO1, HTO.out⟩
    case round =>
      obtain ⟨m, acc, hm, rfl, hB, hz, hO, he⟩ := hrel
      have hlen : acc.length + 1 ≤ 140737488355328 := by
        have h1 := congrArg List.length he; rw [List.length_append] at h1; omega
      clear hO1 hB1 hz1
      have HO := Lib.hid hO; clear hO
      by_cases h : m < 128
      · rw [putL_small m h] at he
        have HE := Lib.hid he; clear he
        have hb := bcells_nat m (by omega)
        have HBC := Lib.hid hb; clear hb
        have hmod : (m : Int) % 256 = m := by omega
        go_wp2_with (at_builtin; go_must (refine ap_lit rfl (.tmp 20) (.tmp 23) rfl w.heap.size u5 acc [UInt8.ofNat m] _ 1 1 rfl rfl rfl HBC.out HO.out hB hz hlen ?_); intro v2 w2 hO2 hB2 hz2; clear HO hB hz)
        go_ret
        exact ⟨_, rfl, by rw [HE.out] at hO2; exact hO2, hB2⟩
      · rw [putL_great m h] at he
        have HE := Lib.hid he; clear he
        have hb := bcells_nat (m % 128 + 128) (by omega)
        have hcast : ((m % 128 + 128 : Nat) : Int) = (m : Int) % 128 + 128 := by omega
        rw [hcast] at hb
        clear hcast
        have HBC := Lib.hid hb; clear hb
        go_wp2_with (at_builtin; go_must (refine ap_lit rfl (.tmp 11) (.tmp 16) rfl w.heap.size u5 acc [UInt8.ofNat (m % 128 + 128)] _ 1 1 rfl rfl rfl HBC.out HO.out hB hz hlen ?_); intro v2 w2 hO2 hB2 hz2; clear HO hB hz)
        go_roundw
        case rel => exact ⟨m / 128, acc ++ [UInt8.ofNat (m % 128 + 128)], by omega, by go_num, hB2, hz2, hO2, by rw [List.append_assoc]; exact HE.out⟩
        case measure => (first | (simp [intOf]; done) | (simp [intOf]; omega))
  · have hcells : ∀ j x, (bcells l)[j]? = some x → w.cell? ((⟨g, 0, none⟩ : Addr).add j) = some x := World.ownsRow.cells HO rfl
    have HC := Lib.hid (fun j x h => (cell_keep (below_alloc (Below.refl _ w) (.cells #[] 5)) (hcells j x h)))
    clear hcells HO hrest
    have hO0 := Lib.hid (OwnB.lit w w.heap.size #[] [] 0 (Nat.le_refl _) rfl (by simp) (by simp [bcells]))
    have hB0 := Lib.hid (below_alloc (Below.refl _ w) (.cells #[] 5))
    have hl2 : ([] : List UInt8).length + l.length ≤ 140737488355328 := by simp; omega
    go_enter Tryd.func54, Tryd.ntmps54
    go_wp2_with (at_builtin; go_must (refine ap_bytes rfl (.tmp 6) (.tmp 7) rfl w.heap.size _ [] l ⟨g, 0, none⟩ l.length cap rfl rfl rfl HC.out hO0.out hB0.out hB0.out.size hl2 ?_); intro v1 w1 hO1 hB1 hz1 _)
    rw [List.nil_append] at hO1
    clear HC hO0 hB0 hl2
    go_loopw [1, 5] (fun i s wr => ∃ (m : Nat) (acc : List UInt8), m ≤ u ∧ i = .int .u64 (m : Int) ∧ Below w.heap.size w wr ∧ w.heap.size ≤ wr.heap.size ∧ OwnB wr w.heap.size s acc ∧ acc ++ putL m = tot) (fun i _ _ => (intOf i).toNat)
    case atStart => exact ⟨u, l, Nat.le_refl _, rfl, hB1, hz1, hO1, HTO.out⟩
    case round =>
      obtain ⟨m, acc, hm, rfl, hB, hz, hO, he⟩ := hrel
      have hlen : acc.length + 1 ≤ 140737488355328 := by
        have h1 := congrArg List.length he; rw [List.length_append] at h1; omega
      clear hO1 hB1 hz1
      have HO := Lib.hid hO; clear hO
      by_cases h : m < 128
      · rw [putL_small m h] at he
        have HE := Lib.hid he; clear he
        have hb := bcells_nat m (by omega)
        have HBC := Lib.hid hb; clear hb
        have hmod : (m : Int) % 256 = m := by omega
        go_wp2_with (at_builtin; go_must (refine ap_lit rfl (.tmp 20) (.tmp 23) rfl w.heap.size u5 acc [UInt8.ofNat m] _ 1 1 rfl rfl rfl HBC.out HO.out hB hz hlen ?_); intro v2 w2 hO2 hB2 hz2; clear HO hB hz)
        go_ret
        exact ⟨_, rfl, by rw [HE.out] at hO2; exact hO2, hB2⟩
      · rw [putL_great m h] at he
        have HE := Lib.hid he; clear he
        have hb := bcells_nat (m % 128 + 128) (by omega)
        have hcast : ((m % 128 + 128 : Nat) : Int) = (m : Int) % 128 + 128 := by omega
        rw [hcast] at hb
        clear hcast
        have HBC := Lib.hid hb; clear hb
        go_wp2_with (at_builtin; go_must (refine ap_lit rfl (.tmp 11) (.tmp 16) rfl w.heap.size u5 acc [UInt8.ofNat (m % 128 + 128)] _ 1 1 rfl rfl rfl HBC.out HO.out hB hz hlen ?_); intro v2 w2 hO2 hB2 hz2; clear HO hB hz)
        go_roundw
        case rel => exact ⟨m / 128, acc ++ [UInt8.ofNat (m % 128 + 128)], by omega, by go_num, hB2, hz2, hO2, by rw [List.append_assoc]; exact HE.out⟩
        case measure => (first | (simp [intOf]; done) | (simp [intOf]; omega))
end Go.Proofs.YtkmcjainbhmbdaaDoor
