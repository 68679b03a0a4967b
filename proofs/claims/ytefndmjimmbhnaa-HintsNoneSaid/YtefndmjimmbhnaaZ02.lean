/- Contracts of the codec's put and Put: a number in bytes. Conditions: the number is of uint64; the bytes leave room. Contract of the codec's Put. Conditions: the number is of uint64; the bytes leave room. Contract of the codec's four. Conditions: the number is of uint32; the bytes leave room. -/
import Derived.Test.YtefndmjimmbhnaaZ00
section
set_option linter.unusedVariables false
set_option linter.unusedSimpArgs false
set_option maxRecDepth 20000
namespace Go.Proofs.Ytefndmjimmbhnaa
open Go.RowKit

theorem or128 (y : Nat) (h : y < 256) : Go.bits .or .u8 (y : Int) 128 = ((y % 128 + 128 : Nat) : Int) := by
  have key : ∀ y : Fin 256, Go.bits .or .u8 ((y.val : Nat) : Int) 128 = ((y.val % 128 + 128 : Nat) : Int) := by decide +kernel
  exact key ⟨y, h⟩
theorem bcells_nat (n : Nat) (h : n < 256) : [Value.int .u8 (n : Int)] = bcells [UInt8.ofNat n] := by
  simp [bcells, UInt8.toNat_ofNat']; omega

set_option maxHeartbeats 1000000 in
theorem put_any (base : Nat) (v : Value) (l : List UInt8) (u : Nat) (w : World) (HO : OwnB w base v l) (hbase : base ≤ w.heap.size) (hu : u < 18446744073709551616) (hl : l.length ≤ 100000000000) :
    Calls Try.prog 72 #[v, .int .u64 (u : Int)] w (RetB base w (l ++ putL u)) := by
  have HO0 := Lib.hid HO; clear HO
  have hp := putL_len 9 u (by omega)
  have HT := Lib.hid (rfl : l ++ putL u = l ++ putL u)
  generalize htot : l ++ putL u = tot at *
  have htl : tot.length ≤ 100000000010 := by rw [← htot]; simp; omega
  clear hp
  have HTO := Lib.hid htot; clear htot
  go_enter Try.func72, Try.ntmps72
  go_wp2
  go_loopw [0, 1] (fun s i wr => ∃ (m : Nat) (acc : List UInt8), m ≤ u ∧ i = .int .u64 (m : Int) ∧ Below base w wr ∧ base ≤ wr.heap.size ∧ OwnB wr base s acc ∧ acc ++ putL m = tot) (fun _ i _ => (intOf i).toNat)
  case atStart => exact ⟨u, l, Nat.le_refl _, rfl, Below.refl _ _, hbase, HO0.out, HTO.out⟩
  case round =>
    obtain ⟨m, acc, hm, rfl, hB, hz, hO, he⟩ := hrel
    have hlen : acc.length + 1 ≤ 140737488355328 := by
      have h1 := congrArg List.length he; rw [List.length_append] at h1; omega
    clear HO0
    have HO := Lib.hid hO; clear hO
    by_cases h : m < 128
    · rw [putL_small m h] at he
      have HE := Lib.hid he; clear he
      have hb := bcells_nat m (by omega)
      have HBC := Lib.hid hb; clear hb
      have hmod : (m : Int) % 256 = m := by omega
      go_wp2_with (at_builtin; go_must (refine ap_lit rfl (.tmp 15) (.tmp 18) rfl base u0 acc [UInt8.ofNat m] _ 1 1 rfl rfl rfl HBC.out HO.out hB hz hlen ?_); intro v1 w1 hO1 hB1 hz1; clear HO hB hz)
      go_ret
      exact ⟨_, rfl, by rw [HE.out] at hO1; exact hO1, hB1⟩
    · rw [putL_great m h] at he
      have HE := Lib.hid he; clear he
      have hor := or128 (m % 256) (by omega)
      have hmm : m % 256 % 128 = m % 128 := by omega
      rw [hmm] at hor
      have hb := bcells_nat (m % 128 + 128) (by omega)
      have HBC := Lib.hid hb; clear hb hmm
      have hcast : ((m % 256 : Nat) : Int) = (m : Int) % 256 := by omega
      rw [hcast] at hor
      clear hcast
      go_wp2_with (at_builtin; go_must (refine ap_lit rfl (.tmp 9) (.tmp 13) rfl base u0 acc [UInt8.ofNat (m % 128 + 128)] _ 1 1 rfl rfl rfl HBC.out HO.out hB hz hlen ?_); intro v1 w1 hO1 hB1 hz1; clear HO hB hz)
      go_roundw
      case rel => exact ⟨m / 128, acc ++ [UInt8.ofNat (m % 128 + 128)], by omega, by go_num, hB1, hz1, hO1, by rw [List.append_assoc]; exact HE.out⟩
      case measure => (first | (simp [intOf]; done) | (simp [intOf]; omega))
end Go.Proofs.Ytefndmjimmbhnaa
end

section
set_option linter.unusedVariables false
set_option linter.unusedSimpArgs false
set_option maxRecDepth 20000
namespace Go.Proofs.Ytefndmjimmbhnaa
open Go.RowKit

set_option maxHeartbeats 1000000 in
theorem Put_any (base : Nat) (v : Value) (l : List UInt8) (u : Nat) (w : World) (HO : OwnB w base v l) (hu : u < 18446744073709551616) (hl : l.length ≤ 100000000000) :
    Calls Try.prog 76 #[v, .int .u64 (u : Int)] w (RetB w.heap.size w (l ++ putL u)) := by
  have HP := Lib.hid (fun W v1 (h : OwnB W w.heap.size v1 l) (hz : w.heap.size ≤ W.heap.size) => put_any w.heap.size v1 l u W h hz hu hl)
  have HO0 := Lib.hid HO
  rcases HO.2 with ⟨rfl, h0⟩ | ⟨g, cap, cur, rfl, hg, hrest⟩
  · clear HO
    obtain rfl : l = [] := List.eq_nil_of_length_eq_zero h0
    go_enter Try.func76, Try.ntmps76
    go_wp2_with fail
    refine (HP.out _ _ (OwnB.nil _ _) (Nat.le_refl _)).mono ?_
    rintro e w1 ⟨v1, rfl, hO1, hb1⟩
    go_wp2_with fail
    go_ret
    exact ⟨_, rfl, hO1, hb1⟩
  · have hcells : ∀ j x, (bcells l)[j]? = some x → w.cell? ((⟨g, 0, none⟩ : Addr).add j) = some x := World.ownsRow.cells HO rfl
    have HC := Lib.hid hcells; clear hcells HO hrest
    have hl2 : ([] : List UInt8).length + l.length ≤ 140737488355328 := by simp; omega
    go_enter Try.func76, Try.ntmps76
    go_wp2_with (at_builtin; go_must (refine ap_bytes rfl (.const (.slice none 0 0)) (.tmp 5) rfl w.heap.size (.slice none 0 0) [] l ⟨g, 0, none⟩ l.length cap rfl rfl rfl HC.out (OwnB.nil _ _) (Below.refl _ _) (Nat.le_refl _) hl2 ?_); intro v1 w1 hO1 hB1 hz1 _)
    rw [List.nil_append] at hO1
    refine (HP.out _ _ hO1 hz1).mono ?_
    rintro e w2 ⟨v2, rfl, hO2, hb2⟩
    have hB2 := hB1.trans hb2
    clear hO1 hB1 hb2
    go_wp2_with fail
    go_ret
    exact ⟨_, rfl, hO2, hB2⟩
end Go.Proofs.Ytefndmjimmbhnaa
end

section
set_option linter.unusedVariables false
set_option linter.unusedSimpArgs false
set_option maxRecDepth 20000
namespace Go.Proofs.Ytefndmjimmbhnaa
open Go.RowKit

theorem fourL_cells (n : Int) (h0 : 0 ≤ n) (h1 : n < 4294967296) : [Value.int .u8 (n / 16777216), .int .u8 (n / 65536 % 256), .int .u8 (n / 256 % 256), .int .u8 (n % 256)] = bcells (fourL n) := by
  have h : ∀ m : Int, ((byteOf (m % 256)).toNat : Int) = m % 256 := fun m => byteOf_val (Int.emod_nonneg _ (by decide)) (Int.emod_lt_of_pos _ (by decide))
  have e : n / 16777216 = n / 16777216 % 256 := by omega
  have h' := h (n / 16777216)
  simp only [bcells, fourL, List.map_cons, List.map_nil, h (n / 65536), h (n / 256), h n, h']
  rw [← e]

set_option maxHeartbeats 1000000 in
theorem four_any (base : Nat) (v : Value) (l : List UInt8) (n : Int) (w : World) (HO : OwnB w base v l) (hbase : base ≤ w.heap.size) (h0 : 0 ≤ n) (h1 : n < 4294967296) (hl : l.length ≤ 100000000000) :
    Calls Try.prog 75 #[v, .int .u32 n] w (RetB base w (l ++ fourL n)) := by
  have HO0 := Lib.hid HO; clear HO
  have HC := Lib.hid (fourL_cells n h0 h1)
  have hl2 : l.length + (fourL n).length ≤ 140737488355328 := by simp [fourL]; omega
  go_enter Try.func75, Try.ntmps75
  go_wp2_with (at_builtin; go_must (refine ap_lit rfl (.tmp 5) (.tmp 17) rfl base v l (fourL n) _ 4 4 rfl rfl rfl HC.out HO0.out (Below.refl _ _) hbase hl2 ?_); intro v1 w1 hO1 hB1 hz1)
  go_ret
  exact ⟨_, rfl, hO1, hB1⟩
end Go.Proofs.Ytefndmjimmbhnaa
end
