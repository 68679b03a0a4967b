/- Contracts of the codec's put and Put: a number in bytes. Conditions: the number is of uint64; the bytes leave room. -/
import Derived.Test.YtkmcjainbhmbdaaDoorMem
set_option linter.unusedVariables false
set_option linter.unusedSimpArgs false
set_option maxRecDepth 20000
namespace Go.Proofs.YtkmcjainbhmbdaaDoor
open Go.RowKit

theorem or128 (y : Nat) (h : y < 256) : Go.bits .or .u8 (y : Int) 128 = ((y % 128 + 128 : Nat) : Int) := by
  have key : ∀ y : Fin 256, Go.bits .or .u8 ((y.val : Nat) : Int) 128 = ((y.val % 128 + 128 : Nat) : Int) := by decide +kernel
  exact key ⟨y, h⟩
theorem bcells_nat (n : Nat) (h : n < 256) : [Value.int .u8 (n : Int)] = bcells [UInt8.ofNat n] := by
  simp [bcells, UInt8.toNat_ofNat']; omega

set_option maxHeartbeats 1000000 in
theorem put_any (base : Nat) (v : Value) (l : List UInt8) (u : Nat) (w : World) (HO : OwnB w base v l) (hbase : base ≤ w.heap.size) (hu : u < 18446744073709551616) (hl : l.length ≤ 100000000000) :
    Calls Tryd.prog 93 #[v, .int .u64 (u : Int)] w (RetB base w (l ++ putL u)) := by
  have HO0 := Lib.hid HO; clear HO
  have hp := putL_len 9 u (by omega)
  have HT := Lib.hid (rfl : l ++ putL u = l ++ putL u)
  generalize htot : l ++ putL u = tot at *
  have htl : tot.length ≤ 100000000010 := by rw [← htot]; simp; omega
  clear hp
  have HTO := Lib.hid htot; clear htot
  go_enter Tryd.func93, Tryd.ntmps93
  go_wp2
  go_loopw [0, 1] (fun s i wr => ∃ (m : Nat) (acc : List UInt8), m ≤ u ∧ i = .int .u64 (m : Int) ∧ Below base w wr ∧ base ≤ wr.heap.size ∧ OwnB wr base s acc ∧ acc ++ putL m = tot) (fun _ i _ => (intOf i).toNat)
  case atStart => exact ⟨u, l, Nat.le_refl _, rfl, Below.refl _ _, hbase, HO0.out, HTO.out⟩
  case round =>
    obtain ⟨m, acc, hm, rfl, hB, hz, hO, he⟩ := hrel
    have hlen : acc.length + 1 ≤ 140737488355328 := by
      have h1 := congrArg List.length he; rw [List.length_append] at h1; omega
    clear HO0
    have HO := Lib.hid hO; clear hO
    by_cases h : m < 128
    · rw [putL_small m h] at he
      have HE := Lib.hid he; clear he
      have hb := bcells_nat m (by omega)
      have HBC := Lib.hid hb; clear hb
      have hmod : (m : Int) % 256 = m := by omega
      go_wp2_with (at_builtin; go_must (refine ap_lit rfl (.tmp 15) (.tmp 18) rfl base u0 acc [UInt8.ofNat m] _ 1 1 rfl rfl rfl HBC.out HO.out hB hz hlen ?_); intro v1 w1 hO1 hB1 hz1; clear HO hB hz)
      go_ret
      exact ⟨_, rfl, by rw [HE.out] at hO1; exact hO1, hB1⟩
    · rw [putL_great m h] at he
      have HE := Lib.hid he; clear he
      have hor := or128 (m % 256) (by omega)
      have hmm : m % 256 % 128 = m % 128 := by omega
      rw [hmm] at hor
      have hb := bcells_nat (m % 128 + 128) (by omega)
      have HBC := Lib.hid hb; clear hb hmm
      have hcast : ((m % 256 : Nat) : Int) = (m : Int) % 256 := by omega
      rw [hcast] at hor
      clear hcast
      go_wp2_with (at_builtin; go_must (refine ap_lit rfl (.tmp 9) (.tmp 13) rfl base u0 acc [UInt8.ofNat (m % 128 + 128)] _ 1 1 rfl rfl rfl HBC.out HO.out hB hz hlen ?_); intro v1 w1 hO1 hB1 hz1; clear HO hB hz)
      go_roundw
      case rel => exact ⟨m / 128, acc ++ [UInt8.ofNat (m % 128 + 128)], by omega, by go_num, hB1, hz1, hO1, by rw [List.append_assoc]; exact HE.out⟩
      case measure => (first | (simp [intOf]; done) | (simp [intOf]; omega))
end Go.Proofs.YtkmcjainbhmbdaaDoor
