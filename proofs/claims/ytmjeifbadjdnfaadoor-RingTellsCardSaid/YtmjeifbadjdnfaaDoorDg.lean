/- Contract of the reference's Digits at numbers from 0 on: the numeral. Condition: a number of int64. -/
import Derived.Test.YtmjeifbadjdnfaaDoorMem
import Derived.Lib.ItoaLen
import Derived.Lib.ItoaNum
set_option linter.unusedVariables false
set_option linter.unusedSimpArgs false
set_option maxRecDepth 50000
namespace Go.Proofs.YtmjeifbadjdnfaaDoor
open Go.RowKit Go.Lib

theorem decDigits_step (m : Nat) (h : ¬ m < 10) (A : List UInt8) : decDigits m ++ A = decDigits (m / 10) ++ (byteOf (48 + (m : Int) % 10) :: A) := by
  rw [decDigits, dif_neg h]
  have e : byteOf (48 + (m : Int) % 10) = UInt8.ofNat (48 + m % 10) := by unfold byteOf; congr 1
  rw [e, List.append_assoc]; rfl
theorem decDigits_last (m : Nat) (h : m < 10) (A : List UInt8) : decDigits m ++ A = byteOf (48 + (m : Int) % 10) :: A := by
  rw [decDigits, dif_pos h]
  have e : byteOf (48 + (m : Int) % 10) = UInt8.ofNat (48 + m) := by unfold byteOf; congr 1; omega
  rw [e]; rfl
theorem cat_byte (b : UInt8) (A : List UInt8) : ((⟨#[b]⟩ : ByteArray) ++ ⟨A.toArray⟩) = ⟨(b :: A).toArray⟩ := by
  rw [show (⟨#[b]⟩ : ByteArray) = ⟨[b].toArray⟩ from rfl, ByteArray.mk_append_mk]; rfl
theorem digits_len (n m : Nat) (A : List UInt8) (h : decDigits m ++ A = decDigits n) (hn : n ≤ 9223372036854775808) : A.length ≤ 1000 := by
  have h1 : (decDigits n).length ≤ 1000 := by
    have h2 := itoa_length_le (-(n : Int)) (by omega) (by omega)
    unfold itoa at h2
    split at h2
    · have h3 : (-(n : Int)).natAbs = n := by omega
      rw [h3] at h2; simp only [List.length_cons] at h2; omega
    · have h3 : n = 0 := by omega
      subst h3; rw [decDigits, dif_pos (by decide)]; simp
  have := congrArg List.length h
  rw [List.length_append] at this; omega

theorem Digits_pos (n : Nat) (h1 : n ≤ 9223372036854775807) (w : World) :
    Calls Tryd.prog 51 #[.int .i64 (n : Int)] w fun e w' => e = .returned (sv (decDigits n)) ∧ Below w.heap.size w w' := by
  go_enter Tryd.func51, Tryd.ntmps51
  go_wp2
  go_loopw [0, 3] (fun i u wr => ∃ (m : Nat) (A : List UInt8), m ≤ n ∧ i = .int .i64 (m : Int) ∧ u = sv A ∧ decDigits m ++ A = decDigits n ∧ Below w.heap.size w wr) (fun i _ _ => (intOf i).toNat)
  case atStart => exact ⟨n, [], Nat.le_refl _, rfl, rfl, by simp, Below.refl _ _⟩
  case round =>
    obtain ⟨m, A, hm, rfl, rfl, hd, hB⟩ := hrel
    have hA := digits_len n m A hd (by omega)
    have HD := Lib.hid hd; clear hd
    have hcv := conv_lit wr (48 + (m : Int) % 10) (by omega) (by omega)
    have hB2 := Lib.hid (below_alloc hB (.cells #[.int .u8 (48 + (m : Int) % 10)] 5))
    by_cases hlt : m < 10
    · have hq : (((m : Int) / 10) == 0) = true := by rw [beq_iff_eq]; omega
      have HL := Lib.hid (decDigits_last m hlt A)
      go_wp2
      go_ret
      exact ⟨ret_s (by rw [cat_byte, ← HL.out, HD.out]), hB2.out⟩
    · have hq : (((m : Int) / 10) == 0) = false := by rw [beq_eq_false_iff_ne]; omega
      have HL := Lib.hid (decDigits_step m hlt A)
      go_wp2
      go_roundw
      case rel => exact ⟨m / 10, byteOf (48 + (m : Int) % 10) :: A, by omega, by simp, by rw [cat_byte], by rw [← HL.out, HD.out], hB2.out⟩
      case measure => simp only [intOf]; omega

end Go.Proofs.YtmjeifbadjdnfaaDoor
