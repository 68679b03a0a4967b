/- Contracts of the reference's Get, Put, Four, Sum, Fourth. Conditions: lengths leave room. -/
import Derived.Test.YtkmcjainbhmbdaaDoorCg
import Derived.Deep.QuietTactic
import Derived.BigQuiet
set_option linter.unusedVariables false
set_option linter.unusedSimpArgs false
set_option maxRecDepth 20000
namespace Go.Proofs.YtkmcjainbhmbdaaDoor
open Go.RowKit

theorem add_part (z x k : Nat) (hz : z < 128 ^ k) (h9 : k ≤ 9) (hx : x < 256) (h1 : k = 9 → x ≤ 1) :
    IntKind.u64.wrap ((z : Int) + IntKind.u64.wrap ((x : Int) % 128 * 2 ^ (7 * k))) = ((z + x % 128 * 128 ^ k : Nat) : Int) := by
  have hw : ∀ n : Nat, n < 18446744073709551616 → IntKind.u64.wrap (n : Int) = n := fun n hn => by
    simp only [IntKind.wrap, IntKind.signed, IntKind.bits, Bool.false_and]
    simp; omega
  have hq : k = 9 → x % 128 ≤ 1 := fun e => by have := h1 e; omega
  have hm : x % 128 * 128 ^ k + 128 ^ k ≤ 18446744073709551616 := by
    by_cases e9 : k = 9
    · have a1 : x % 128 * 128 ^ k ≤ 1 * 128 ^ k := Nat.mul_le_mul_right _ (hq e9)
      have a2 : 128 ^ k ≤ 128 ^ 9 := Nat.pow_le_pow_right (by decide) (by omega)
      omega
    · have a1 : x % 128 * 128 ^ k ≤ 127 * 128 ^ k := Nat.mul_le_mul_right _ (by omega)
      have a2 : 128 ^ k ≤ 128 ^ 8 := Nat.pow_le_pow_right (by decide) (by omega)
      omega
  have hp : (2 : Nat) ^ (7 * k) = 128 ^ k := by rw [Nat.pow_mul]
  have hc : (x : Int) % 128 * 2 ^ (7 * k) = ((x % 128 * 128 ^ k : Nat) : Int) := by
    rw [← hp]; simp
  rw [hc, hw _ (by omega), show (z : Int) + ((x % 128 * 128 ^ k : Nat) : Int) = ((z + x % 128 * 128 ^ k : Nat) : Int) by omega, hw _ (by omega)]

set_option maxHeartbeats 1000000 in
theorem rGet_any (v : Value) (l : List UInt8) (B : Nat) (w : World) (hv : SlB B w v l) (hl : l.length ≤ 1000000) :
    Calls Tryd.prog 60 #[v] w fun e w' => e = getV (getL 0 0 l) ∧ w = w' := by
  obtain ⟨a, c, rfl, hc, hx⟩ := hv.ex
  have HX := Lib.hid hx; clear hx hv
  go_enter Tryd.func60, Tryd.ntmps60
  go_wp2_with fail
  go_loopw [4, 5] (fun u i wr => ∃ (k : Nat) (z : Nat), k ≤ l.length ∧ k ≤ 9 ∧ i = .int .i64 k ∧ wr = w ∧ u = .int .u64 (z : Int) ∧ z < 128 ^ k ∧ getL 0 0 l = getL k z (l.drop k)) (fun _ i _ => l.length - (intOf i).toNat)
  case atStart => exact ⟨0, 0, by omega, by omega, rfl, rfl, rfl, by decide, by simp⟩
  case round =>
    obtain ⟨k, z, hk, h9, rfl, rfl, rfl, hz, he⟩ := hrel
    by_cases hlt : k < l.length
    · obtain ⟨g, o, rfl, hg, hcell⟩ := HX.out (by omega)
      have hck := hcell k hlt
      rw [getL_step k z l hlt] at he
      have HE := Lib.hid he; clear he hcell
      have hxl := l[k].toNat_lt
      generalize l[k].toNat = x at *
      have done_ : ∀ y : Int, (k = 9 → x ≤ 1) → x < 128 → ¬ (0 < k ∧ x = 0) → y = (k : Int) + 1 → Ending.returned (.tuple #[.int .u64 (IntKind.u64.wrap ((z : Int) + IntKind.u64.wrap ((x : Int) % 128 * 2 ^ (7 * k)))), .int .i64 y]) = getV (getL 0 0 l) := by
        intro y h1 h2 h3 hy
        rw [if_neg (by omega), if_pos h2] at HE
        refine ret_get HE.out ?_ (by omega)
        rw [add_part z x k hz h9 hxl h1, Nat.mod_eq_of_lt h2]
      have next_ : (k = 9 → x ≤ 1) → ¬ x < 128 → (k ≤ 8 ∧ IntKind.u64.wrap ((z : Int) + IntKind.u64.wrap ((x : Int) % 128 * 2 ^ (7 * k))) = ((z + x % 128 * 128 ^ k : Nat) : Int) ∧ z + x % 128 * 128 ^ k < 128 ^ (k + 1) ∧ getL 0 0 l = getL (k + 1) (z + x % 128 * 128 ^ k) (l.drop (k + 1))) := by
        intro h1 h2
        rw [if_neg (by omega), if_neg h2] at HE
        refine ⟨by omega, add_part z x k hz h9 hxl h1, ?_, HE.out⟩
        have a1 : x % 128 * 128 ^ k ≤ 127 * 128 ^ k := Nat.mul_le_mul_right _ (by omega)
        have a2 : 128 ^ (k + 1) = 128 * 128 ^ k := by rw [Nat.pow_succ, Nat.mul_comm]
        omega
      have none_ : ((k = 9 ∧ 1 < x) ∨ (0 < k ∧ x = 0)) → getL 0 0 l = none := by
        intro h1
        rw [if_pos h1] at HE; exact HE.out
      have D := Lib.hid done_; have N := Lib.hid next_; have Z := Lib.hid none_
      clear done_ next_ none_ HE
      have q5 : (k : Int) < 10 := by omega
      by_cases hk9 : k = 9
      · have q1 : ((k : Int) == 9) = true := by rw [beq_iff_eq]; omega
        have HK := Lib.hid hk9; clear hk9
        have q0 : 0 < k := by have := HK.out; omega
        by_cases h1 : 1 < x
        · go_wp2_with fail
          go_ret2
          exact ⟨ret_none (Z.out (.inl ⟨HK.out, h1⟩)), rfl⟩
        · by_cases h0 : x = 0
          · have q2 : ((x : Int) == 0) = true := by rw [beq_iff_eq]; omega
            have q6 : x < 128 := by omega
            have HX0 := Lib.hid h0; clear h0
            go_wp2_with fail
            go_ret2
            exact ⟨ret_none (Z.out (.inr ⟨by omega, HX0.out⟩)), rfl⟩
          · have q2 : ((x : Int) == 0) = false := by rw [beq_eq_false_iff_ne]; omega
            have q6 : x < 128 := by omega
            go_wp2_with fail
            go_ret2
            exact ⟨D.out _ (by omega) (by omega) (by omega) rfl, rfl⟩
      · have q1 : ((k : Int) == 9) = false := by rw [beq_eq_false_iff_ne]; omega
        by_cases hk0 : k = 0
        · have q3 : ¬ 0 < k := by omega
          have HK0 := Lib.hid hk0; clear hk0
          by_cases hs : x < 128
          · go_wp2_with fail
            go_ret2
            exact ⟨D.out _ (by omega) (by omega) (by omega) rfl, rfl⟩
          · go_wp2_with fail
            go_roundw
            case rel =>
              obtain ⟨n1, n2, n3, n4⟩ := N.out (by omega) hs
              exact ⟨k + 1, _, by omega, by omega, by go_num, trivial, by rw [n2], n3, n4⟩
            case measure => (first | (simp [intOf]; done) | (simp [intOf]; omega))
        · by_cases h0 : x = 0
          · have q2 : ((x : Int) == 0) = true := by rw [beq_iff_eq]; omega
            have q6 : x < 128 := by omega
            have HX0 := Lib.hid h0; clear h0
            go_wp2_with fail
            go_ret2
            exact ⟨ret_none (Z.out (.inr ⟨by omega, HX0.out⟩)), rfl⟩
          · have q2 : ((x : Int) == 0) = false := by rw [beq_eq_false_iff_ne]; omega
            by_cases hs : x < 128
            · go_wp2_with fail
              go_ret2
              exact ⟨D.out _ (by omega) (by omega) (by omega) rfl, rfl⟩
            · go_wp2_with fail
              go_roundw
              case rel =>
                obtain ⟨n1, n2, n3, n4⟩ := N.out (by omega) hs
                exact ⟨k + 1, _, by omega, by omega, by go_num, trivial, by rw [n2], n3, n4⟩
              case measure => (first | (simp [intOf]; done) | (simp [intOf]; omega))
    · have e : l.drop k = [] := List.drop_of_length_le (by omega)
      rw [e] at he
      have HE := Lib.hid he; clear he
      go_wp2_with fail
      go_ret2
      exact ⟨ret_none (HE.out.trans rfl), rfl⟩

/-! the reference's sum -/
theorem xor_comm32 (a b : Int) : Go.bits .xor .u32 a b = Go.bits .xor .u32 b a := by
  refine v_inj (bits32 _ _ _) (bits32 _ _ _) ?_
  rw [v_xor, v_xor, BitVec.xor_comm]
set_option maxHeartbeats 1000000 in
theorem rSum_any (v : Value) (l : List UInt8) (B : Nat) (w : World) (hv : SlB B w v l) (hl : l.length ≤ 10000000) :
    Calls Tryd.prog 97 #[v] w fun e w' => e = .returned (.int .u32 (4294967295 - crcL 4294967295 l)) ∧ w = w' := by
  obtain ⟨a, cp, rfl, hc, hx⟩ := hv.ex
  have HX := Lib.hid hx; clear hx hv
  go_enter Tryd.func97, Tryd.ntmps97
  go_wp2_with fail
  go_loopw [3, 5, 6, 7, 10] (fun u x j b i wr => ∃ (k : Nat) (z : Int), k ≤ l.length ∧ i = .int .i64 k ∧ wr = w ∧ u = .int .u32 z ∧ 0 ≤ z ∧ z < 4294967296 ∧ z = refSum 4294967295 (l.take k)) (fun _ _ _ _ i _ => l.length - (intOf i).toNat)
  case atStart => exact ⟨0, 4294967295, by omega, rfl, rfl, rfl, by omega, by omega, rfl⟩
  case round =>
    obtain ⟨k, z, hk, rfl, rfl, rfl, z0, z1, hz⟩ := hrel
    by_cases hlt : k < l.length
    · obtain ⟨g, o, rfl, hg, hcell⟩ := HX.out (by omega)
      have hck := hcell k hlt
      have hst := refSum_snoc 4294967295 (l.take k) l[k]
      rw [← take_snoc _ _ _ (List.getElem?_eq_getElem hlt), ← hz] at hst
      have HST := Lib.hid hst; clear hst hz hcell
      have hxl := l[k].toNat_lt
      generalize l[k].toNat = x at *
      go_wp2_with fail
      go_loopw [3, 6, 7] (fun u j b wr' => ∃ (m : Nat) (y : Int), m ≤ 8 ∧ j = .int .i64 m ∧ wr' = wr ∧ u = .int .u32 y ∧ 0 ≤ y ∧ y < 4294967296 ∧ y = refBits (x : Int) m z) (fun _ j _ _ => 8 - (intOf j).toNat)
      case atStart => exact ⟨0, _, by omega, rfl, rfl, rfl, z0, z1, rfl⟩
      case round =>
        obtain ⟨m, y, hm, rfl, rfl, rfl, y0, y1, hy⟩ := hrel
        have HY := Lib.hid hy; clear hy
        by_cases hl8 : m < 8
        · have hsm : (x : Int) / 2 ^ m % 4294967296 = (x : Int) / 2 ^ m := by
            have h0 : (0 : Int) ≤ (x : Int) / 2 ^ m := Int.ediv_nonneg (by omega) (Int.le_of_lt (Int.pow_pos (by decide)))
            have h1 : (x : Int) / 2 ^ m ≤ (x : Int) := Int.ediv_le_self _ (by omega)
            omega
          have hnx : refBits (x : Int) (m + 1) z = refBit x m y := by rw [HY.out]; rfl
          unfold refBit at hnx
          rw [← hsm] at hnx
          clear hsm
          have NX := Lib.hid hnx; clear hnx
          rcases hb : (Go.bits .and .u32 (Go.bits .xor .u32 y ((x : Int) / 2 ^ m % 4294967296)) 1 == 1) with _ | _
          · have hn := Lib.hid (show refBits (x : Int) (m + 1) z = y / 2 by rw [NX.out, if_neg (by simpa using hb)])
            go_wp2_with fail
            go_roundw
            case rel => exact ⟨m + 1, y / 2, by omega, by go_num, trivial, rfl, by omega, by omega, hn.out.symm⟩
            case measure => (first | (simp [intOf]; done) | (simp [intOf]; omega))
          · have hn := Lib.hid (show refBits (x : Int) (m + 1) z = Go.bits .xor .u32 (y / 2) 3988292384 by rw [NX.out, if_pos (by simpa using hb)])
            go_wp2_with fail
            go_roundw
            case rel => exact ⟨m + 1, _, by omega, by go_num, trivial, rfl, (bits32 _ _ _).1, (bits32 _ _ _).2, hn.out.symm⟩
            case measure => (first | (simp [intOf]; done) | (simp [intOf]; omega))
        · obtain rfl : m = 8 := by omega
          go_wp2_with fail
          go_roundw
          case rel => exact ⟨k + 1, y, by omega, by go_num, trivial, rfl, y0, y1, by rw [HST.out, HY.out]⟩
          case measure => (first | (simp [intOf]; done) | (simp [intOf]; omega))
    · have e : l.take k = l := List.take_of_length_le (by omega)
      rw [e, refSum_eq l _ (by unfold In32; omega)] at hz
      have HZ := Lib.hid hz; clear hz
      go_wp2_with fail
      go_ret
      rw [← HZ.out]
      refine ⟨ret_i ?_, rfl⟩
      rw [xor_comm32]
      exact xor_max _ z0 z1
end Go.Proofs.YtkmcjainbhmbdaaDoor
