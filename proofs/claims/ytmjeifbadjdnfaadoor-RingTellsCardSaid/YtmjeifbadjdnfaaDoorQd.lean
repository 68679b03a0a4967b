/- Contracts of the reference's murmur: rotl, eight, Mix. Conditions: the numbers are of uint64; at most a million bytes. -/
import Derived.Test.YtmjeifbadjdnfaaDoorQa
set_option linter.unusedVariables false
set_option linter.unusedSimpArgs false
set_option maxRecDepth 20000
namespace Go.Proofs.YtmjeifbadjdnfaaDoor
open Go.RowKit

theorem leN_snoc (a : List UInt8) (x : UInt8) : leN (a ++ [x]) = leN a + x.toNat * 256 ^ a.length := by
  induction a with
  | nil => simp [leN]
  | cons b a ih =>
    rw [List.cons_append, leN_cons, ih, leN_cons, List.length_cons, Nat.pow_succ, Nat.add_mul, Nat.mul_assoc]
    omega
theorem or_hi (u x i : Nat) (hi : i < 8) (hu : u < 256 ^ i) (hx : x < 256) : Go.bits .or .u64 (u : Int) (IntKind.u64.wrap ((x : Int) * 2 ^ (8 * i))) = ((u + x * 256 ^ i : Nat) : Int) := by
  have hw : ∀ n : Nat, n < 18446744073709551616 → IntKind.u64.wrap (n : Int) = n := fun n hn => by
    simp only [IntKind.wrap, IntKind.signed, IntKind.bits, Bool.false_and]
    simp; omega
  have hp : (2 : Nat) ^ (8 * i) = 256 ^ i := by rw [Nat.pow_mul]
  have hm : x * 256 ^ i + 256 ^ i ≤ 18446744073709551616 := by
    have a1 : x * 256 ^ i ≤ 255 * 256 ^ i := Nat.mul_le_mul_right _ (by omega)
    have a2 : 256 ^ i ≤ 256 ^ 7 := Nat.pow_le_pow_right (by decide) (by omega)
    have a3 : 256 ^ 7 = 72057594037927936 := rfl
    omega
  have e1 : (x : Int) * 2 ^ (8 * i) = ((x * 256 ^ i : Nat) : Int) := by rw [← hp]; simp
  have hs := Nat.shiftLeft_add_eq_or_of_lt (b := u) (i := 8 * i) (by rw [hp]; exact hu) x
  rw [Nat.shiftLeft_eq, hp] at hs
  rw [e1, hw _ (by omega)]
  have e : (BitVec.ofInt 64 (u : Int) ||| BitVec.ofInt 64 ((x * 256 ^ i : Nat) : Int)).toNat = u + x * 256 ^ i := by
    rw [BitVec.toNat_or, BitVec.ofInt_natCast, BitVec.ofInt_natCast, BitVec.toNat_ofNat, BitVec.toNat_ofNat, Nat.mod_eq_of_lt (by omega), Nat.mod_eq_of_lt (by omega), Nat.or_comm, ← hs, Nat.add_comm]
  show IntKind.u64.wrap ((BitVec.ofInt 64 (u : Int) ||| BitVec.ofInt 64 ((x * 256 ^ i : Nat) : Int)).toNat : Int) = _
  rw [e, hw _ (by omega)]
theorem eight_step (l : List UInt8) (j : Nat) (h8 : j < 8) (hj : j < l.length) : leN (l.take j) < 256 ^ j ∧ leN (l.take (j + 1)) = leN (l.take j) + l[j].toNat * 256 ^ j := by
  have hl : (l.take j).length = j := by rw [List.length_take]; omega
  have h1 := leN_lt (l.take j)
  rw [hl] at h1
  refine ⟨h1, ?_⟩
  have e : l.take (j + 1) = l.take j ++ [l[j]] := take_snoc l j _ (List.getElem?_eq_getElem hj)
  rw [e, leN_snoc, hl]

set_option maxHeartbeats 1000000 in
theorem rRotl_any (x : Int) (k : Nat) (h0 : 0 ≤ x) (h1 : x < 18446744073709551616) (hk : k = 27 ∨ k = 31 ∨ k = 33) (w : World) :
    Calls Tryd.prog 106 #[.int .u64 x, .int .u64 (k : Int)] w fun e w' => e = .returned (.int .u64 (rotI x k)) ∧ w = w' := by
  rcases hk with rfl | rfl | rfl
  all_goals (
    go_enter Tryd.func106, Tryd.ntmps106
    go_wp2_with fail
    go_ret
    exact ⟨by first | rfl | (unfold rotI; rfl), rfl⟩)

set_option maxHeartbeats 1000000 in
theorem rMix_any (k : Int) (h0 : 0 ≤ k) (h1 : k < 18446744073709551616) (w : World) :
    Calls Tryd.prog 107 #[.int .u64 k] w fun e w' => e = .returned (.int .u64 (mixI k)) ∧ w = w' := by
  unfold mixI
  simp only
  generalize hb : IntKind.u64.wrap (Go.bits .xor .u64 (IntKind.u64.wrap (Go.bits .xor .u64 k (k / 8589934592) * 18397679294719823053)) (IntKind.u64.wrap (Go.bits .xor .u64 k (k / 8589934592) * 18397679294719823053) / 8589934592) * 14181476777654086739) = b at *
  have HB := Lib.hid hb
  clear hb
  go_enter Tryd.func107, Tryd.ntmps107
  go_wp2_with fail
  go_ret
  exact ⟨by rw [← HB.out]; rfl, rfl⟩

set_option maxHeartbeats 1000000 in
theorem rEight_any (v : Value) (l : List UInt8) (at_ : Nat) (B : Nat) (w : World) (hv : SlB B w v l) (hl : l.length ≤ 1000000) (ha : at_ ≤ l.length) :
    Calls Tryd.prog 105 #[v, .int .i64 (at_ : Int)] w fun e w' => e = .returned (.int .u64 (leN ((l.drop at_).take 8) : Int)) ∧ w = w' := by
  obtain ⟨a, c, rfl, hc, hx⟩ := hv.ex
  have HX := Lib.hid hx; clear hx hv
  have HE := Lib.hid (fun j h8 hj => eight_step (l.drop at_) j h8 hj)
  go_enter Tryd.func105, Tryd.ntmps105
  go_wp2_with fail
  go_loopw [5, 6] (fun u i wr => ∃ j : Nat, j ≤ 8 ∧ at_ + j ≤ l.length ∧ i = .int .i64 (j : Int) ∧ u = .int .u64 (leN ((l.drop at_).take j) : Int) ∧ wr = w) (fun _ i _ => (8 - intOf i).toNat)
  case atStart => exact ⟨0, by omega, by omega, rfl, rfl, rfl⟩
  case round =>
    obtain ⟨j, h8, hj, rfl, rfl, rfl⟩ := hrel
    by_cases h8' : j = 8
    · subst h8'
      go_wp2_with fail
      go_ret
      exact ⟨rfl, rfl⟩
    · have q8 : (j : Int) < 8 := by omega
      by_cases hjl : at_ + j = l.length
      · have e : (l.drop at_).take 8 = (l.drop at_).take j := by
          rw [List.take_of_length_le (by rw [List.length_drop]; omega), List.take_of_length_le (by rw [List.length_drop]; omega)]
        have HQ := Lib.hid e; clear e
        have q9 : ¬ (at_ : Int) + (j : Int) < (l.length : Int) := by omega
        go_wp2_with fail
        go_ret
        exact ⟨by rw [HQ.out]; rfl, rfl⟩
      · have q9 : (at_ : Int) + (j : Int) < (l.length : Int) := by omega
        obtain ⟨g, o, rfl, hg, hcell⟩ := HX.out (by omega)
        have hck := hcell (at_ + j) (by omega)
        obtain ⟨e1, e2⟩ := HE.out j (by omega) (by rw [List.length_drop]; omega)
        rw [List.getElem_drop] at e2
        have hxb := l[at_ + j].toNat_lt
        have ho := or_hi _ l[at_ + j].toNat j (by omega) e1 (by omega)
        rw [← e2] at ho
        have HO := Lib.hid ho
        clear ho e1 e2 hcell
        generalize leN ((l.drop at_).take j) = u0 at *
        generalize l[at_ + j].toNat = x at *
        go_wp2_with fail
        go_roundw
        case rel => exact ⟨j + 1, by omega, by omega, by first | rfl | (congr 1; omega), by rw [← HO.out], trivial⟩
        case measure => simp [intOf]; omega
end Go.Proofs.YtmjeifbadjdnfaaDoor
