/- Contract of the codec's seal. Condition: at most a million bytes each. Contract of the codec's Get: the number that bytes begin with. Condition: at most a million bytes. Contracts of the reference's Get, Put, Four, Sum, Fourth. Conditions: lengths leave room. -/
import Derived.Test.YtplghaoflmaadaaGreatDoorZ06
import Derived.Deep.QuietTactic
import Derived.BigQuiet
section
set_option linter.unusedVariables false
set_option linter.unusedSimpArgs false
set_option maxRecDepth 20000
namespace Go.Proofs.YtplghaoflmaadaaGreatDoor
open Go.RowKit

theorem xor_max (y : Int) (h0 : 0 ≤ y) (h1 : y < 4294967296) : Go.bits .xor .u32 IntKind.u32.max y = 4294967295 - y := by
  obtain ⟨a, rfl⟩ : ∃ a : Nat, y = a := ⟨y.toNat, by omega⟩
  have e : (BitVec.ofInt 32 4294967295 ^^^ BitVec.ofInt 32 (a : Int)).toNat = 4294967295 - a := by
    rw [show BitVec.ofInt 32 4294967295 = BitVec.allOnes 32 from by decide, BitVec.allOnes_xor, BitVec.toNat_not, BitVec.ofInt_natCast, BitVec.toNat_ofNat, Nat.mod_eq_of_lt (by omega)]
  show IntKind.wrap .u32 ((BitVec.ofInt 32 4294967295 ^^^ BitVec.ofInt 32 (a : Int)).toNat : Int) = _
  rw [e]
  simp only [IntKind.wrap, IntKind.signed, IntKind.bits, Bool.false_and]
  simp
  omega
theorem seal_any (v1 v2 : Value) (a b : List UInt8) (B : Nat) (w : World) (ha : SlB B w v1 a) (hb : SlB B w v2 b) (hl : a.length ≤ 1000000) (hm : b.length ≤ 1000000) :
    Calls Tryz.prog 87 #[v1, v2] w fun e w' => e = .returned (.int .u32 (sealL a b)) ∧ w = w' := by
  have r1 := crcL_range a 4294967295 (by decide) (by decide)
  have H1 := Lib.hid (crc_any 4294967295 v1 a B w ha (by decide) (by decide) hl)
  have H2 := Lib.hid (crc_any (crcL 4294967295 a) v2 b B w hb r1.1 r1.2 hm)
  have r2 := crcL_range b _ r1.1 r1.2
  unfold sealL
  generalize crcL 4294967295 a = x at *
  generalize crcL x b = y at *
  go_enter Tryz.func87, Tryz.ntmps87
  go_wp2_with fail
  refine H1.out.mono ?_
  rintro e w1 ⟨rfl, rfl⟩
  go_wp2_with fail
  refine H2.out.mono ?_
  rintro e w1 ⟨rfl, rfl⟩
  go_wp2_with fail
  go_ret
  refine ⟨ret_i ?_, rfl⟩
  exact xor_max _ r2.1 r2.2
end Go.Proofs.YtplghaoflmaadaaGreatDoor
end

section
set_option linter.unusedVariables false
set_option linter.unusedSimpArgs false
set_option maxRecDepth 20000
namespace Go.Proofs.YtplghaoflmaadaaGreatDoor
open Go.RowKit

def getV (o : Option (Nat × Nat)) : Ending := .returned (.tuple #[.int .u64 ((o.getD (0, 0)).1 : Int), .int .i64 ((o.getD (0, 0)).2 : Int)])
theorem getL_step (i u : Nat) (l : List UInt8) (h : i < l.length) : getL i u (l.drop i) = (if (i = 9 ∧ 1 < l[i].toNat) ∨ (0 < i ∧ l[i].toNat = 0) then none else if l[i].toNat < 128 then some (u + l[i].toNat * 128 ^ i, i + 1) else getL (i + 1) (u + l[i].toNat % 128 * 128 ^ i) (l.drop (i + 1))) := by
  rw [List.drop_eq_getElem_cons h, getL]
theorem and127 (y : Nat) (h : y < 256) : Go.bits .and .u8 (y : Int) 127 = ((y % 128 : Nat) : Int) := by
  have key : ∀ y : Fin 256, Go.bits .and .u8 ((y.val : Nat) : Int) 127 = ((y.val % 128 : Nat) : Int) := by decide +kernel
  exact key ⟨y, h⟩

theorem or_part (z x k : Nat) (hz : z < 128 ^ k) (h9 : k ≤ 9) (hx : x < 256) (h1 : k = 9 → x ≤ 1) :
    Go.bits .or .u64 (z : Int) (IntKind.u64.wrap (IntKind.u64.wrap (Go.bits .and .u8 (x : Int) 127) * 2 ^ (7 * k))) = ((z + x % 128 * 128 ^ k : Nat) : Int) := by
  have hw : ∀ n : Nat, n < 18446744073709551616 → IntKind.u64.wrap (n : Int) = n := fun n hn => by
    simp only [IntKind.wrap, IntKind.signed, IntKind.bits, Bool.false_and]
    simp; omega
  have hq : k = 9 → x % 128 ≤ 1 := fun e => by have := h1 e; omega
  have hm : x % 128 * 128 ^ k + 128 ^ k ≤ 18446744073709551616 := by
    by_cases e9 : k = 9
    · have a1 : x % 128 * 128 ^ k ≤ 1 * 128 ^ k := Nat.mul_le_mul_right _ (hq e9)
      have a2 : 128 ^ k ≤ 128 ^ 9 := Nat.pow_le_pow_right (by decide) (by omega)
      omega
    · have a1 : x % 128 * 128 ^ k ≤ 127 * 128 ^ k := Nat.mul_le_mul_right _ (by omega)
      have a2 : 128 ^ k ≤ 128 ^ 8 := Nat.pow_le_pow_right (by decide) (by omega)
      omega
  have hp : (2 : Nat) ^ (7 * k) = 128 ^ k := by rw [Nat.pow_mul]
  rw [and127 x hx, hw _ (by omega), show ((x % 128 : Nat) : Int) * 2 ^ (7 * k) = ((x % 128 * 2 ^ (7 * k) : Nat) : Int) by simp, hp, hw _ (by omega)]
  have e : (BitVec.ofInt 64 (z : Int) ||| BitVec.ofInt 64 ((x % 128 * 128 ^ k : Nat) : Int)).toNat = z + x % 128 * 128 ^ k := by
    rw [BitVec.toNat_or, BitVec.ofInt_natCast, BitVec.ofInt_natCast, BitVec.toNat_ofNat, BitVec.toNat_ofNat, Nat.mod_eq_of_lt (by omega), Nat.mod_eq_of_lt (by omega)]
    have := Nat.shiftLeft_add_eq_or_of_lt (b := z) (i := 7 * k) (by rw [hp]; exact hz) (x % 128)
    rw [Nat.shiftLeft_eq, hp] at this
    rw [Nat.or_comm, ← this, Nat.add_comm]
  show IntKind.u64.wrap ((BitVec.ofInt 64 (z : Int) ||| BitVec.ofInt 64 ((x % 128 * 128 ^ k : Nat) : Int)).toNat : Int) = _
  rw [e, hw _ (by omega)]
theorem ret_get {o : Option (Nat × Nat)} {u k : Int} {n m : Nat} (h : o = some (n, m)) (hu : u = n) (hk : k = m) : Ending.returned (.tuple #[.int .u64 u, .int .i64 k]) = getV o := by
  subst h hu hk; rfl
theorem ret_none {o : Option (Nat × Nat)} (h : o = none) : Ending.returned (.tuple #[.int .u64 0, .int .i64 0]) = getV o := by subst h; rfl

set_option maxHeartbeats 1000000 in
theorem Get_any (v : Value) (l : List UInt8) (B : Nat) (w : World) (hv : SlB B w v l) (hl : l.length ≤ 1000000) :
    Calls Tryz.prog 111 #[v] w fun e w' => e = getV (getL 0 0 l) ∧ w = w' := by
  obtain ⟨a, c, rfl, hc, hx⟩ := hv.ex
  have HX := Lib.hid hx; clear hx hv
  go_enter Tryz.func111, Tryz.ntmps111
  go_wp2_with fail
  go_loopw [4, 5, 6, 9] (fun u x y i wr => ∃ (k : Nat) (z : Nat), k ≤ l.length ∧ k ≤ 9 ∧ i = .int .i64 k ∧ wr = w ∧ u = .int .u64 (z : Int) ∧ z < 128 ^ k ∧ getL 0 0 l = getL k z (l.drop k)) (fun _ _ _ i _ => l.length - (intOf i).toNat)
  case atStart => exact ⟨0, 0, by omega, by omega, rfl, rfl, rfl, by decide, by simp⟩
  case round =>
    obtain ⟨k, z, hk, h9, rfl, rfl, rfl, hz, he⟩ := hrel
    by_cases hlt : k < l.length
    · obtain ⟨g, o, rfl, hg, hcell⟩ := HX.out (by omega)
      have hck := hcell k hlt
      rw [getL_step k z l hlt] at he
      have HE := Lib.hid he; clear he hcell
      have hxl := l[k].toNat_lt
      generalize l[k].toNat = x at *
      have done_ : ∀ y : Int, (k = 9 → x ≤ 1) → x < 128 → ¬ (0 < k ∧ x = 0) → y = (k : Int) + 1 → Ending.returned (.tuple #[.int .u64 (Go.bits .or .u64 (z : Int) (IntKind.u64.wrap (IntKind.u64.wrap (Go.bits .and .u8 (x : Int) 127) * 2 ^ (7 * k)))), .int .i64 y]) = getV (getL 0 0 l) := by
        intro y h1 h2 h3 hy
        rw [if_neg (by omega), if_pos h2] at HE
        refine ret_get HE.out ?_ (by omega)
        rw [or_part z x k hz h9 hxl h1, Nat.mod_eq_of_lt h2]
      have next_ : (k = 9 → x ≤ 1) → ¬ x < 128 → (k ≤ 8 ∧ Go.bits .or .u64 (z : Int) (IntKind.u64.wrap (IntKind.u64.wrap (Go.bits .and .u8 (x : Int) 127) * 2 ^ (7 * k))) = ((z + x % 128 * 128 ^ k : Nat) : Int) ∧ z + x % 128 * 128 ^ k < 128 ^ (k + 1) ∧ getL 0 0 l = getL (k + 1) (z + x % 128 * 128 ^ k) (l.drop (k + 1))) := by
        intro h1 h2
        rw [if_neg (by omega), if_neg h2] at HE
        refine ⟨by omega, or_part z x k hz h9 hxl h1, ?_, HE.out⟩
        have a1 : x % 128 * 128 ^ k ≤ 127 * 128 ^ k := Nat.mul_le_mul_right _ (by omega)
        have a2 : 128 ^ (k + 1) = 128 * 128 ^ k := by rw [Nat.pow_succ, Nat.mul_comm]
        omega
      have none_ : ((k = 9 ∧ 1 < x) ∨ (0 < k ∧ x = 0)) → getL 0 0 l = none := by
        intro h1
        rw [if_pos h1] at HE; exact HE.out
      have D := Lib.hid done_; have N := Lib.hid next_; have Z := Lib.hid none_
      clear done_ next_ none_ HE
      by_cases hk9 : k = 9
      · have q1 : ((k : Int) == 9) = true := by rw [beq_iff_eq]; omega
        have HK := Lib.hid hk9; clear hk9
        have q0 : 0 < k := by have := HK.out; omega
        by_cases h1 : 1 < x
        · go_wp2_with fail
          go_ret2
          exact ⟨ret_none (Z.out (.inl ⟨HK.out, h1⟩)), rfl⟩
        · by_cases h0 : x = 0
          · have q2 : ((x : Int) == 0) = true := by rw [beq_iff_eq]; omega
            have HX0 := Lib.hid h0; clear h0
            go_wp2_with fail
            go_ret2
            exact ⟨ret_none (Z.out (.inr ⟨by omega, HX0.out⟩)), rfl⟩
          · have q2 : ((x : Int) == 0) = false := by rw [beq_eq_false_iff_ne]; omega
            go_wp2_with fail
            go_ret2
            exact ⟨D.out _ (by omega) (by omega) (by omega) rfl, rfl⟩
      · have q1 : ((k : Int) == 9) = false := by rw [beq_eq_false_iff_ne]; omega
        by_cases hk0 : k = 0
        · have q3 : ¬ 0 < k := by omega
          have HK0 := Lib.hid hk0; clear hk0
          by_cases hs : x < 128
          · go_wp2_with fail
            go_ret2
            exact ⟨D.out _ (by omega) (by omega) (by omega) rfl, rfl⟩
          · go_wp2_with fail
            go_roundw
            case rel =>
              obtain ⟨n1, n2, n3, n4⟩ := N.out (by omega) hs
              exact ⟨k + 1, _, by omega, by omega, by go_num, trivial, by rw [n2], n3, n4⟩
            case measure => (first | (simp [intOf]; done) | (simp [intOf]; omega))
        · by_cases h0 : x = 0
          · have q2 : ((x : Int) == 0) = true := by rw [beq_iff_eq]; omega
            have HX0 := Lib.hid h0; clear h0
            go_wp2_with fail
            go_ret2
            exact ⟨ret_none (Z.out (.inr ⟨by omega, HX0.out⟩)), rfl⟩
          · have q2 : ((x : Int) == 0) = false := by rw [beq_eq_false_iff_ne]; omega
            by_cases hs : x < 128
            · go_wp2_with fail
              go_ret2
              exact ⟨D.out _ (by omega) (by omega) (by omega) rfl, rfl⟩
            · go_wp2_with fail
              go_roundw
              case rel =>
                obtain ⟨n1, n2, n3, n4⟩ := N.out (by omega) hs
                exact ⟨k + 1, _, by omega, by omega, by go_num, trivial, by rw [n2], n3, n4⟩
              case measure => (first | (simp [intOf]; done) | (simp [intOf]; omega))
    · have e : l.drop k = [] := List.drop_of_length_le (by omega)
      rw [e] at he
      have HE := Lib.hid he; clear he
      go_wp2_with fail
      go_ret2
      exact ⟨ret_none (HE.out.trans rfl), rfl⟩
end Go.Proofs.YtplghaoflmaadaaGreatDoor
end

section
set_option linter.unusedVariables false
set_option linter.unusedSimpArgs false
set_option maxRecDepth 20000
namespace Go.Proofs.YtplghaoflmaadaaGreatDoor
open Go.RowKit

theorem add_part (z x k : Nat) (hz : z < 128 ^ k) (h9 : k ≤ 9) (hx : x < 256) (h1 : k = 9 → x ≤ 1) :
    IntKind.u64.wrap ((z : Int) + IntKind.u64.wrap ((x : Int) % 128 * 2 ^ (7 * k))) = ((z + x % 128 * 128 ^ k : Nat) : Int) := by
  have hw : ∀ n : Nat, n < 18446744073709551616 → IntKind.u64.wrap (n : Int) = n := fun n hn => by
    simp only [IntKind.wrap, IntKind.signed, IntKind.bits, Bool.false_and]
    simp; omega
  have hq : k = 9 → x % 128 ≤ 1 := fun e => by have := h1 e; omega
  have hm : x % 128 * 128 ^ k + 128 ^ k ≤ 18446744073709551616 := by
    by_cases e9 : k = 9
    · have a1 : x % 128 * 128 ^ k ≤ 1 * 128 ^ k := Nat.mul_le_mul_right _ (hq e9)
      have a2 : 128 ^ k ≤ 128 ^ 9 := Nat.pow_le_pow_right (by decide) (by omega)
      omega
    · have a1 : x % 128 * 128 ^ k ≤ 127 * 128 ^ k := Nat.mul_le_mul_right _ (by omega)
      have a2 : 128 ^ k ≤ 128 ^ 8 := Nat.pow_le_pow_right (by decide) (by omega)
      omega
  have hp : (2 : Nat) ^ (7 * k) = 128 ^ k := by rw [Nat.pow_mul]
  have hc : (x : Int) % 128 * 2 ^ (7 * k) = ((x % 128 * 128 ^ k : Nat) : Int) := by
    rw [← hp]; simp
  rw [hc, hw _ (by omega), show (z : Int) + ((x % 128 * 128 ^ k : Nat) : Int) = ((z + x % 128 * 128 ^ k : Nat) : Int) by omega, hw _ (by omega)]

set_option maxHeartbeats 1000000 in
theorem rGet_any (v : Value) (l : List UInt8) (B : Nat) (w : World) (hv : SlB B w v l) (hl : l.length ≤ 1000000) :
    Calls Tryz.prog 140 #[v] w fun e w' => e = getV (getL 0 0 l) ∧ w = w' := by
  obtain ⟨a, c, rfl, hc, hx⟩ := hv.ex
  have HX := Lib.hid hx; clear hx hv
  go_enter Tryz.func140, Tryz.ntmps140
  go_wp2_with fail
  go_loopw [4, 5] (fun u i wr => ∃ (k : Nat) (z : Nat), k ≤ l.length ∧ k ≤ 9 ∧ i = .int .i64 k ∧ wr = w ∧ u = .int .u64 (z : Int) ∧ z < 128 ^ k ∧ getL 0 0 l = getL k z (l.drop k)) (fun _ i _ => l.length - (intOf i).toNat)
  case atStart => exact ⟨0, 0, by omega, by omega, rfl, rfl, rfl, by decide, by simp⟩
  case round =>
    obtain ⟨k, z, hk, h9, rfl, rfl, rfl, hz, he⟩ := hrel
    by_cases hlt : k < l.length
    · obtain ⟨g, o, rfl, hg, hcell⟩ := HX.out (by omega)
      have hck := hcell k hlt
      rw [getL_step k z l hlt] at he
      have HE := Lib.hid he; clear he hcell
      have hxl := l[k].toNat_lt
      generalize l[k].toNat = x at *
      have done_ : ∀ y : Int, (k = 9 → x ≤ 1) → x < 128 → ¬ (0 < k ∧ x = 0) → y = (k : Int) + 1 → Ending.returned (.tuple #[.int .u64 (IntKind.u64.wrap ((z : Int) + IntKind.u64.wrap ((x : Int) % 128 * 2 ^ (7 * k)))), .int .i64 y]) = getV (getL 0 0 l) := by
        intro y h1 h2 h3 hy
        rw [if_neg (by omega), if_pos h2] at HE
        refine ret_get HE.out ?_ (by omega)
        rw [add_part z x k hz h9 hxl h1, Nat.mod_eq_of_lt h2]
      have next_ : (k = 9 → x ≤ 1) → ¬ x < 128 → (k ≤ 8 ∧ IntKind.u64.wrap ((z : Int) + IntKind.u64.wrap ((x : Int) % 128 * 2 ^ (7 * k))) = ((z + x % 128 * 128 ^ k : Nat) : Int) ∧ z + x % 128 * 128 ^ k < 128 ^ (k + 1) ∧ getL 0 0 l = getL (k + 1) (z + x % 128 * 128 ^ k) (l.drop (k + 1))) := by
        intro h1 h2
        rw [if_neg (by omega), if_neg h2] at HE
        refine ⟨by omega, add_part z x k hz h9 hxl h1, ?_, HE.out⟩
        have a1 : x % 128 * 128 ^ k ≤ 127 * 128 ^ k := Nat.mul_le_mul_right _ (by omega)
        have a2 : 128 ^ (k + 1) = 128 * 128 ^ k := by rw [Nat.pow_succ, Nat.mul_comm]
        omega
      have none_ : ((k = 9 ∧ 1 < x) ∨ (0 < k ∧ x = 0)) → getL 0 0 l = none := by
        intro h1
        rw [if_pos h1] at HE; exact HE.out
      have D := Lib.hid done_; have N := Lib.hid next_; have Z := Lib.hid none_
      clear done_ next_ none_ HE
      have q5 : (k : Int) < 10 := by omega
      by_cases hk9 : k = 9
      · have q1 : ((k : Int) == 9) = true := by rw [beq_iff_eq]; omega
        have HK := Lib.hid hk9; clear hk9
        have q0 : 0 < k := by have := HK.out; omega
        by_cases h1 : 1 < x
        · go_wp2_with fail
          go_ret2
          exact ⟨ret_none (Z.out (.inl ⟨HK.out, h1⟩)), rfl⟩
        · by_cases h0 : x = 0
          · have q2 : ((x : Int) == 0) = true := by rw [beq_iff_eq]; omega
            have q6 : x < 128 := by omega
            have HX0 := Lib.hid h0; clear h0
            go_wp2_with fail
            go_ret2
            exact ⟨ret_none (Z.out (.inr ⟨by omega, HX0.out⟩)), rfl⟩
          · have q2 : ((x : Int) == 0) = false := by rw [beq_eq_false_iff_ne]; omega
            have q6 : x < 128 := by omega
            go_wp2_with fail
            go_ret2
            exact ⟨D.out _ (by omega) (by omega) (by omega) rfl, rfl⟩
      · have q1 : ((k : Int) == 9) = false := by rw [beq_eq_false_iff_ne]; omega
        by_cases hk0 : k = 0
        · have q3 : ¬ 0 < k := by omega
          have HK0 := Lib.hid hk0; clear hk0
          by_cases hs : x < 128
          · go_wp2_with fail
            go_ret2
            exact ⟨D.out _ (by omega) (by omega) (by omega) rfl, rfl⟩
          · go_wp2_with fail
            go_roundw
            case rel =>
              obtain ⟨n1, n2, n3, n4⟩ := N.out (by omega) hs
              exact ⟨k + 1, _, by omega, by omega, by go_num, trivial, by rw [n2], n3, n4⟩
            case measure => (first | (simp [intOf]; done) | (simp [intOf]; omega))
        · by_cases h0 : x = 0
          · have q2 : ((x : Int) == 0) = true := by rw [beq_iff_eq]; omega
            have q6 : x < 128 := by omega
            have HX0 := Lib.hid h0; clear h0
            go_wp2_with fail
            go_ret2
            exact ⟨ret_none (Z.out (.inr ⟨by omega, HX0.out⟩)), rfl⟩
          · have q2 : ((x : Int) == 0) = false := by rw [beq_eq_false_iff_ne]; omega
            by_cases hs : x < 128
            · go_wp2_with fail
              go_ret2
              exact ⟨D.out _ (by omega) (by omega) (by omega) rfl, rfl⟩
            · go_wp2_with fail
              go_roundw
              case rel =>
                obtain ⟨n1, n2, n3, n4⟩ := N.out (by omega) hs
                exact ⟨k + 1, _, by omega, by omega, by go_num, trivial, by rw [n2], n3, n4⟩
              case measure => (first | (simp [intOf]; done) | (simp [intOf]; omega))
    · have e : l.drop k = [] := List.drop_of_length_le (by omega)
      rw [e] at he
      have HE := Lib.hid he; clear he
      go_wp2_with fail
      go_ret2
      exact ⟨ret_none (HE.out.trans rfl), rfl⟩

/-! the reference's sum -/
theorem xor_comm32 (a b : Int) : Go.bits .xor .u32 a b = Go.bits .xor .u32 b a := by
  refine v_inj (bits32 _ _ _) (bits32 _ _ _) ?_
  rw [v_xor, v_xor, BitVec.xor_comm]
set_option maxHeartbeats 1000000 in
theorem rSum_any (v : Value) (l : List UInt8) (B : Nat) (w : World) (hv : SlB B w v l) (hl : l.length ≤ 10000000) :
    Calls Tryz.prog 53 #[v] w fun e w' => e = .returned (.int .u32 (4294967295 - crcL 4294967295 l)) ∧ w = w' := by
  obtain ⟨a, cp, rfl, hc, hx⟩ := hv.ex
  have HX := Lib.hid hx; clear hx hv
  go_enter Tryz.func53, Tryz.ntmps53
  go_wp2_with fail
  go_loopw [3, 5, 6, 7, 10] (fun u x j b i wr => ∃ (k : Nat) (z : Int), k ≤ l.length ∧ i = .int .i64 k ∧ wr = w ∧ u = .int .u32 z ∧ 0 ≤ z ∧ z < 4294967296 ∧ z = refSum 4294967295 (l.take k)) (fun _ _ _ _ i _ => l.length - (intOf i).toNat)
  case atStart => exact ⟨0, 4294967295, by omega, rfl, rfl, rfl, by omega, by omega, rfl⟩
  case round =>
    obtain ⟨k, z, hk, rfl, rfl, rfl, z0, z1, hz⟩ := hrel
    by_cases hlt : k < l.length
    · obtain ⟨g, o, rfl, hg, hcell⟩ := HX.out (by omega)
      have hck := hcell k hlt
      have hst := refSum_snoc 4294967295 (l.take k) l[k]
      rw [← take_snoc _ _ _ (List.getElem?_eq_getElem hlt), ← hz] at hst
      have HST := Lib.hid hst; clear hst hz hcell
      have hxl := l[k].toNat_lt
      generalize l[k].toNat = x at *
      go_wp2_with fail
      go_loopw [3, 6, 7] (fun u j b wr' => ∃ (m : Nat) (y : Int), m ≤ 8 ∧ j = .int .i64 m ∧ wr' = wr ∧ u = .int .u32 y ∧ 0 ≤ y ∧ y < 4294967296 ∧ y = refBits (x : Int) m z) (fun _ j _ _ => 8 - (intOf j).toNat)
      case atStart => exact ⟨0, _, by omega, rfl, rfl, rfl, z0, z1, rfl⟩
      case round =>
        obtain ⟨m, y, hm, rfl, rfl, rfl, y0, y1, hy⟩ := hrel
        have HY := Lib.hid hy; clear hy
        by_cases hl8 : m < 8
        · have hsm : (x : Int) / 2 ^ m % 4294967296 = (x : Int) / 2 ^ m := by
            have h0 : (0 : Int) ≤ (x : Int) / 2 ^ m := Int.ediv_nonneg (by omega) (Int.le_of_lt (Int.pow_pos (by decide)))
            have h1 : (x : Int) / 2 ^ m ≤ (x : Int) := Int.ediv_le_self _ (by omega)
            omega
          have hnx : refBits (x : Int) (m + 1) z = refBit x m y := by rw [HY.out]; rfl
          unfold refBit at hnx
          rw [← hsm] at hnx
          clear hsm
          have NX := Lib.hid hnx; clear hnx
          rcases hb : (Go.bits .and .u32 (Go.bits .xor .u32 y ((x : Int) / 2 ^ m % 4294967296)) 1 == 1) with _ | _
          · have hn := Lib.hid (show refBits (x : Int) (m + 1) z = y / 2 by rw [NX.out, if_neg (by simpa using hb)])
            go_wp2_with fail
            go_roundw
            case rel => exact ⟨m + 1, y / 2, by omega, by go_num, trivial, rfl, by omega, by omega, hn.out.symm⟩
            case measure => (first | (simp [intOf]; done) | (simp [intOf]; omega))
          · have hn := Lib.hid (show refBits (x : Int) (m + 1) z = Go.bits .xor .u32 (y / 2) 3988292384 by rw [NX.out, if_pos (by simpa using hb)])
            go_wp2_with fail
            go_roundw
            case rel => exact ⟨m + 1, _, by omega, by go_num, trivial, rfl, (bits32 _ _ _).1, (bits32 _ _ _).2, hn.out.symm⟩
            case measure => (first | (simp [intOf]; done) | (simp [intOf]; omega))
        · obtain rfl : m = 8 := by omega
          go_wp2_with fail
          go_roundw
          case rel => exact ⟨k + 1, y, by omega, by go_num, trivial, rfl, y0, y1, by rw [HST.out, HY.out]⟩
          case measure => (first | (simp [intOf]; done) | (simp [intOf]; omega))
    · have e : l.take k = l := List.take_of_length_le (by omega)
      rw [e, refSum_eq l _ (by unfold In32; omega)] at hz
      have HZ := Lib.hid hz; clear hz
      go_wp2_with fail
      go_ret
      rw [← HZ.out]
      refine ⟨ret_i ?_, rfl⟩
      rw [xor_comm32]
      exact xor_max _ z0 z1
end Go.Proofs.YtplghaoflmaadaaGreatDoor
end
