/- Contract of the codec's Get: the number that bytes begin with. Condition: at most a million bytes. Contracts of the reference's Get, Put, Four, Sum, Fourth. Conditions: lengths leave room. Contracts of the reference's Four, Fourth, Put. Conditions: lengths leave room. -/
import Derived.Test.YtefndmjimmbhnaaZ03
import Derived.Deep.QuietTactic
import Derived.BigQuiet
section
set_option linter.unusedVariables false
set_option linter.unusedSimpArgs false
set_option maxRecDepth 20000
namespace Go.Proofs.Ytefndmjimmbhnaa
open Go.RowKit

def getV (o : Option (Nat × Nat)) : Ending := .returned (.tuple #[.int .u64 ((o.getD (0, 0)).1 : Int), .int .i64 ((o.getD (0, 0)).2 : Int)])
theorem getL_step (i u : Nat) (l : List UInt8) (h : i < l.length) : getL i u (l.drop i) = (if (i = 9 ∧ 1 < l[i].toNat) ∨ (0 < i ∧ l[i].toNat = 0) then none else if l[i].toNat < 128 then some (u + l[i].toNat * 128 ^ i, i + 1) else getL (i + 1) (u + l[i].toNat % 128 * 128 ^ i) (l.drop (i + 1))) := by
  rw [List.drop_eq_getElem_cons h, getL]
theorem and127 (y : Nat) (h : y < 256) : Go.bits .and .u8 (y : Int) 127 = ((y % 128 : Nat) : Int) := by
  have key : ∀ y : Fin 256, Go.bits .and .u8 ((y.val : Nat) : Int) 127 = ((y.val % 128 : Nat) : Int) := by decide +kernel
  exact key ⟨y, h⟩

theorem or_part (z x k : Nat) (hz : z < 128 ^ k) (h9 : k ≤ 9) (hx : x < 256) (h1 : k = 9 → x ≤ 1) :
    Go.bits .or .u64 (z : Int) (IntKind.u64.wrap (IntKind.u64.wrap (Go.bits .and .u8 (x : Int) 127) * 2 ^ (7 * k))) = ((z + x % 128 * 128 ^ k : Nat) : Int) := by
  have hw : ∀ n : Nat, n < 18446744073709551616 → IntKind.u64.wrap (n : Int) = n := fun n hn => by
    simp only [IntKind.wrap, IntKind.signed, IntKind.bits, Bool.false_and]
    simp; omega
  have hq : k = 9 → x % 128 ≤ 1 := fun e => by have := h1 e; omega
  have hm : x % 128 * 128 ^ k + 128 ^ k ≤ 18446744073709551616 := by
    by_cases e9 : k = 9
    · have a1 : x % 128 * 128 ^ k ≤ 1 * 128 ^ k := Nat.mul_le_mul_right _ (hq e9)
      have a2 : 128 ^ k ≤ 128 ^ 9 := Nat.pow_le_pow_right (by decide) (by omega)
      omega
    · have a1 : x % 128 * 128 ^ k ≤ 127 * 128 ^ k := Nat.mul_le_mul_right _ (by omega)
      have a2 : 128 ^ k ≤ 128 ^ 8 := Nat.pow_le_pow_right (by decide) (by omega)
      omega
  have hp : (2 : Nat) ^ (7 * k) = 128 ^ k := by rw [Nat.pow_mul]
  rw [and127 x hx, hw _ (by omega), show ((x % 128 : Nat) : Int) * 2 ^ (7 * k) = ((x % 128 * 2 ^ (7 * k) : Nat) : Int) by simp, hp, hw _ (by omega)]
  have e : (BitVec.ofInt 64 (z : Int) ||| BitVec.ofInt 64 ((x % 128 * 128 ^ k : Nat) : Int)).toNat = z + x % 128 * 128 ^ k := by
    rw [BitVec.toNat_or, BitVec.ofInt_natCast, BitVec.ofInt_natCast, BitVec.toNat_ofNat, BitVec.toNat_ofNat, Nat.mod_eq_of_lt (by omega), Nat.mod_eq_of_lt (by omega)]
    have := Nat.shiftLeft_add_eq_or_of_lt (b := z) (i := 7 * k) (by rw [hp]; exact hz) (x % 128)
    rw [Nat.shiftLeft_eq, hp] at this
    rw [Nat.or_comm, ← this, Nat.add_comm]
  show IntKind.u64.wrap ((BitVec.ofInt 64 (z : Int) ||| BitVec.ofInt 64 ((x % 128 * 128 ^ k : Nat) : Int)).toNat : Int) = _
  rw [e, hw _ (by omega)]
theorem ret_get {o : Option (Nat × Nat)} {u k : Int} {n m : Nat} (h : o = some (n, m)) (hu : u = n) (hk : k = m) : Ending.returned (.tuple #[.int .u64 u, .int .i64 k]) = getV o := by
  subst h hu hk; rfl
theorem ret_none {o : Option (Nat × Nat)} (h : o = none) : Ending.returned (.tuple #[.int .u64 0, .int .i64 0]) = getV o := by subst h; rfl

set_option maxHeartbeats 1000000 in
theorem Get_any (v : Value) (l : List UInt8) (B : Nat) (w : World) (hv : SlB B w v l) (hl : l.length ≤ 1000000) :
    Calls Try.prog 64 #[v] w fun e w' => e = getV (getL 0 0 l) ∧ w = w' := by
  obtain ⟨a, c, rfl, hc, hx⟩ := hv.ex
  have HX := Lib.hid hx; clear hx hv
  go_enter Try.func64, Try.ntmps64
  go_wp2_with fail
  go_loopw [4, 5, 6, 9] (fun u x y i wr => ∃ (k : Nat) (z : Nat), k ≤ l.length ∧ k ≤ 9 ∧ i = .int .i64 k ∧ wr = w ∧ u = .int .u64 (z : Int) ∧ z < 128 ^ k ∧ getL 0 0 l = getL k z (l.drop k)) (fun _ _ _ i _ => l.length - (intOf i).toNat)
  case atStart => exact ⟨0, 0, by omega, by omega, rfl, rfl, rfl, by decide, by simp⟩
  case round =>
    obtain ⟨k, z, hk, h9, rfl, rfl, rfl, hz, he⟩ := hrel
    by_cases hlt : k < l.length
    · obtain ⟨g, o, rfl, hg, hcell⟩ := HX.out (by omega)
      have hck := hcell k hlt
      rw [getL_step k z l hlt] at he
      have HE := Lib.hid he; clear he hcell
      have hxl := l[k].toNat_lt
      generalize l[k].toNat = x at *
      have done_ : ∀ y : Int, (k = 9 → x ≤ 1) → x < 128 → ¬ (0 < k ∧ x = 0) → y = (k : Int) + 1 → Ending.returned (.tuple #[.int .u64 (Go.bits .or .u64 (z : Int) (IntKind.u64.wrap (IntKind.u64.wrap (Go.bits .and .u8 (x : Int) 127) * 2 ^ (7 * k)))), .int .i64 y]) = getV (getL 0 0 l) := by
        intro y h1 h2 h3 hy
        rw [if_neg (by omega), if_pos h2] at HE
        refine ret_get HE.out ?_ (by omega)
        rw [or_part z x k hz h9 hxl h1, Nat.mod_eq_of_lt h2]
      have next_ : (k = 9 → x ≤ 1) → ¬ x < 128 → (k ≤ 8 ∧ Go.bits .or .u64 (z : Int) (IntKind.u64.wrap (IntKind.u64.wrap (Go.bits .and .u8 (x : Int) 127) * 2 ^ (7 * k))) = ((z + x % 128 * 128 ^ k : Nat) : Int) ∧ z + x % 128 * 128 ^ k < 128 ^ (k + 1) ∧ getL 0 0 l = getL (k + 1) (z + x % 128 * 128 ^ k) (l.drop (k + 1))) := by
        intro h1 h2
        rw [if_neg (by omega), if_neg h2] at HE
        refine ⟨by omega, or_part z x k hz h9 hxl h1, ?_, HE.out⟩
        have a1 : x % 128 * 128 ^ k ≤ 127 * 128 ^ k := Nat.mul_le_mul_right _ (by omega)
        have a2 : 128 ^ (k + 1) = 128 * 128 ^ k := by rw [Nat.pow_succ, Nat.mul_comm]
        omega
      have none_ : ((k = 9 ∧ 1 < x) ∨ (0 < k ∧ x = 0)) → getL 0 0 l = none := by
        intro h1
        rw [if_pos h1] at HE; exact HE.out
      have D := Lib.hid done_; have N := Lib.hid next_; have Z := Lib.hid none_
      clear done_ next_ none_ HE
      by_cases hk9 : k = 9
      · have q1 : ((k : Int) == 9) = true := by rw [beq_iff_eq]; omega
        have HK := Lib.hid hk9; clear hk9
        have q0 : 0 < k := by have := HK.out; omega
        by_cases h1 : 1 < x
        · go_wp2_with fail
          go_ret2
          exact ⟨ret_none (Z.out (.inl ⟨HK.out, h1⟩)), rfl⟩
        · by_cases h0 : x = 0
          · have q2 : ((x : Int) == 0) = true := by rw [beq_iff_eq]; omega
            have HX0 := Lib.hid h0; clear h0
            go_wp2_with fail
            go_ret2
            exact ⟨ret_none (Z.out (.inr ⟨by omega, HX0.out⟩)), rfl⟩
          · have q2 : ((x : Int) == 0) = false := by rw [beq_eq_false_iff_ne]; omega
            go_wp2_with fail
            go_ret2
            exact ⟨D.out _ (by omega) (by omega) (by omega) rfl, rfl⟩
      · have q1 : ((k : Int) == 9) = false := by rw [beq_eq_false_iff_ne]; omega
        by_cases hk0 : k = 0
        · have q3 : ¬ 0 < k := by omega
          have HK0 := Lib.hid hk0; clear hk0
          by_cases hs : x < 128
          · go_wp2_with fail
            go_ret2
            exact ⟨D.out _ (by omega) (by omega) (by omega) rfl, rfl⟩
          · go_wp2_with fail
            go_roundw
            case rel =>
              obtain ⟨n1, n2, n3, n4⟩ := N.out (by omega) hs
              exact ⟨k + 1, _, by omega, by omega, by go_num, trivial, by rw [n2], n3, n4⟩
            case measure => (first | (simp [intOf]; done) | (simp [intOf]; omega))
        · by_cases h0 : x = 0
          · have q2 : ((x : Int) == 0) = true := by rw [beq_iff_eq]; omega
            have HX0 := Lib.hid h0; clear h0
            go_wp2_with fail
            go_ret2
            exact ⟨ret_none (Z.out (.inr ⟨by omega, HX0.out⟩)), rfl⟩
          · have q2 : ((x : Int) == 0) = false := by rw [beq_eq_false_iff_ne]; omega
            by_cases hs : x < 128
            · go_wp2_with fail
              go_ret2
              exact ⟨D.out _ (by omega) (by omega) (by omega) rfl, rfl⟩
            · go_wp2_with fail
              go_roundw
              case rel =>
                obtain ⟨n1, n2, n3, n4⟩ := N.out (by omega) hs
                exact ⟨k + 1, _, by omega, by omega, by go_num, trivial, by rw [n2], n3, n4⟩
              case measure => (first | (simp [intOf]; done) | (simp [intOf]; omega))
    · have e : l.drop k = [] := List.drop_of_length_le (by omega)
      rw [e] at he
      have HE := Lib.hid he; clear he
      go_wp2_with fail
      go_ret2
      exact ⟨ret_none (HE.out.trans rfl), rfl⟩
end Go.Proofs.Ytefndmjimmbhnaa
end

section
set_option linter.unusedVariables false
set_option linter.unusedSimpArgs false
set_option maxRecDepth 20000
namespace Go.Proofs.Ytefndmjimmbhnaa
open Go.RowKit

theorem add_part (z x k : Nat) (hz : z < 128 ^ k) (h9 : k ≤ 9) (hx : x < 256) (h1 : k = 9 → x ≤ 1) :
    IntKind.u64.wrap ((z : Int) + IntKind.u64.wrap ((x : Int) % 128 * 2 ^ (7 * k))) = ((z + x % 128 * 128 ^ k : Nat) : Int) := by
  have hw : ∀ n : Nat, n < 18446744073709551616 → IntKind.u64.wrap (n : Int) = n := fun n hn => by
    simp only [IntKind.wrap, IntKind.signed, IntKind.bits, Bool.false_and]
    simp; omega
  have hq : k = 9 → x % 128 ≤ 1 := fun e => by have := h1 e; omega
  have hm : x % 128 * 128 ^ k + 128 ^ k ≤ 18446744073709551616 := by
    by_cases e9 : k = 9
    · have a1 : x % 128 * 128 ^ k ≤ 1 * 128 ^ k := Nat.mul_le_mul_right _ (hq e9)
      have a2 : 128 ^ k ≤ 128 ^ 9 := Nat.pow_le_pow_right (by decide) (by omega)
      omega
    · have a1 : x % 128 * 128 ^ k ≤ 127 * 128 ^ k := Nat.mul_le_mul_right _ (by omega)
      have a2 : 128 ^ k ≤ 128 ^ 8 := Nat.pow_le_pow_right (by decide) (by omega)
      omega
  have hp : (2 : Nat) ^ (7 * k) = 128 ^ k := by rw [Nat.pow_mul]
  have hc : (x : Int) % 128 * 2 ^ (7 * k) = ((x % 128 * 128 ^ k : Nat) : Int) := by
    rw [← hp]; simp
  rw [hc, hw _ (by omega), show (z : Int) + ((x % 128 * 128 ^ k : Nat) : Int) = ((z + x % 128 * 128 ^ k : Nat) : Int) by omega, hw _ (by omega)]

theorem xor_comm32 (a b : Int) : Go.bits .xor .u32 a b = Go.bits .xor .u32 b a := by
  refine v_inj (bits32 _ _ _) (bits32 _ _ _) ?_
  rw [v_xor, v_xor, BitVec.xor_comm]
end Go.Proofs.Ytefndmjimmbhnaa
end

section
set_option linter.unusedVariables false
set_option linter.unusedSimpArgs false
set_option maxRecDepth 20000
namespace Go.Proofs.Ytefndmjimmbhnaa
open Go.RowKit

theorem OwnB.lit (w : World) (base : Nat) (cs : Array Value) (l : List UInt8) (n : Nat) (hb : base ≤ w.heap.size) (hn : n = l.length) (hl : l.length ≤ 1000000) (hc : cs.toList = bcells l) : OwnB (w.alloc (.cells cs 5)) base (.slice (some ⟨w.heap.size, 0, none⟩) n n) l := by
  subst hn
  have h := World.ownsRow_lit (base := base) (e := 5) (size := 1) w cs l.length hb (by unfold maxLen; omega) (by have := congrArg List.length hc; rw [bcells_length] at this; simpa using this)
  rw [hc] at h
  exact h

theorem or32 (a y i : Nat) (hy : y < 2 ^ i) (h : a * 2 ^ i + y < 4294967296) : Go.bits .or .u32 (((a * 2 ^ i : Nat) : Int)) (y : Int) = ((a * 2 ^ i + y : Nat) : Int) := by
  have e : (BitVec.ofInt 32 ((a * 2 ^ i : Nat) : Int) ||| BitVec.ofInt 32 (y : Int)).toNat = a * 2 ^ i + y := by
    rw [BitVec.toNat_or, BitVec.ofInt_natCast, BitVec.ofInt_natCast, BitVec.toNat_ofNat, BitVec.toNat_ofNat, Nat.mod_eq_of_lt (by omega), Nat.mod_eq_of_lt (by omega)]
    have := Nat.shiftLeft_add_eq_or_of_lt (b := y) (i := i) hy a
    rw [Nat.shiftLeft_eq] at this
    exact this.symm
  show IntKind.u32.wrap ((BitVec.ofInt 32 ((a * 2 ^ i : Nat) : Int) ||| BitVec.ofInt 32 (y : Int)).toNat : Int) = _
  rw [e, wrap32u _ h]
theorem num32_shifts (a b c d : UInt8) : Go.bits .or .u32 (Go.bits .or .u32 (Go.bits .or .u32 ((a.toNat : Int) * 16777216) ((b.toNat : Int) * 65536)) ((c.toNat : Int) * 256)) (d.toNat : Int) = num32 [a, b, c, d] := by
  have b0 := a.toNat_lt; have b1 := b.toNat_lt; have b2 := c.toNat_lt; have b3 := d.toNat_lt
  rw [num32_four]
  generalize a.toNat = a at *; generalize b.toNat = b at *; generalize c.toNat = c at *; generalize d.toNat = d at *
  have e1 := or32 a (b * 65536) 24 (by omega) (by omega)
  have e2 := or32 (a * 256 + b) (c * 256) 16 (by omega) (by omega)
  have e3 := or32 (a * 65536 + b * 256 + c) d 8 (by omega) (by omega)
  rw [show ((a : Int) * 16777216) = ((a * 2 ^ 24 : Nat) : Int) by omega, show ((b : Int) * 65536) = ((b * 65536 : Nat) : Int) by omega, e1, show ((a * 2 ^ 24 + b * 65536 : Nat) : Int) = (((a * 256 + b) * 2 ^ 16 : Nat) : Int) by omega, show ((c : Int) * 256) = ((c * 256 : Nat) : Int) by omega, e2, show (((a * 256 + b) * 2 ^ 16 + c * 256 : Nat) : Int) = (((a * 65536 + b * 256 + c) * 2 ^ 8 : Nat) : Int) by omega, e3]
  omega
end Go.Proofs.Ytefndmjimmbhnaa
end
