/- Contracts of the library's RotateLeft64 (at the turns that murmur makes) and of murmur's word. Conditions: the numbers are of uint64; at most a million bytes. -/
import Derived.Test.YtmjeifbadjdnfaaDoorSl
set_option linter.unusedVariables false
set_option linter.unusedSimpArgs false
set_option maxRecDepth 20000
namespace Go.Proofs.YtmjeifbadjdnfaaDoor
open Go.RowKit

def rotI (x : Int) (k : Nat) : Int := Go.bits .or .u64 (IntKind.u64.wrap (x * 2 ^ k)) (x / 2 ^ (64 - k))
theorem and63 (k : Nat) (h : k < 64) : Go.bits .and .u64 (k : Int) 63 = (k : Int) := by
  have key : ∀ k : Fin 64, Go.bits .and .u64 ((k.val : Nat) : Int) 63 = ((k.val : Nat) : Int) := by decide +kernel
  exact key ⟨k, h⟩
theorem bits64 (op : BinOp) (x y : Int) : 0 ≤ Go.bits op .u64 x y ∧ Go.bits op .u64 x y < 18446744073709551616 := by
  unfold Go.bits
  simp only [IntKind.wrap, IntKind.signed, IntKind.bits, Bool.false_and]
  constructor
  · simp; omega
  · simp; omega
theorem rot_any (x : Int) (k : Nat) (h0 : 0 ≤ x) (h1 : x < 18446744073709551616) (hk : k < 64) (w : World) :
    Calls Tryd.prog 90 #[.int .u64 x, .int .i64 (k : Int)] w fun e w' => e = .returned (.int .u64 (rotI x k)) ∧ w = w' := by
  have ha := and63 k hk
  go_enter Tryd.func90, Tryd.ntmps90
  go_wp2_with fail
  go_ret
  exact ⟨rfl, rfl⟩

/-- a number out of bytes, the lowest first -/
def leN (l : List UInt8) : Nat := l.foldr (fun b acc => acc * 256 + b.toNat) 0
theorem leN_cons (b : UInt8) (l : List UInt8) : leN (b :: l) = leN l * 256 + b.toNat := rfl
theorem leN_lt (l : List UInt8) : leN l < 256 ^ l.length := by
  induction l with
  | nil => simp [leN]
  | cons b l ih =>
    have := b.toNat_lt
    rw [leN_cons, List.length_cons, Nat.pow_succ]
    omega
theorem or_byte (u : Nat) (x : Nat) (hu : u < 72057594037927936) (hx : x < 256) : Go.bits .or .u64 ((u : Int) * 256) (x : Int) = ((u * 256 + x : Nat) : Int) := by
  have hw : ∀ n : Nat, n < 18446744073709551616 → IntKind.u64.wrap (n : Int) = n := fun n hn => by
    simp only [IntKind.wrap, IntKind.signed, IntKind.bits, Bool.false_and]
    simp; omega
  rw [show ((u : Int) * 256) = ((u * 256 : Nat) : Int) by omega]
  have e : (BitVec.ofInt 64 ((u * 256 : Nat) : Int) ||| BitVec.ofInt 64 (x : Int)).toNat = u * 256 + x := by
    rw [BitVec.toNat_or, BitVec.ofInt_natCast, BitVec.ofInt_natCast, BitVec.toNat_ofNat, BitVec.toNat_ofNat, Nat.mod_eq_of_lt (by omega), Nat.mod_eq_of_lt (by omega)]
    have := Nat.shiftLeft_add_eq_or_of_lt (b := x) (i := 8) (by omega) u
    rw [Nat.shiftLeft_eq] at this
    exact this.symm
  show IntKind.u64.wrap ((BitVec.ofInt 64 ((u * 256 : Nat) : Int) ||| BitVec.ofInt 64 (x : Int)).toNat : Int) = _
  rw [e, hw _ (by omega)]
set_option maxHeartbeats 1000000 in
theorem word_any (v : Value) (l : List UInt8) (B : Nat) (w : World) (hv : SlB B w v l) (hl : l.length ≤ 1000000) :
    Calls Tryd.prog 123 #[v] w fun e w' => e = .returned (.int .u64 (leN (l.take 8) : Int)) ∧ w = w' := by
  obtain ⟨a, c, rfl, hc, hx⟩ := hv.ex
  have HX := Lib.hid hx; clear hx hv
  have step : ∀ (m j : Nat), m ≤ 8 → m ≤ l.length → j < m → ∃ hj : j < l.length, leN ((l.take m).drop j) = leN ((l.take m).drop (j + 1)) * 256 + l[j].toNat ∧ leN ((l.take m).drop (j + 1)) < 72057594037927936 := by
    intro m j h8 hml hj
    have hlt : j < (l.take m).length := by rw [List.length_take]; omega
    refine ⟨by omega, ?_, ?_⟩
    · rw [List.drop_eq_getElem_cons hlt, leN_cons, List.getElem_take]
    · have h1 := leN_lt ((l.take m).drop (j + 1))
      have h2 : ((l.take m).drop (j + 1)).length ≤ 7 := by rw [List.length_drop, List.length_take]; omega
      have h3 : 256 ^ ((l.take m).drop (j + 1)).length ≤ 256 ^ 7 := Nat.pow_le_pow_right (by decide) h2
      have h4 : 256 ^ 7 = 72057594037927936 := rfl
      omega
  have STEP := Lib.hid step; clear step
  obtain ⟨m, hm8, hml, htk, hmm⟩ : ∃ m, m ≤ 8 ∧ m ≤ l.length ∧ l.take 8 = l.take m ∧ (m = l.length ∧ l.length ≤ 8 ∨ m = 8 ∧ 8 < l.length) := by
    by_cases h8 : l.length ≤ 8
    · exact ⟨l.length, h8, Nat.le_refl _, by rw [List.take_of_length_le h8, List.take_of_length_le (Nat.le_refl _)], .inl ⟨rfl, h8⟩⟩
    · exact ⟨8, Nat.le_refl _, by omega, rfl, .inr ⟨rfl, by omega⟩⟩
  rw [htk]
  clear htk
  rcases hmm with ⟨hm, hi⟩ | ⟨hm, hi⟩
  all_goals (
    have HM := Lib.hid hm
    clear hm
    go_enter Tryd.func123, Tryd.ntmps123
    go_wp2_with fail
    go_loopw [3, 4] (fun u i wr => ∃ j : Nat, j ≤ m ∧ i = .int .i64 ((j : Int) - 1) ∧ u = .int .u64 (leN ((l.take m).drop j) : Int) ∧ wr = w) (fun _ i _ => (intOf i + 1).toNat)
    case atStart => exact ⟨m, Nat.le_refl _, by first | (rw [HM.out]; done) | (rw [HM.out]; rfl), by rw [List.drop_of_length_le (by rw [List.length_take]; omega)]; rfl, rfl⟩
    case round =>
      obtain ⟨j, hj, rfl, rfl, rfl⟩ := hrel
      rcases j with _ | j
      · go_wp2_with fail
        go_ret
        exact ⟨rfl, rfl⟩
      · obtain ⟨hjl, hs, hb⟩ := STEP.out m j (by omega) (by omega) (by omega)
        obtain ⟨g, o, rfl, hg, hcell⟩ := HX.out (by omega)
        have hck := hcell j hjl
        have hxb := l[j].toNat_lt
        have ho := or_byte _ _ hb (by omega : l[j].toNat < 256)
        rw [← hs] at ho
        have HO := Lib.hid ho
        have hj2 : (j : Int) < (l.length : Int) := by omega
        clear hs ho hcell
        rw [show (((j + 1 : Nat) : Int) - 1) = (j : Int) by omega]
        generalize leN ((l.take m).drop (j + 1)) = u0 at *
        generalize l[j].toNat = x at *
        go_wp2_with fail
        go_roundw
        case rel => exact ⟨j, by omega, rfl, by rw [← HO.out], trivial⟩
        case measure => simp [intOf])

def mixI (k : Int) : Int :=
  let a := IntKind.u64.wrap (Go.bits .xor .u64 k (k / 8589934592) * 18397679294719823053)
  let b := IntKind.u64.wrap (Go.bits .xor .u64 a (a / 8589934592) * 14181476777654086739)
  Go.bits .xor .u64 b (b / 8589934592)
def lowI (l : List UInt8) : Int := IntKind.u64.wrap (rotI (IntKind.u64.wrap ((leN (l.take 8) : Int) * 9782798678568883157)) 31 * 5545529020109919103)
def highI (l : List UInt8) : Int := IntKind.u64.wrap (rotI (IntKind.u64.wrap ((leN (l.take 8) : Int) * 5545529020109919103)) 33 * 9782798678568883157)
theorem w64_range (x : Int) : 0 ≤ IntKind.u64.wrap x ∧ IntKind.u64.wrap x < 18446744073709551616 := by
  simp only [IntKind.wrap, IntKind.signed, IntKind.bits, Bool.false_and]
  constructor
  · simp; omega
  · simp; omega
set_option maxHeartbeats 1000000 in
theorem low_any (v : Value) (l : List UInt8) (B : Nat) (w : World) (hv : SlB B w v l) (hl : l.length ≤ 1000000) :
    Calls Tryd.prog 91 #[v] w fun e w' => e = .returned (.int .u64 (lowI l)) ∧ w = w' := by
  have W1 := Lib.hid (word_any v l B w hv hl)
  unfold lowI
  generalize leN (l.take 8) = u at *
  have hr := w64_range ((u : Int) * 9782798678568883157)
  have R1 := Lib.hid (rot_any _ 31 hr.1 hr.2 (by decide) w)
  clear hr
  go_enter Tryd.func91, Tryd.ntmps91
  go_wp2_with fail
  refine W1.out.mono ?_
  rintro e w1 ⟨rfl, rfl⟩
  go_wp2_with fail
  refine R1.out.mono ?_
  rintro e w1 ⟨rfl, rfl⟩
  go_wp2_with fail
  go_ret
  exact ⟨rfl, rfl⟩
set_option maxHeartbeats 1000000 in
theorem high_any (v : Value) (l : List UInt8) (B : Nat) (w : World) (hv : SlB B w v l) (hl : l.length ≤ 1000000) :
    Calls Tryd.prog 92 #[v] w fun e w' => e = .returned (.int .u64 (highI l)) ∧ w = w' := by
  have W1 := Lib.hid (word_any v l B w hv hl)
  unfold highI
  generalize leN (l.take 8) = u at *
  have hr := w64_range ((u : Int) * 5545529020109919103)
  have R1 := Lib.hid (rot_any _ 33 hr.1 hr.2 (by decide) w)
  clear hr
  go_enter Tryd.func92, Tryd.ntmps92
  go_wp2_with fail
  refine W1.out.mono ?_
  rintro e w1 ⟨rfl, rfl⟩
  go_wp2_with fail
  refine R1.out.mono ?_
  rintro e w1 ⟨rfl, rfl⟩
  go_wp2_with fail
  go_ret
  exact ⟨rfl, rfl⟩

set_option maxHeartbeats 1000000 in
theorem Mix_any (k : Int) (h0 : 0 ≤ k) (h1 : k < 18446744073709551616) (w : World) :
    Calls Tryd.prog 94 #[.int .u64 k] w fun e w' => e = .returned (.int .u64 (mixI k)) ∧ w = w' := by
  unfold mixI
  have ra := w64_range (Go.bits .xor .u64 k (k / 8589934592) * 18397679294719823053)
  have rb := w64_range (Go.bits .xor .u64 (IntKind.u64.wrap (Go.bits .xor .u64 k (k / 8589934592) * 18397679294719823053)) (IntKind.u64.wrap (Go.bits .xor .u64 k (k / 8589934592) * 18397679294719823053) / 8589934592) * 14181476777654086739)
  have i0 : ∀ w, (Instr.index 153 (.agg #[.int .u64 18397679294719823053, .int .u64 14181476777654086739]) (.int .i64 0)).run Tryd.prog w = .ok (.int .u64 18397679294719823053) w := fun _ => by kernel_rfl
  have i1 : ∀ w, (Instr.index 153 (.agg #[.int .u64 18397679294719823053, .int .u64 14181476777654086739]) (.int .i64 1)).run Tryd.prog w = .ok (.int .u64 14181476777654086739) w := fun _ => by kernel_rfl
  simp only
  generalize hb : IntKind.u64.wrap (Go.bits .xor .u64 (IntKind.u64.wrap (Go.bits .xor .u64 k (k / 8589934592) * 18397679294719823053)) (IntKind.u64.wrap (Go.bits .xor .u64 k (k / 8589934592) * 18397679294719823053) / 8589934592) * 14181476777654086739) = b at *
  generalize ha : IntKind.u64.wrap (Go.bits .xor .u64 k (k / 8589934592) * 18397679294719823053) = a at *
  have HA := Lib.hid ha; have HB := Lib.hid hb
  clear ha hb
  obtain ⟨ra0, ra1⟩ := ra
  obtain ⟨rb0, rb1⟩ := rb
  go_enter Tryd.func94, Tryd.ntmps94
  go_wp2_with fail
  go_loopw [0, 4, 6] (fun x _ i wr => wr = w ∧ ((i = .int .i64 0 ∧ x = .int .u64 k) ∨ (i = .int .i64 1 ∧ x = .int .u64 a) ∨ (i = .int .i64 2 ∧ x = .int .u64 b))) (fun _ _ i _ => (2 - intOf i).toNat)
  case atStart => exact ⟨rfl, .inl ⟨rfl, rfl⟩⟩
  case round =>
    obtain ⟨rfl, ⟨rfl, rfl⟩ | ⟨rfl, rfl⟩ | ⟨rfl, rfl⟩⟩ := hrel
    · go_wp2_with fail
      go_roundw
      case rel => exact ⟨trivial, .inr (.inl ⟨rfl, by rw [HA.out]⟩)⟩
      case measure => simp [intOf]
    · go_wp2_with fail
      go_roundw
      case rel => exact ⟨trivial, .inr (.inr ⟨rfl, by rw [HB.out]⟩)⟩
      case measure => simp [intOf]
    · go_wp2_with fail
      go_ret
      exact ⟨rfl, rfl⟩
end Go.Proofs.YtmjeifbadjdnfaaDoor
