/- Contract of the codec's seal. Condition: at most a million bytes each. -/
import Derived.Test.YtkmcjainbhmbdaaDoorCe
set_option linter.unusedVariables false
set_option linter.unusedSimpArgs false
set_option maxRecDepth 20000
namespace Go.Proofs.YtkmcjainbhmbdaaDoor
open Go.RowKit

theorem xor_max (y : Int) (h0 : 0 ≤ y) (h1 : y < 4294967296) : Go.bits .xor .u32 IntKind.u32.max y = 4294967295 - y := by
  obtain ⟨a, rfl⟩ : ∃ a : Nat, y = a := ⟨y.toNat, by omega⟩
  have e : (BitVec.ofInt 32 4294967295 ^^^ BitVec.ofInt 32 (a : Int)).toNat = 4294967295 - a := by
    rw [show BitVec.ofInt 32 4294967295 = BitVec.allOnes 32 from by decide, BitVec.allOnes_xor, BitVec.toNat_not, BitVec.ofInt_natCast, BitVec.toNat_ofNat, Nat.mod_eq_of_lt (by omega)]
  show IntKind.wrap .u32 ((BitVec.ofInt 32 4294967295 ^^^ BitVec.ofInt 32 (a : Int)).toNat : Int) = _
  rw [e]
  simp only [IntKind.wrap, IntKind.signed, IntKind.bits, Bool.false_and]
  simp
  omega
theorem seal_any (v1 v2 : Value) (a b : List UInt8) (B : Nat) (w : World) (ha : SlB B w v1 a) (hb : SlB B w v2 b) (hl : a.length ≤ 1000000) (hm : b.length ≤ 1000000) :
    Calls Tryd.prog 95 #[v1, v2] w fun e w' => e = .returned (.int .u32 (sealL a b)) ∧ w = w' := by
  have r1 := crcL_range a 4294967295 (by decide) (by decide)
  have H1 := Lib.hid (crc_any 4294967295 v1 a B w ha (by decide) (by decide) hl)
  have H2 := Lib.hid (crc_any (crcL 4294967295 a) v2 b B w hb r1.1 r1.2 hm)
  have r2 := crcL_range b _ r1.1 r1.2
  unfold sealL
  generalize crcL 4294967295 a = x at *
  generalize crcL x b = y at *
  go_enter Tryd.func95, Tryd.ntmps95
  go_wp2_with fail
  refine H1.out.mono ?_
  rintro e w1 ⟨rfl, rfl⟩
  go_wp2_with fail
  refine H2.out.mono ?_
  rintro e w1 ⟨rfl, rfl⟩
  go_wp2_with fail
  go_ret
  refine ⟨ret_i ?_, rfl⟩
  exact xor_max _ r2.1 r2.2
end Go.Proofs.YtkmcjainbhmbdaaDoor
