/- Contract of the codec's crc. Conditions: the number is of uint32; at most a million bytes. Contracts of the codec's fourth and seal. Conditions: four bytes at least; at most a million. Contract of the codec's seal. Condition: at most a million bytes each. -/
import Derived.Test.YtefndmjimmbhnaaZ02
import Derived.Test.YtefndmjimmbhnaaZ46
section
set_option linter.unusedVariables false
set_option linter.unusedSimpArgs false
set_option maxRecDepth 20000
namespace Go.Proofs.Ytefndmjimmbhnaa
open Go.RowKit

set_option maxHeartbeats 1000000 in
theorem crc_any (c : Int) (v : Value) (l : List UInt8) (B : Nat) (w : World) (hv : SlB B w v l) (h0 : 0 ≤ c) (h1 : c < 4294967296) (hl : l.length ≤ 1000000) :
    Calls Try.prog 90 #[.int .u32 c, v] w fun e w' => e = .returned (.int .u32 (crcL c l)) ∧ w = w' := by
  obtain ⟨a, cp, rfl, hc, hx⟩ := hv.ex
  have HX := Lib.hid hx; clear hx hv
  go_enter Try.func90, Try.ntmps90
  go_wp2
  go_loopw [0, 6, 9, 17] (fun u y i j wr => ∃ (k : Nat) (z : Int), k ≤ l.length ∧ i = .int .i64 k ∧ wr = w ∧ u = .int .u32 z ∧ 0 ≤ z ∧ z < 4294967296 ∧ z = crcL c (l.take k)) (fun _ _ i _ _ => l.length - (intOf i).toNat)
  case atStart => exact ⟨0, c, by omega, rfl, rfl, rfl, h0, h1, rfl⟩
  case round =>
    obtain ⟨k, z, hk, rfl, rfl, rfl, z0, z1, hz⟩ := hrel
    by_cases hlt : k < l.length
    · obtain ⟨g, o, rfl, hg, hcell⟩ := HX.out (by omega)
      have hck := hcell k hlt
      have hx0 : (l[k].toNat : Int) < 256 := by have := l[k].toNat_lt; omega
      have hst := crcL_snoc c (l.take k) l[k]
      rw [← take_snoc _ _ _ (List.getElem?_eq_getElem hlt), ← hz] at hst
      have HST := Lib.hid hst; clear hst hz
      have hmod : (l[k].toNat : Int) % 4294967296 = (l[k].toNat : Int) := by omega
      have hq := bits32 .xor z (l[k].toNat : Int)
      have HQ := Lib.hid hq; clear hq
      go_wp2_with fail
      go_loopw [0, 17] (fun u j wr' => ∃ (m : Nat) (y : Int), m ≤ 8 ∧ j = .int .i64 m ∧ wr' = wr ∧ u = .int .u32 y ∧ 0 ≤ y ∧ y < 4294967296 ∧ y = crcBits m (Go.bits .xor .u32 z (l[k].toNat : Int))) (fun _ j _ => 8 - (intOf j).toNat)
      case atStart => exact ⟨0, _, by omega, rfl, rfl, rfl, HQ.out.1, HQ.out.2, rfl⟩
      case round =>
        obtain ⟨m, y, hm, rfl, rfl, rfl, y0, y1, hy⟩ := hrel
        have HY := Lib.hid hy; clear hy
        by_cases hl8 : m < 8
        · go_wp2_with fail
          go_roundw
          case rel => exact ⟨m + 1, crcBit y, by omega, by go_num, trivial, rfl, (bits32 _ _ _).1, (bits32 _ _ _).2, by rw [HY.out]; rfl⟩
          case measure => (first | (simp [intOf]; done) | (simp [intOf]; omega))
        · obtain rfl : m = 8 := by omega
          go_wp2_with fail
          go_roundw
          case rel => exact ⟨k + 1, y, by omega, by go_num, trivial, rfl, y0, y1, by rw [HST.out, HY.out]; rfl⟩
          case measure => (first | (simp [intOf]; done) | (simp [intOf]; omega))
    · have e : l.take k = l := List.take_of_length_le (by omega)
      rw [e] at hz
      go_wp2_with fail
      go_ret
      subst hz
      exact ⟨rfl, rfl⟩
end Go.Proofs.Ytefndmjimmbhnaa
end

section
set_option linter.unusedVariables false
set_option linter.unusedSimpArgs false
set_option maxRecDepth 20000
namespace Go.Proofs.Ytefndmjimmbhnaa
open Go.RowKit

theorem SlB.head4_run {a : Option Addr} {n c : Nat} (hi : 4 ≤ n) (hn : n ≤ c) (W : World) :
    (Instr.slice 69 (.slice a n c) none (some (.int .i64 4)) none).run Try.prog W = .ok (.slice (a.map (·.add 0)) 4 c) W := by
  rw [run_slice_h W _ _ _ _ undByte .i64 _ (by omega) (by omega), sizeByte]
  have e : (4 : Int).toNat = 4 := rfl
  have hne : ¬ c = 0 := by omega
  simp only [Result.andThen, sliced, e, Nat.mul_one, if_neg hne, Nat.sub_zero]
set_option maxHeartbeats 1000000 in
theorem fourth_any (v : Value) (l : List UInt8) (B : Nat) (w : World) (hv : SlB B w v l) (h4 : 4 ≤ l.length) (hl : l.length ≤ 1000000) :
    Calls Try.prog 61 #[v] w fun e w' => e = .returned (.int .u32 (num32 (l.take 4))) ∧ w = w' := by
  obtain ⟨a, c, rfl, hc, hx⟩ := hv.ex
  obtain ⟨gb, o, rfl, hgb, hcell⟩ := hx (by omega)
  have hr := SlB.head4_run (a := some ⟨gb, o, none⟩) (n := l.length) (c := c) h4 hc
  rw [show (some (⟨gb, o, none⟩ : Addr)).map (·.add 0) = some ⟨gb, o, none⟩ from rfl] at hr
  have hc2 : ∀ k, (h : k < 4) → w.cell? ⟨gb, o + k, none⟩ = some (.int .u8 ((l.take 4).getD k 0).toNat) := fun k hk => by
    rw [hcell k (by omega)]
    simp [List.getD_eq_getElem?_getD, List.getElem?_take, hk, List.getElem?_eq_getElem (show k < l.length by omega)]
  have hll : (l.take 4).length = 4 := by rw [List.length_take]; omega
  clear hcell hx hv
  have HC2 := Lib.hid hc2; clear hc2
  go_enter Try.func61, Try.ntmps61
  go_wp2_with fail
  go_loopw [3, 5, 9] (fun u y i wr => ∃ k : Nat, k ≤ 4 ∧ i = .int .i64 k ∧ wr = w ∧ u = .int .u32 (num32 ((l.take 4).take k))) (fun _ _ i _ => 4 - (intOf i).toNat)
  case atStart => exact ⟨0, by omega, rfl, rfl, rfl⟩
  case round =>
    obtain ⟨k, hk, rfl, rfl, rfl⟩ := hrel
    by_cases hlt : k < 4
    · have hck := HC2.out k hlt
      have hx0 : (((l.take 4).getD k 0).toNat : Int) < 256 := by have := ((l.take 4).getD k 0).toNat_lt; omega
      have ht : (l.take 4).take (k + 1) = (l.take 4).take k ++ [(l.take 4).getD k 0] := take_snoc _ _ _ (by rw [List.getD_eq_getElem?_getD, List.getElem?_eq_getElem (by omega)]; rfl)
      have hn := num32_snoc ((l.take 4).take k) ((l.take 4).getD k 0)
      rw [← ht] at hn
      have HN := Lib.hid hn; clear hn ht
      generalize (l.take 4).getD k 0 = x at *
      generalize num32 ((l.take 4).take k) = u at *
      go_wp2_with fail
      go_roundw
      case rel => exact ⟨k + 1, by omega, by go_num, trivial, by rw [HN.out]; rfl⟩
      case measure => (first | (simp [intOf]; done) | (simp [intOf]; omega))
    · obtain rfl : k = 4 := by omega
      have hm : num32 ((l.take 4).take 4) = num32 (l.take 4) := by rw [List.take_take]; rfl
      rw [hm]
      go_wp2_with fail
      go_ret
      exact ⟨rfl, rfl⟩
end Go.Proofs.Ytefndmjimmbhnaa
end

section
set_option linter.unusedVariables false
set_option linter.unusedSimpArgs false
set_option maxRecDepth 20000
namespace Go.Proofs.Ytefndmjimmbhnaa
open Go.RowKit

theorem xor_max (y : Int) (h0 : 0 ≤ y) (h1 : y < 4294967296) : Go.bits .xor .u32 IntKind.u32.max y = 4294967295 - y := by
  obtain ⟨a, rfl⟩ : ∃ a : Nat, y = a := ⟨y.toNat, by omega⟩
  have e : (BitVec.ofInt 32 4294967295 ^^^ BitVec.ofInt 32 (a : Int)).toNat = 4294967295 - a := by
    rw [show BitVec.ofInt 32 4294967295 = BitVec.allOnes 32 from by decide, BitVec.allOnes_xor, BitVec.toNat_not, BitVec.ofInt_natCast, BitVec.toNat_ofNat, Nat.mod_eq_of_lt (by omega)]
  show IntKind.wrap .u32 ((BitVec.ofInt 32 4294967295 ^^^ BitVec.ofInt 32 (a : Int)).toNat : Int) = _
  rw [e]
  simp only [IntKind.wrap, IntKind.signed, IntKind.bits, Bool.false_and]
  simp
  omega
theorem seal_any (v1 v2 : Value) (a b : List UInt8) (B : Nat) (w : World) (ha : SlB B w v1 a) (hb : SlB B w v2 b) (hl : a.length ≤ 1000000) (hm : b.length ≤ 1000000) :
    Calls Try.prog 62 #[v1, v2] w fun e w' => e = .returned (.int .u32 (sealL a b)) ∧ w = w' := by
  have r1 := crcL_range a 4294967295 (by decide) (by decide)
  have H1 := Lib.hid (crc_any 4294967295 v1 a B w ha (by decide) (by decide) hl)
  have H2 := Lib.hid (crc_any (crcL 4294967295 a) v2 b B w hb r1.1 r1.2 hm)
  have r2 := crcL_range b _ r1.1 r1.2
  unfold sealL
  generalize crcL 4294967295 a = x at *
  generalize crcL x b = y at *
  go_enter Try.func62, Try.ntmps62
  go_wp2_with fail
  refine H1.out.mono ?_
  rintro e w1 ⟨rfl, rfl⟩
  go_wp2_with fail
  refine H2.out.mono ?_
  rintro e w1 ⟨rfl, rfl⟩
  go_wp2_with fail
  go_ret
  refine ⟨ret_i ?_, rfl⟩
  exact xor_max _ r2.1 r2.2
end Go.Proofs.Ytefndmjimmbhnaa
end
