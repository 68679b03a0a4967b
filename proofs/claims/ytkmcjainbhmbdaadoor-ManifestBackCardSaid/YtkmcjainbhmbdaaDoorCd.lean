/- Contract of the codec's crc. Conditions: the number is of uint32; at most a million bytes. -/
import Derived.Test.YtkmcjainbhmbdaaDoorCc
import Derived.Test.YtkmcjainbhmbdaaDoorSl
set_option linter.unusedVariables false
set_option linter.unusedSimpArgs false
set_option maxRecDepth 20000
namespace Go.Proofs.YtkmcjainbhmbdaaDoor
open Go.RowKit

set_option maxHeartbeats 1000000 in
theorem crc_any (c : Int) (v : Value) (l : List UInt8) (B : Nat) (w : World) (hv : SlB B w v l) (h0 : 0 ≤ c) (h1 : c < 4294967296) (hl : l.length ≤ 1000000) :
    Calls Tryd.prog 125 #[.int .u32 c, v] w fun e w' => e = .returned (.int .u32 (crcL c l)) ∧ w = w' := by
  obtain ⟨a, cp, rfl, hc, hx⟩ := hv.ex
  have HX := Lib.hid hx; clear hx hv
  go_enter Tryd.func125, Tryd.ntmps125
  go_wp2
  go_loopw [0, 6, 9, 17] (fun u y i j wr => ∃ (k : Nat) (z : Int), k ≤ l.length ∧ i = .int .i64 k ∧ wr = w ∧ u = .int .u32 z ∧ 0 ≤ z ∧ z < 4294967296 ∧ z = crcL c (l.take k)) (fun _ _ i _ _ => l.length - (intOf i).toNat)
  case atStart => exact ⟨0, c, by omega, rfl, rfl, rfl, h0, h1, rfl⟩
  case round =>
    obtain ⟨k, z, hk, rfl, rfl, rfl, z0, z1, hz⟩ := hrel
    by_cases hlt : k < l.length
    · obtain ⟨g, o, rfl, hg, hcell⟩ := HX.out (by omega)
      have hck := hcell k hlt
      have hx0 : (l[k].toNat : Int) < 256 := by have := l[k].toNat_lt; omega
      have hst := crcL_snoc c (l.take k) l[k]
      rw [← take_snoc _ _ _ (List.getElem?_eq_getElem hlt), ← hz] at hst
      have HST := Lib.hid hst; clear hst hz
      have hmod : (l[k].toNat : Int) % 4294967296 = (l[k].toNat : Int) := by omega
      have hq := bits32 .xor z (l[k].toNat : Int)
      have HQ := Lib.hid hq; clear hq
      go_wp2_with fail
      go_loopw [0, 17] (fun u j wr' => ∃ (m : Nat) (y : Int), m ≤ 8 ∧ j = .int .i64 m ∧ wr' = wr ∧ u = .int .u32 y ∧ 0 ≤ y ∧ y < 4294967296 ∧ y = crcBits m (Go.bits .xor .u32 z (l[k].toNat : Int))) (fun _ j _ => 8 - (intOf j).toNat)
      case atStart => exact ⟨0, _, by omega, rfl, rfl, rfl, HQ.out.1, HQ.out.2, rfl⟩
      case round =>
        obtain ⟨m, y, hm, rfl, rfl, rfl, y0, y1, hy⟩ := hrel
        have HY := Lib.hid hy; clear hy
        by_cases hl8 : m < 8
        · go_wp2_with fail
          go_roundw
          case rel => exact ⟨m + 1, crcBit y, by omega, by go_num, trivial, rfl, (bits32 _ _ _).1, (bits32 _ _ _).2, by rw [HY.out]; rfl⟩
          case measure => (first | (simp [intOf]; done) | (simp [intOf]; omega))
        · obtain rfl : m = 8 := by omega
          go_wp2_with fail
          go_roundw
          case rel => exact ⟨k + 1, y, by omega, by go_num, trivial, rfl, y0, y1, by rw [HST.out, HY.out]; rfl⟩
          case measure => (first | (simp [intOf]; done) | (simp [intOf]; omega))
    · have e : l.take k = l := List.take_of_length_le (by omega)
      rw [e] at hz
      go_wp2_with fail
      go_ret
      subst hz
      exact ⟨rfl, rfl⟩
end Go.Proofs.YtkmcjainbhmbdaaDoor
