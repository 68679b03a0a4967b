/- Contract of the codec's four. Conditions: the number is of uint32; the bytes leave room. Contract of the codec's crc. Conditions: the number is of uint32; at most a million bytes. Contracts of the codec's fourth and seal. Conditions: four bytes at least; at most a million. -/
import Derived.Test.YtplghaoflmaadaaGreatDoorZ05
import Derived.Test.YtplghaoflmaadaaGreatDoorZ02
section
set_option linter.unusedVariables false
set_option linter.unusedSimpArgs false
set_option maxRecDepth 20000
namespace Go.Proofs.YtplghaoflmaadaaGreatDoor
open Go.RowKit

theorem fourL_cells (n : Int) (h0 : 0 ≤ n) (h1 : n < 4294967296) : [Value.int .u8 (n / 16777216), .int .u8 (n / 65536 % 256), .int .u8 (n / 256 % 256), .int .u8 (n % 256)] = bcells (fourL n) := by
  have h : ∀ m : Int, ((byteOf (m % 256)).toNat : Int) = m % 256 := fun m => byteOf_val (Int.emod_nonneg _ (by decide)) (Int.emod_lt_of_pos _ (by decide))
  have e : n / 16777216 = n / 16777216 % 256 := by omega
  have h' := h (n / 16777216)
  simp only [bcells, fourL, List.map_cons, List.map_nil, h (n / 65536), h (n / 256), h n, h']
  rw [← e]

set_option maxHeartbeats 1000000 in
theorem four_any (base : Nat) (v : Value) (l : List UInt8) (n : Int) (w : World) (HO : OwnB w base v l) (hbase : base ≤ w.heap.size) (h0 : 0 ≤ n) (h1 : n < 4294967296) (hl : l.length ≤ 100000000000) :
    Calls Tryz.prog 86 #[v, .int .u32 n] w (RetB base w (l ++ fourL n)) := by
  have HO0 := Lib.hid HO; clear HO
  have HC := Lib.hid (fourL_cells n h0 h1)
  have hl2 : l.length + (fourL n).length ≤ 140737488355328 := by simp [fourL]; omega
  go_enter Tryz.func86, Tryz.ntmps86
  go_wp2_with (at_builtin; go_must (refine ap_lit rfl (.tmp 5) (.tmp 17) rfl base v l (fourL n) _ 4 4 rfl rfl rfl HC.out HO0.out (Below.refl _ _) hbase hl2 ?_); intro v1 w1 hO1 hB1 hz1)
  go_ret
  exact ⟨_, rfl, hO1, hB1⟩
end Go.Proofs.YtplghaoflmaadaaGreatDoor
end

section
set_option linter.unusedVariables false
set_option linter.unusedSimpArgs false
set_option maxRecDepth 20000
namespace Go.Proofs.YtplghaoflmaadaaGreatDoor
open Go.RowKit

set_option maxHeartbeats 1000000 in
theorem crc_any (c : Int) (v : Value) (l : List UInt8) (B : Nat) (w : World) (hv : SlB B w v l) (h0 : 0 ≤ c) (h1 : c < 4294967296) (hl : l.length ≤ 1000000) :
    Calls Tryz.prog 88 #[.int .u32 c, v] w fun e w' => e = .returned (.int .u32 (crcL c l)) ∧ w = w' := by
  obtain ⟨a, cp, rfl, hc, hx⟩ := hv.ex
  have HX := Lib.hid hx; clear hx hv
  go_enter Tryz.func88, Tryz.ntmps88
  go_wp2
  go_loopw [0, 6, 9, 17] (fun u y i j wr => ∃ (k : Nat) (z : Int), k ≤ l.length ∧ i = .int .i64 k ∧ wr = w ∧ u = .int .u32 z ∧ 0 ≤ z ∧ z < 4294967296 ∧ z = crcL c (l.take k)) (fun _ _ i _ _ => l.length - (intOf i).toNat)
  case atStart => exact ⟨0, c, by omega, rfl, rfl, rfl, h0, h1, rfl⟩
  case round =>
    obtain ⟨k, z, hk, rfl, rfl, rfl, z0, z1, hz⟩ := hrel
    by_cases hlt : k < l.length
    · obtain ⟨g, o, rfl, hg, hcell⟩ := HX.out (by omega)
      have hck := hcell k hlt
      have hx0 : (l[k].toNat : Int) < 256 := by have := l[k].toNat_lt; omega
      have hst := crcL_snoc c (l.take k) l[k]
      rw [← take_snoc _ _ _ (List.getElem?_eq_getElem hlt), ← hz] at hst
      have HST := Lib.hid hst; clear hst hz
      have hmod : (l[k].toNat : Int) % 4294967296 = (l[k].toNat : Int) := by omega
      have hq := bits32 .xor z (l[k].toNat : Int)
      have HQ := Lib.hid hq; clear hq
      go_wp2_with fail
      go_loopw [0, 17] (fun u j wr' => ∃ (m : Nat) (y : Int), m ≤ 8 ∧ j = .int .i64 m ∧ wr' = wr ∧ u = .int .u32 y ∧ 0 ≤ y ∧ y < 4294967296 ∧ y = crcBits m (Go.bits .xor .u32 z (l[k].toNat : Int))) (fun _ j _ => 8 - (intOf j).toNat)
      case atStart => exact ⟨0, _, by omega, rfl, rfl, rfl, HQ.out.1, HQ.out.2, rfl⟩
      case round =>
        obtain ⟨m, y, hm, rfl, rfl, rfl, y0, y1, hy⟩ := hrel
        have HY := Lib.hid hy; clear hy
        by_cases hl8 : m < 8
        · go_wp2_with fail
          go_roundw
          case rel => exact ⟨m + 1, crcBit y, by omega, by go_num, trivial, rfl, (bits32 _ _ _).1, (bits32 _ _ _).2, by rw [HY.out]; rfl⟩
          case measure => (first | (simp [intOf]; done) | (simp [intOf]; omega))
        · obtain rfl : m = 8 := by omega
          go_wp2_with fail
          go_roundw
          case rel => exact ⟨k + 1, y, by omega, by go_num, trivial, rfl, y0, y1, by rw [HST.out, HY.out]; rfl⟩
          case measure => (first | (simp [intOf]; done) | (simp [intOf]; omega))
    · have e : l.take k = l := List.take_of_length_le (by omega)
      rw [e] at hz
      go_wp2_with fail
      go_ret
      subst hz
      exact ⟨rfl, rfl⟩
end Go.Proofs.YtplghaoflmaadaaGreatDoor
end

section
set_option linter.unusedVariables false
set_option linter.unusedSimpArgs false
set_option maxRecDepth 20000
namespace Go.Proofs.YtplghaoflmaadaaGreatDoor
open Go.RowKit

theorem SlB.head4_run {a : Option Addr} {n c : Nat} (hi : 4 ≤ n) (hn : n ≤ c) (W : World) :
    (Instr.slice 29 (.slice a n c) none (some (.int .i64 4)) none).run Tryz.prog W = .ok (.slice (a.map (·.add 0)) 4 c) W := by
  rw [run_slice_h W _ _ _ _ undByte .i64 _ (by omega) (by omega), sizeByte]
  have e : (4 : Int).toNat = 4 := rfl
  have hne : ¬ c = 0 := by omega
  simp only [Result.andThen, sliced, e, Nat.mul_one, if_neg hne, Nat.sub_zero]
set_option maxHeartbeats 1000000 in
theorem fourth_any (v : Value) (l : List UInt8) (B : Nat) (w : World) (hv : SlB B w v l) (h4 : 4 ≤ l.length) (hl : l.length ≤ 1000000) :
    Calls Tryz.prog 112 #[v] w fun e w' => e = .returned (.int .u32 (num32 (l.take 4))) ∧ w = w' := by
  obtain ⟨a, c, rfl, hc, hx⟩ := hv.ex
  obtain ⟨gb, o, rfl, hgb, hcell⟩ := hx (by omega)
  have hr := SlB.head4_run (a := some ⟨gb, o, none⟩) (n := l.length) (c := c) h4 hc
  rw [show (some (⟨gb, o, none⟩ : Addr)).map (·.add 0) = some ⟨gb, o, none⟩ from rfl] at hr
  have hc2 : ∀ k, (h : k < 4) → w.cell? ⟨gb, o + k, none⟩ = some (.int .u8 ((l.take 4).getD k 0).toNat) := fun k hk => by
    rw [hcell k (by omega)]
    simp [List.getD_eq_getElem?_getD, List.getElem?_take, hk, List.getElem?_eq_getElem (show k < l.length by omega)]
  have hll : (l.take 4).length = 4 := by rw [List.length_take]; omega
  clear hcell hx hv
  have HC2 := Lib.hid hc2; clear hc2
  go_enter Tryz.func112, Tryz.ntmps112
  go_wp2_with fail
  go_loopw [3, 5, 9] (fun u y i wr => ∃ k : Nat, k ≤ 4 ∧ i = .int .i64 k ∧ wr = w ∧ u = .int .u32 (num32 ((l.take 4).take k))) (fun _ _ i _ => 4 - (intOf i).toNat)
  case atStart => exact ⟨0, by omega, rfl, rfl, rfl⟩
  case round =>
    obtain ⟨k, hk, rfl, rfl, rfl⟩ := hrel
    by_cases hlt : k < 4
    · have hck := HC2.out k hlt
      have hx0 : (((l.take 4).getD k 0).toNat : Int) < 256 := by have := ((l.take 4).getD k 0).toNat_lt; omega
      have ht : (l.take 4).take (k + 1) = (l.take 4).take k ++ [(l.take 4).getD k 0] := take_snoc _ _ _ (by rw [List.getD_eq_getElem?_getD, List.getElem?_eq_getElem (by omega)]; rfl)
      have hn := num32_snoc ((l.take 4).take k) ((l.take 4).getD k 0)
      rw [← ht] at hn
      have HN := Lib.hid hn; clear hn ht
      generalize (l.take 4).getD k 0 = x at *
      generalize num32 ((l.take 4).take k) = u at *
      go_wp2_with fail
      go_roundw
      case rel => exact ⟨k + 1, by omega, by go_num, trivial, by rw [HN.out]; rfl⟩
      case measure => (first | (simp [intOf]; done) | (simp [intOf]; omega))
    · obtain rfl : k = 4 := by omega
      have hm : num32 ((l.take 4).take 4) = num32 (l.take 4) := by rw [List.take_take]; rfl
      rw [hm]
      go_wp2_with fail
      go_ret
      exact ⟨rfl, rfl⟩
end Go.Proofs.YtplghaoflmaadaaGreatDoor
end
