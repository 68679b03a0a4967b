/- Contracts of the codec's put and Put: a number in bytes. Conditions: the number is of uint64; the bytes leave room. Contract of the codec's Put. Conditions: the number is of uint64; the bytes leave room. Contract of the codec's four. Conditions: the number is of uint32; the bytes leave room. Contract of the codec's crc. Conditions: the number is of uint32; at most a million bytes. Contracts of the codec's fourth and seal. Conditions: four bytes at least; at most a million. Contract of the codec's seal. Condition: at most a million bytes each. Contract of the codec's Get: the number that bytes begin with. Condition: at most a million bytes. -/
import Derived.Test.YtefndmjimmbhnaaDoorZ00
import Derived.Test.YtefndmjimmbhnaaDoorZ01
section
set_option linter.unusedVariables false
set_option linter.unusedSimpArgs false
set_option maxRecDepth 20000
namespace Go.Proofs.YtefndmjimmbhnaaDoor
open Go.RowKit

theorem or128 (y : Nat) (h : y < 256) : Go.bits .or .u8 (y : Int) 128 = ((y % 128 + 128 : Nat) : Int) := by
  have key : ∀ y : Fin 256, Go.bits .or .u8 ((y.val : Nat) : Int) 128 = ((y.val % 128 + 128 : Nat) : Int) := by decide +kernel
  exact key ⟨y, h⟩
theorem bcells_nat (n : Nat) (h : n < 256) : [Value.int .u8 (n : Int)] = bcells [UInt8.ofNat n] := by
  simp [bcells, UInt8.toNat_ofNat']; omega

set_option maxHeartbeats 1000000 in
theorem put_any (base : Nat) (v : Value) (l : List UInt8) (u : Nat) (w : World) (HO : OwnB w base v l) (hbase : base ≤ w.heap.size) (hu : u < 18446744073709551616) (hl : l.length ≤ 100000000000) :
    Calls Tryd.prog 55 #[v, .int .u64 (u : Int)] w (RetB base w (l ++ putL u)) := by
  have HO0 := Lib.hid HO; clear HO
  have hp := putL_len 9 u (by omega)
  have HT := Lib.hid (rfl : l ++ putL u = l ++ putL u)
  generalize htot : l ++ putL u = tot at *
  have htl : tot.length ≤ 100000000010 := by rw [← htot]; simp; omega
  clear hp
  have HTO := Lib.hid htot; clear htot
  go_enter Tryd.func55, Tryd.ntmps55
  go_wp2
  go_loopw [0, 1] (fun s i wr => ∃ (m : Nat) (acc : List UInt8), m ≤ u ∧ i = .int .u64 (m : Int) ∧ Below base w wr ∧ base ≤ wr.heap.size ∧ OwnB wr base s acc ∧ acc ++ putL m = tot) (fun _ i _ => (intOf i).toNat)
  case atStart => exact ⟨u, l, Nat.le_refl _, rfl, Below.refl _ _, hbase, HO0.out, HTO.out⟩
  case round =>
    obtain ⟨m, acc, hm, rfl, hB, hz, hO, he⟩ := hrel
    have hlen : acc.length + 1 ≤ 140737488355328 := by
      have h1 := congrArg List.length he; rw [List.length_append] at h1; omega
    clear HO0
    have HO := Lib.hid hO; clear hO
    by_cases h : m < 128
    · rw [putL_small m h] at he
      have HE := Lib.hid he; clear he
      have hb := bcells_nat m (by omega)
      have HBC := Lib.hid hb; clear hb
      have hmod : (m : Int) % 256 = m := by omega
      go_wp2_with (at_builtin; go_must (refine ap_lit rfl (.tmp 15) (.tmp 18) rfl base u0 acc [UInt8.ofNat m] _ 1 1 rfl rfl rfl HBC.out HO.out hB hz hlen ?_); intro v1 w1 hO1 hB1 hz1; clear HO hB hz)
      go_ret
      exact ⟨_, rfl, by rw [HE.out] at hO1; exact hO1, hB1⟩
    · rw [putL_great m h] at he
      have HE := Lib.hid he; clear he
      have hor := or128 (m % 256) (by omega)
      have hmm : m % 256 % 128 = m % 128 := by omega
      rw [hmm] at hor
      have hb := bcells_nat (m % 128 + 128) (by omega)
      have HBC := Lib.hid hb; clear hb hmm
      have hcast : ((m % 256 : Nat) : Int) = (m : Int) % 256 := by omega
      rw [hcast] at hor
      clear hcast
      go_wp2_with (at_builtin; go_must (refine ap_lit rfl (.tmp 9) (.tmp 13) rfl base u0 acc [UInt8.ofNat (m % 128 + 128)] _ 1 1 rfl rfl rfl HBC.out HO.out hB hz hlen ?_); intro v1 w1 hO1 hB1 hz1; clear HO hB hz)
      go_roundw
      case rel => exact ⟨m / 128, acc ++ [UInt8.ofNat (m % 128 + 128)], by omega, by go_num, hB1, hz1, hO1, by rw [List.append_assoc]; exact HE.out⟩
      case measure => (first | (simp [intOf]; done) | (simp [intOf]; omega))
end Go.Proofs.YtefndmjimmbhnaaDoor
end

section
set_option linter.unusedVariables false
set_option linter.unusedSimpArgs false
set_option maxRecDepth 20000
namespace Go.Proofs.YtefndmjimmbhnaaDoor
open Go.RowKit

set_option maxHeartbeats 1000000 in
theorem Put_any (base : Nat) (v : Value) (l : List UInt8) (u : Nat) (w : World) (HO : OwnB w base v l) (hu : u < 18446744073709551616) (hl : l.length ≤ 100000000000) :
    Calls Tryd.prog 33 #[v, .int .u64 (u : Int)] w (RetB w.heap.size w (l ++ putL u)) := by
  have HP := Lib.hid (fun W v1 (h : OwnB W w.heap.size v1 l) (hz : w.heap.size ≤ W.heap.size) => put_any w.heap.size v1 l u W h hz hu hl)
  have HO0 := Lib.hid HO
  rcases HO.2 with ⟨rfl, h0⟩ | ⟨g, cap, cur, rfl, hg, hrest⟩
  · clear HO
    obtain rfl : l = [] := List.eq_nil_of_length_eq_zero h0
    go_enter Tryd.func33, Tryd.ntmps33
    go_wp2_with fail
    refine (HP.out _ _ (OwnB.nil _ _) (Nat.le_refl _)).mono ?_
    rintro e w1 ⟨v1, rfl, hO1, hb1⟩
    go_wp2_with fail
    go_ret
    exact ⟨_, rfl, hO1, hb1⟩
  · have hcells : ∀ j x, (bcells l)[j]? = some x → w.cell? ((⟨g, 0, none⟩ : Addr).add j) = some x := World.ownsRow.cells HO rfl
    have HC := Lib.hid hcells; clear hcells HO hrest
    have hl2 : ([] : List UInt8).length + l.length ≤ 140737488355328 := by simp; omega
    go_enter Tryd.func33, Tryd.ntmps33
    go_wp2_with (at_builtin; go_must (refine ap_bytes rfl (.const (.slice none 0 0)) (.tmp 5) rfl w.heap.size (.slice none 0 0) [] l ⟨g, 0, none⟩ l.length cap rfl rfl rfl HC.out (OwnB.nil _ _) (Below.refl _ _) (Nat.le_refl _) hl2 ?_); intro v1 w1 hO1 hB1 hz1 _)
    rw [List.nil_append] at hO1
    refine (HP.out _ _ hO1 hz1).mono ?_
    rintro e w2 ⟨v2, rfl, hO2, hb2⟩
    have hB2 := hB1.trans hb2
    clear hO1 hB1 hb2
    go_wp2_with fail
    go_ret
    exact ⟨_, rfl, hO2, hB2⟩
end Go.Proofs.YtefndmjimmbhnaaDoor
end

section
set_option linter.unusedVariables false
set_option linter.unusedSimpArgs false
set_option maxRecDepth 20000
namespace Go.Proofs.YtefndmjimmbhnaaDoor
open Go.RowKit

theorem fourL_cells (n : Int) (h0 : 0 ≤ n) (h1 : n < 4294967296) : [Value.int .u8 (n / 16777216), .int .u8 (n / 65536 % 256), .int .u8 (n / 256 % 256), .int .u8 (n % 256)] = bcells (fourL n) := by
  have h : ∀ m : Int, ((byteOf (m % 256)).toNat : Int) = m % 256 := fun m => byteOf_val (Int.emod_nonneg _ (by decide)) (Int.emod_lt_of_pos _ (by decide))
  have e : n / 16777216 = n / 16777216 % 256 := by omega
  have h' := h (n / 16777216)
  simp only [bcells, fourL, List.map_cons, List.map_nil, h (n / 65536), h (n / 256), h n, h']
  rw [← e]

set_option maxHeartbeats 1000000 in
theorem four_any (base : Nat) (v : Value) (l : List UInt8) (n : Int) (w : World) (HO : OwnB w base v l) (hbase : base ≤ w.heap.size) (h0 : 0 ≤ n) (h1 : n < 4294967296) (hl : l.length ≤ 100000000000) :
    Calls Tryd.prog 56 #[v, .int .u32 n] w (RetB base w (l ++ fourL n)) := by
  have HO0 := Lib.hid HO; clear HO
  have HC := Lib.hid (fourL_cells n h0 h1)
  have hl2 : l.length + (fourL n).length ≤ 140737488355328 := by simp [fourL]; omega
  go_enter Tryd.func56, Tryd.ntmps56
  go_wp2_with (at_builtin; go_must (refine ap_lit rfl (.tmp 5) (.tmp 17) rfl base v l (fourL n) _ 4 4 rfl rfl rfl HC.out HO0.out (Below.refl _ _) hbase hl2 ?_); intro v1 w1 hO1 hB1 hz1)
  go_ret
  exact ⟨_, rfl, hO1, hB1⟩
end Go.Proofs.YtefndmjimmbhnaaDoor
end

section
set_option linter.unusedVariables false
set_option linter.unusedSimpArgs false
set_option maxRecDepth 20000
namespace Go.Proofs.YtefndmjimmbhnaaDoor
open Go.RowKit

set_option maxHeartbeats 1000000 in
theorem crc_any (c : Int) (v : Value) (l : List UInt8) (B : Nat) (w : World) (hv : SlB B w v l) (h0 : 0 ≤ c) (h1 : c < 4294967296) (hl : l.length ≤ 1000000) :
    Calls Tryd.prog 65 #[.int .u32 c, v] w fun e w' => e = .returned (.int .u32 (crcL c l)) ∧ w = w' := by
  obtain ⟨a, cp, rfl, hc, hx⟩ := hv.ex
  have HX := Lib.hid hx; clear hx hv
  go_enter Tryd.func65, Tryd.ntmps65
  go_wp2
  go_loopw [0, 6, 9, 17] (fun u y i j wr => ∃ (k : Nat) (z : Int), k ≤ l.length ∧ i = .int .i64 k ∧ wr = w ∧ u = .int .u32 z ∧ 0 ≤ z ∧ z < 4294967296 ∧ z = crcL c (l.take k)) (fun _ _ i _ _ => l.length - (intOf i).toNat)
  case atStart => exact ⟨0, c, by omega, rfl, rfl, rfl, h0, h1, rfl⟩
  case round =>
    obtain ⟨k, z, hk, rfl, rfl, rfl, z0, z1, hz⟩ := hrel
    by_cases hlt : k < l.length
    · obtain ⟨g, o, rfl, hg, hcell⟩ := HX.out (by omega)
      have hck := hcell k hlt
      have hx0 : (l[k].toNat : Int) < 256 := by have := l[k].toNat_lt; omega
      have hst := crcL_snoc c (l.take k) l[k]
      rw [← take_snoc _ _ _ (List.getElem?_eq_getElem hlt), ← hz] at hst
      have HST := Lib.hid hst; clear hst hz
      have hmod : (l[k].toNat : Int) % 4294967296 = (l[k].toNat : Int) := by omega
      have hq := bits32 .xor z (l[k].toNat : Int)
      have HQ := Lib.hid hq; clear hq
      go_wp2_with fail
      go_loopw [0, 17] (fun u j wr' => ∃ (m : Nat) (y : Int), m ≤ 8 ∧ j = .int .i64 m ∧ wr' = wr ∧ u = .int .u32 y ∧ 0 ≤ y ∧ y < 4294967296 ∧ y = crcBits m (Go.bits .xor .u32 z (l[k].toNat : Int))) (fun _ j _ => 8 - (intOf j).toNat)
      case atStart => exact ⟨0, _, by omega, rfl, rfl, rfl, HQ.out.1, HQ.out.2, rfl⟩
      case round =>
        obtain ⟨m, y, hm, rfl, rfl, rfl, y0, y1, hy⟩ := hrel
        have HY := Lib.hid hy; clear hy
        by_cases hl8 : m < 8
        · go_wp2_with fail
          go_roundw
          case rel => exact ⟨m + 1, crcBit y, by omega, by go_num, trivial, rfl, (bits32 _ _ _).1, (bits32 _ _ _).2, by rw [HY.out]; rfl⟩
          case measure => (first | (simp [intOf]; done) | (simp [intOf]; omega))
        · obtain rfl : m = 8 := by omega
          go_wp2_with fail
          go_roundw
          case rel => exact ⟨k + 1, y, by omega, by go_num, trivial, rfl, y0, y1, by rw [HST.out, HY.out]; rfl⟩
          case measure => (first | (simp [intOf]; done) | (simp [intOf]; omega))
    · have e : l.take k = l := List.take_of_length_le (by omega)
      rw [e] at hz
      go_wp2_with fail
      go_ret
      subst hz
      exact ⟨rfl, rfl⟩
end Go.Proofs.YtefndmjimmbhnaaDoor
end

section
set_option linter.unusedVariables false
set_option linter.unusedSimpArgs false
set_option maxRecDepth 20000
namespace Go.Proofs.YtefndmjimmbhnaaDoor
open Go.RowKit

theorem SlB.head4_run {a : Option Addr} {n c : Nat} (hi : 4 ≤ n) (hn : n ≤ c) (W : World) :
    (Instr.slice 46 (.slice a n c) none (some (.int .i64 4)) none).run Tryd.prog W = .ok (.slice (a.map (·.add 0)) 4 c) W := by
  rw [run_slice_h W _ _ _ _ undByte .i64 _ (by omega) (by omega), sizeByte]
  have e : (4 : Int).toNat = 4 := rfl
  have hne : ¬ c = 0 := by omega
  simp only [Result.andThen, sliced, e, Nat.mul_one, if_neg hne, Nat.sub_zero]
set_option maxHeartbeats 1000000 in
theorem fourth_any (v : Value) (l : List UInt8) (B : Nat) (w : World) (hv : SlB B w v l) (h4 : 4 ≤ l.length) (hl : l.length ≤ 1000000) :
    Calls Tryd.prog 64 #[v] w fun e w' => e = .returned (.int .u32 (num32 (l.take 4))) ∧ w = w' := by
  obtain ⟨a, c, rfl, hc, hx⟩ := hv.ex
  obtain ⟨gb, o, rfl, hgb, hcell⟩ := hx (by omega)
  have hr := SlB.head4_run (a := some ⟨gb, o, none⟩) (n := l.length) (c := c) h4 hc
  rw [show (some (⟨gb, o, none⟩ : Addr)).map (·.add 0) = some ⟨gb, o, none⟩ from rfl] at hr
  have hc2 : ∀ k, (h : k < 4) → w.cell? ⟨gb, o + k, none⟩ = some (.int .u8 ((l.take 4).getD k 0).toNat) := fun k hk => by
    rw [hcell k (by omega)]
    simp [List.getD_eq_getElem?_getD, List.getElem?_take, hk, List.getElem?_eq_getElem (show k < l.length by omega)]
  have hll : (l.take 4).length = 4 := by rw [List.length_take]; omega
  clear hcell hx hv
  have HC2 := Lib.hid hc2; clear hc2
  go_enter Tryd.func64, Tryd.ntmps64
  go_wp2_with fail
  go_loopw [3, 5, 9] (fun u y i wr => ∃ k : Nat, k ≤ 4 ∧ i = .int .i64 k ∧ wr = w ∧ u = .int .u32 (num32 ((l.take 4).take k))) (fun _ _ i _ => 4 - (intOf i).toNat)
  case atStart => exact ⟨0, by omega, rfl, rfl, rfl⟩
  case round =>
    obtain ⟨k, hk, rfl, rfl, rfl⟩ := hrel
    by_cases hlt : k < 4
    · have hck := HC2.out k hlt
      have hx0 : (((l.take 4).getD k 0).toNat : Int) < 256 := by have := ((l.take 4).getD k 0).toNat_lt; omega
      have ht : (l.take 4).take (k + 1) = (l.take 4).take k ++ [(l.take 4).getD k 0] := take_snoc _ _ _ (by rw [List.getD_eq_getElem?_getD, List.getElem?_eq_getElem (by omega)]; rfl)
      have hn := num32_snoc ((l.take 4).take k) ((l.take 4).getD k 0)
      rw [← ht] at hn
      have HN := Lib.hid hn; clear hn ht
      generalize (l.take 4).getD k 0 = x at *
      generalize num32 ((l.take 4).take k) = u at *
      go_wp2_with fail
      go_roundw
      case rel => exact ⟨k + 1, by omega, by go_num, trivial, by rw [HN.out]; rfl⟩
      case measure => (first | (simp [intOf]; done) | (simp [intOf]; omega))
    · obtain rfl : k = 4 := by omega
      have hm : num32 ((l.take 4).take 4) = num32 (l.take 4) := by rw [List.take_take]; rfl
      rw [hm]
      go_wp2_with fail
      go_ret
      exact ⟨rfl, rfl⟩
end Go.Proofs.YtefndmjimmbhnaaDoor
end

section
set_option linter.unusedVariables false
set_option linter.unusedSimpArgs false
set_option maxRecDepth 20000
namespace Go.Proofs.YtefndmjimmbhnaaDoor
open Go.RowKit

theorem xor_max (y : Int) (h0 : 0 ≤ y) (h1 : y < 4294967296) : Go.bits .xor .u32 IntKind.u32.max y = 4294967295 - y := by
  obtain ⟨a, rfl⟩ : ∃ a : Nat, y = a := ⟨y.toNat, by omega⟩
  have e : (BitVec.ofInt 32 4294967295 ^^^ BitVec.ofInt 32 (a : Int)).toNat = 4294967295 - a := by
    rw [show BitVec.ofInt 32 4294967295 = BitVec.allOnes 32 from by decide, BitVec.allOnes_xor, BitVec.toNat_not, BitVec.ofInt_natCast, BitVec.toNat_ofNat, Nat.mod_eq_of_lt (by omega)]
  show IntKind.wrap .u32 ((BitVec.ofInt 32 4294967295 ^^^ BitVec.ofInt 32 (a : Int)).toNat : Int) = _
  rw [e]
  simp only [IntKind.wrap, IntKind.signed, IntKind.bits, Bool.false_and]
  simp
  omega
theorem seal_any (v1 v2 : Value) (a b : List UInt8) (B : Nat) (w : World) (ha : SlB B w v1 a) (hb : SlB B w v2 b) (hl : a.length ≤ 1000000) (hm : b.length ≤ 1000000) :
    Calls Tryd.prog 57 #[v1, v2] w fun e w' => e = .returned (.int .u32 (sealL a b)) ∧ w = w' := by
  have r1 := crcL_range a 4294967295 (by decide) (by decide)
  have H1 := Lib.hid (crc_any 4294967295 v1 a B w ha (by decide) (by decide) hl)
  have H2 := Lib.hid (crc_any (crcL 4294967295 a) v2 b B w hb r1.1 r1.2 hm)
  have r2 := crcL_range b _ r1.1 r1.2
  unfold sealL
  generalize crcL 4294967295 a = x at *
  generalize crcL x b = y at *
  go_enter Tryd.func57, Tryd.ntmps57
  go_wp2_with fail
  refine H1.out.mono ?_
  rintro e w1 ⟨rfl, rfl⟩
  go_wp2_with fail
  refine H2.out.mono ?_
  rintro e w1 ⟨rfl, rfl⟩
  go_wp2_with fail
  go_ret
  refine ⟨ret_i ?_, rfl⟩
  exact xor_max _ r2.1 r2.2
end Go.Proofs.YtefndmjimmbhnaaDoor
end

section
set_option linter.unusedVariables false
set_option linter.unusedSimpArgs false
set_option maxRecDepth 20000
namespace Go.Proofs.YtefndmjimmbhnaaDoor
open Go.RowKit

def getV (o : Option (Nat × Nat)) : Ending := .returned (.tuple #[.int .u64 ((o.getD (0, 0)).1 : Int), .int .i64 ((o.getD (0, 0)).2 : Int)])
theorem getL_step (i u : Nat) (l : List UInt8) (h : i < l.length) : getL i u (l.drop i) = (if (i = 9 ∧ 1 < l[i].toNat) ∨ (0 < i ∧ l[i].toNat = 0) then none else if l[i].toNat < 128 then some (u + l[i].toNat * 128 ^ i, i + 1) else getL (i + 1) (u + l[i].toNat % 128 * 128 ^ i) (l.drop (i + 1))) := by
  rw [List.drop_eq_getElem_cons h, getL]
theorem and127 (y : Nat) (h : y < 256) : Go.bits .and .u8 (y : Int) 127 = ((y % 128 : Nat) : Int) := by
  have key : ∀ y : Fin 256, Go.bits .and .u8 ((y.val : Nat) : Int) 127 = ((y.val % 128 : Nat) : Int) := by decide +kernel
  exact key ⟨y, h⟩

theorem or_part (z x k : Nat) (hz : z < 128 ^ k) (h9 : k ≤ 9) (hx : x < 256) (h1 : k = 9 → x ≤ 1) :
    Go.bits .or .u64 (z : Int) (IntKind.u64.wrap (IntKind.u64.wrap (Go.bits .and .u8 (x : Int) 127) * 2 ^ (7 * k))) = ((z + x % 128 * 128 ^ k : Nat) : Int) := by
  have hw : ∀ n : Nat, n < 18446744073709551616 → IntKind.u64.wrap (n : Int) = n := fun n hn => by
    simp only [IntKind.wrap, IntKind.signed, IntKind.bits, Bool.false_and]
    simp; omega
  have hq : k = 9 → x % 128 ≤ 1 := fun e => by have := h1 e; omega
  have hm : x % 128 * 128 ^ k + 128 ^ k ≤ 18446744073709551616 := by
    by_cases e9 : k = 9
    · have a1 : x % 128 * 128 ^ k ≤ 1 * 128 ^ k := Nat.mul_le_mul_right _ (hq e9)
      have a2 : 128 ^ k ≤ 128 ^ 9 := Nat.pow_le_pow_right (by decide) (by omega)
      omega
    · have a1 : x % 128 * 128 ^ k ≤ 127 * 128 ^ k := Nat.mul_le_mul_right _ (by omega)
      have a2 : 128 ^ k ≤ 128 ^ 8 := Nat.pow_le_pow_right (by decide) (by omega)
      omega
  have hp : (2 : Nat) ^ (7 * k) = 128 ^ k := by rw [Nat.pow_mul]
  rw [and127 x hx, hw _ (by omega), show ((x % 128 : Nat) : Int) * 2 ^ (7 * k) = ((x % 128 * 2 ^ (7 * k) : Nat) : Int) by simp, hp, hw _ (by omega)]
  have e : (BitVec.ofInt 64 (z : Int) ||| BitVec.ofInt 64 ((x % 128 * 128 ^ k : Nat) : Int)).toNat = z + x % 128 * 128 ^ k := by
    rw [BitVec.toNat_or, BitVec.ofInt_natCast, BitVec.ofInt_natCast, BitVec.toNat_ofNat, BitVec.toNat_ofNat, Nat.mod_eq_of_lt (by omega), Nat.mod_eq_of_lt (by omega)]
    have := Nat.shiftLeft_add_eq_or_of_lt (b := z) (i := 7 * k) (by rw [hp]; exact hz) (x % 128)
    rw [Nat.shiftLeft_eq, hp] at this
    rw [Nat.or_comm, ← this, Nat.add_comm]
  show IntKind.u64.wrap ((BitVec.ofInt 64 (z : Int) ||| BitVec.ofInt 64 ((x % 128 * 128 ^ k : Nat) : Int)).toNat : Int) = _
  rw [e, hw _ (by omega)]
theorem ret_get {o : Option (Nat × Nat)} {u k : Int} {n m : Nat} (h : o = some (n, m)) (hu : u = n) (hk : k = m) : Ending.returned (.tuple #[.int .u64 u, .int .i64 k]) = getV o := by
  subst h hu hk; rfl
theorem ret_none {o : Option (Nat × Nat)} (h : o = none) : Ending.returned (.tuple #[.int .u64 0, .int .i64 0]) = getV o := by subst h; rfl

set_option maxHeartbeats 1000000 in
theorem Get_any (v : Value) (l : List UInt8) (B : Nat) (w : World) (hv : SlB B w v l) (hl : l.length ≤ 1000000) :
    Calls Tryd.prog 54 #[v] w fun e w' => e = getV (getL 0 0 l) ∧ w = w' := by
  obtain ⟨a, c, rfl, hc, hx⟩ := hv.ex
  have HX := Lib.hid hx; clear hx hv
  go_enter Tryd.func54, Tryd.ntmps54
  go_wp2_with fail
  go_loopw [4, 5, 6, 9] (fun u x y i wr => ∃ (k : Nat) (z : Nat), k ≤ l.length ∧ k ≤ 9 ∧ i = .int .i64 k ∧ wr = w ∧ u = .int .u64 (z : Int) ∧ z < 128 ^ k ∧ getL 0 0 l = getL k z (l.drop k)) (fun _ _ _ i _ => l.length - (intOf i).toNat)
  case atStart => exact ⟨0, 0, by omega, by omega, rfl, rfl, rfl, by decide, by simp⟩
  case round =>
    obtain ⟨k, z, hk, h9, rfl, rfl, rfl, hz, he⟩ := hrel
    by_cases hlt : k < l.length
    · obtain ⟨g, o, rfl, hg, hcell⟩ := HX.out (by omega)
      have hck := hcell k hlt
      rw [getL_step k z l hlt] at he
      have HE := Lib.hid he; clear he hcell
      have hxl := l[k].toNat_lt
      generalize l[k].toNat = x at *
      have done_ : ∀ y : Int, (k = 9 → x ≤ 1) → x < 128 → ¬ (0 < k ∧ x = 0) → y = (k : Int) + 1 → Ending.returned (.tuple #[.int .u64 (Go.bits .or .u64 (z : Int) (IntKind.u64.wrap (IntKind.u64.wrap (Go.bits .and .u8 (x : Int) 127) * 2 ^ (7 * k)))), .int .i64 y]) = getV (getL 0 0 l) := by
        intro y h1 h2 h3 hy
        rw [if_neg (by omega), if_pos h2] at HE
        refine ret_get HE.out ?_ (by omega)
        rw [or_part z x k hz h9 hxl h1, Nat.mod_eq_of_lt h2]
      have next_ : (k = 9 → x ≤ 1) → ¬ x < 128 → (k ≤ 8 ∧ Go.bits .or .u64 (z : Int) (IntKind.u64.wrap (IntKind.u64.wrap (Go.bits .and .u8 (x : Int) 127) * 2 ^ (7 * k))) = ((z + x % 128 * 128 ^ k : Nat) : Int) ∧ z + x % 128 * 128 ^ k < 128 ^ (k + 1) ∧ getL 0 0 l = getL (k + 1) (z + x % 128 * 128 ^ k) (l.drop (k + 1))) := by
        intro h1 h2
        rw [if_neg (by omega), if_neg h2] at HE
        refine ⟨by omega, or_part z x k hz h9 hxl h1, ?_, HE.out⟩
        have a1 : x % 128 * 128 ^ k ≤ 127 * 128 ^ k := Nat.mul_le_mul_right _ (by omega)
        have a2 : 128 ^ (k + 1) = 128 * 128 ^ k := by rw [Nat.pow_succ, Nat.mul_comm]
        omega
      have none_ : ((k = 9 ∧ 1 < x) ∨ (0 < k ∧ x = 0)) → getL 0 0 l = none := by
        intro h1
        rw [if_pos h1] at HE; exact HE.out
      have D := Lib.hid done_; have N := Lib.hid next_; have Z := Lib.hid none_
      clear done_ next_ none_ HE
      by_cases hk9 : k = 9
      · have q1 : ((k : Int) == 9) = true := by rw [beq_iff_eq]; omega
        have HK := Lib.hid hk9; clear hk9
        have q0 : 0 < k := by have := HK.out; omega
        by_cases h1 : 1 < x
        · go_wp2_with fail
          go_ret2
          exact ⟨ret_none (Z.out (.inl ⟨HK.out, h1⟩)), rfl⟩
        · by_cases h0 : x = 0
          · have q2 : ((x : Int) == 0) = true := by rw [beq_iff_eq]; omega
            have HX0 := Lib.hid h0; clear h0
            go_wp2_with fail
            go_ret2
            exact ⟨ret_none (Z.out (.inr ⟨by omega, HX0.out⟩)), rfl⟩
          · have q2 : ((x : Int) == 0) = false := by rw [beq_eq_false_iff_ne]; omega
            go_wp2_with fail
            go_ret2
            exact ⟨D.out _ (by omega) (by omega) (by omega) rfl, rfl⟩
      · have q1 : ((k : Int) == 9) = false := by rw [beq_eq_false_iff_ne]; omega
        by_cases hk0 : k = 0
        · have q3 : ¬ 0 < k := by omega
          have HK0 := Lib.hid hk0; clear hk0
          by_cases hs : x < 128
          · go_wp2_with fail
            go_ret2
            exact ⟨D.out _ (by omega) (by omega) (by omega) rfl, rfl⟩
          · go_wp2_with fail
            go_roundw
            case rel =>
              obtain ⟨n1, n2, n3, n4⟩ := N.out (by omega) hs
              exact ⟨k + 1, _, by omega, by omega, by go_num, trivial, by rw [n2], n3, n4⟩
            case measure => (first | (simp [intOf]; done) | (simp [intOf]; omega))
        · by_cases h0 : x = 0
          · have q2 : ((x : Int) == 0) = true := by rw [beq_iff_eq]; omega
            have HX0 := Lib.hid h0; clear h0
            go_wp2_with fail
            go_ret2
            exact ⟨ret_none (Z.out (.inr ⟨by omega, HX0.out⟩)), rfl⟩
          · have q2 : ((x : Int) == 0) = false := by rw [beq_eq_false_iff_ne]; omega
            by_cases hs : x < 128
            · go_wp2_with fail
              go_ret2
              exact ⟨D.out _ (by omega) (by omega) (by omega) rfl, rfl⟩
            · go_wp2_with fail
              go_roundw
              case rel =>
                obtain ⟨n1, n2, n3, n4⟩ := N.out (by omega) hs
                exact ⟨k + 1, _, by omega, by omega, by go_num, trivial, by rw [n2], n3, n4⟩
              case measure => (first | (simp [intOf]; done) | (simp [intOf]; omega))
    · have e : l.drop k = [] := List.drop_of_length_le (by omega)
      rw [e] at he
      have HE := Lib.hid he; clear he
      go_wp2_with fail
      go_ret2
      exact ⟨ret_none (HE.out.trans rfl), rfl⟩
end Go.Proofs.YtefndmjimmbhnaaDoor
end
