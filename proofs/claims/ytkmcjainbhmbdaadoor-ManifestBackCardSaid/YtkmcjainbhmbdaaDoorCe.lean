/- Contracts of the codec's fourth and seal. Conditions: four bytes at least; at most a million. -/
import Derived.Test.YtkmcjainbhmbdaaDoorCd
set_option linter.unusedVariables false
set_option linter.unusedSimpArgs false
set_option maxRecDepth 20000
namespace Go.Proofs.YtkmcjainbhmbdaaDoor
open Go.RowKit

theorem SlB.head4_run {a : Option Addr} {n c : Nat} (hi : 4 ≤ n) (hn : n ≤ c) (W : World) :
    (Instr.slice 25 (.slice a n c) none (some (.int .i64 4)) none).run Tryd.prog W = .ok (.slice (a.map (·.add 0)) 4 c) W := by
  rw [run_slice_h W _ _ _ _ undByte .i64 _ (by omega) (by omega), sizeByte]
  have e : (4 : Int).toNat = 4 := rfl
  have hne : ¬ c = 0 := by omega
  simp only [Result.andThen, sliced, e, Nat.mul_one, if_neg hne, Nat.sub_zero]
set_option maxHeartbeats 1000000 in
theorem fourth_any (v : Value) (l : List UInt8) (B : Nat) (w : World) (hv : SlB B w v l) (h4 : 4 ≤ l.length) (hl : l.length ≤ 1000000) :
    Calls Tryd.prog 98 #[v] w fun e w' => e = .returned (.int .u32 (num32 (l.take 4))) ∧ w = w' := by
  obtain ⟨a, c, rfl, hc, hx⟩ := hv.ex
  obtain ⟨gb, o, rfl, hgb, hcell⟩ := hx (by omega)
  have hr := SlB.head4_run (a := some ⟨gb, o, none⟩) (n := l.length) (c := c) h4 hc
  rw [show (some (⟨gb, o, none⟩ : Addr)).map (·.add 0) = some ⟨gb, o, none⟩ from rfl] at hr
  have hc2 : ∀ k, (h : k < 4) → w.cell? ⟨gb, o + k, none⟩ = some (.int .u8 ((l.take 4).getD k 0).toNat) := fun k hk => by
    rw [hcell k (by omega)]
    simp [List.getD_eq_getElem?_getD, List.getElem?_take, hk, List.getElem?_eq_getElem (show k < l.length by omega)]
  have hll : (l.take 4).length = 4 := by rw [List.length_take]; omega
  clear hcell hx hv
  have HC2 := Lib.hid hc2; clear hc2
  go_enter Tryd.func98, Tryd.ntmps98
  go_wp2_with fail
  go_loopw [3, 5, 9] (fun u y i wr => ∃ k : Nat, k ≤ 4 ∧ i = .int .i64 k ∧ wr = w ∧ u = .int .u32 (num32 ((l.take 4).take k))) (fun _ _ i _ => 4 - (intOf i).toNat)
  case atStart => exact ⟨0, by omega, rfl, rfl, rfl⟩
  case round =>
    obtain ⟨k, hk, rfl, rfl, rfl⟩ := hrel
    by_cases hlt : k < 4
    · have hck := HC2.out k hlt
      have hx0 : (((l.take 4).getD k 0).toNat : Int) < 256 := by have := ((l.take 4).getD k 0).toNat_lt; omega
      have ht : (l.take 4).take (k + 1) = (l.take 4).take k ++ [(l.take 4).getD k 0] := take_snoc _ _ _ (by rw [List.getD_eq_getElem?_getD, List.getElem?_eq_getElem (by omega)]; rfl)
      have hn := num32_snoc ((l.take 4).take k) ((l.take 4).getD k 0)
      rw [← ht] at hn
      have HN := Lib.hid hn; clear hn ht
      generalize (l.take 4).getD k 0 = x at *
      generalize num32 ((l.take 4).take k) = u at *
      go_wp2_with fail
      go_roundw
      case rel => exact ⟨k + 1, by omega, by go_num, trivial, by rw [HN.out]; rfl⟩
      case measure => (first | (simp [intOf]; done) | (simp [intOf]; omega))
    · obtain rfl : k = 4 := by omega
      have hm : num32 ((l.take 4).take 4) = num32 (l.take 4) := by rw [List.take_take]; rfl
      rw [hm]
      go_wp2_with fail
      go_ret
      exact ⟨rfl, rfl⟩
end Go.Proofs.YtkmcjainbhmbdaaDoor
