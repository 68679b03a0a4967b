/- Contract of the codec's four. Conditions: the number is of uint32; the bytes leave room. -/
import Derived.Test.YtkmcjainbhmbdaaDoorCb
set_option linter.unusedVariables false
set_option linter.unusedSimpArgs false
set_option maxRecDepth 20000
namespace Go.Proofs.YtkmcjainbhmbdaaDoor
open Go.RowKit

theorem fourL_cells (n : Int) (h0 : 0 ≤ n) (h1 : n < 4294967296) : [Value.int .u8 (n / 16777216), .int .u8 (n / 65536 % 256), .int .u8 (n / 256 % 256), .int .u8 (n % 256)] = bcells (fourL n) := by
  have h : ∀ m : Int, ((byteOf (m % 256)).toNat : Int) = m % 256 := fun m => byteOf_val (Int.emod_nonneg _ (by decide)) (Int.emod_lt_of_pos _ (by decide))
  have e : n / 16777216 = n / 16777216 % 256 := by omega
  have h' := h (n / 16777216)
  simp only [bcells, fourL, List.map_cons, List.map_nil, h (n / 65536), h (n / 256), h n, h']
  rw [← e]

set_option maxHeartbeats 1000000 in
theorem four_any (base : Nat) (v : Value) (l : List UInt8) (n : Int) (w : World) (HO : OwnB w base v l) (hbase : base ≤ w.heap.size) (h0 : 0 ≤ n) (h1 : n < 4294967296) (hl : l.length ≤ 100000000000) :
    Calls Tryd.prog 94 #[v, .int .u32 n] w (RetB base w (l ++ fourL n)) := by
  have HO0 := Lib.hid HO; clear HO
  have HC := Lib.hid (fourL_cells n h0 h1)
  have hl2 : l.length + (fourL n).length ≤ 140737488355328 := by simp [fourL]; omega
  go_enter Tryd.func94, Tryd.ntmps94
  go_wp2_with (at_builtin; go_must (refine ap_lit rfl (.tmp 5) (.tmp 17) rfl base v l (fourL n) _ 4 4 rfl rfl rfl HC.out HO0.out (Below.refl _ _) hbase hl2 ?_); intro v1 w1 hO1 hB1 hz1)
  go_ret
  exact ⟨_, rfl, hO1, hB1⟩
end Go.Proofs.YtkmcjainbhmbdaaDoor
