/- Contract of the codec's Put. Conditions: the number is of uint64; the bytes leave room. -/
import Derived.Test.YtkmcjainbhmbdaaDoorCa
set_option linter.unusedVariables false
set_option linter.unusedSimpArgs false
set_option maxRecDepth 20000
namespace Go.Proofs.YtkmcjainbhmbdaaDoor
open Go.RowKit

set_option maxHeartbeats 1000000 in
theorem Put_any (base : Nat) (v : Value) (l : List UInt8) (u : Nat) (w : World) (HO : OwnB w base v l) (hu : u < 18446744073709551616) (hl : l.length ≤ 100000000000) :
    Calls Tryd.prog 52 #[v, .int .u64 (u : Int)] w (RetB w.heap.size w (l ++ putL u)) := by
  have HP := Lib.hid (fun W v1 (h : OwnB W w.heap.size v1 l) (hz : w.heap.size ≤ W.heap.size) => put_any w.heap.size v1 l u W h hz hu hl)
  have HO0 := Lib.hid HO
  rcases HO.2 with ⟨rfl, h0⟩ | ⟨g, cap, cur, rfl, hg, hrest⟩
  · clear HO
    obtain rfl : l = [] := List.eq_nil_of_length_eq_zero h0
    go_enter Tryd.func52, Tryd.ntmps52
    go_wp2_with fail
    refine (HP.out _ _ (OwnB.nil _ _) (Nat.le_refl _)).mono ?_
    rintro e w1 ⟨v1, rfl, hO1, hb1⟩
    go_wp2_with fail
    go_ret
    exact ⟨_, rfl, hO1, hb1⟩
  · have hcells : ∀ j x, (bcells l)[j]? = some x → w.cell? ((⟨g, 0, none⟩ : Addr).add j) = some x := World.ownsRow.cells HO rfl
    have HC := Lib.hid hcells; clear hcells HO hrest
    have hl2 : ([] : List UInt8).length + l.length ≤ 140737488355328 := by simp; omega
    go_enter Tryd.func52, Tryd.ntmps52
    go_wp2_with (at_builtin; go_must (refine ap_bytes rfl (.const (.slice none 0 0)) (.tmp 5) rfl w.heap.size (.slice none 0 0) [] l ⟨g, 0, none⟩ l.length cap rfl rfl rfl HC.out (OwnB.nil _ _) (Below.refl _ _) (Nat.le_refl _) hl2 ?_); intro v1 w1 hO1 hB1 hz1 _)
    rw [List.nil_append] at hO1
    refine (HP.out _ _ hO1 hz1).mono ?_
    rintro e w2 ⟨v2, rfl, hO2, hb2⟩
    have hB2 := hB1.trans hb2
    clear hO1 hB1 hb2
    go_wp2_with fail
    go_ret
    exact ⟨_, rfl, hO2, hB2⟩
end Go.Proofs.YtkmcjainbhmbdaaDoor
