/- Contract of key's reader's row. Condition: at most a million bytes. -/
import Derived.Test.YtkmcjainbhmbdaaDoorRx
import Derived.Test.YtkmcjainbhmbdaaDoorKc
set_option linter.unusedVariables false
set_option linter.unusedSimpArgs false
set_option maxRecDepth 20000
namespace Go.Proofs.YtkmcjainbhmbdaaDoor
open Go.RowKit

theorem SlB.head_run {a : Option Addr} {n c : Nat} (hi : 8 ≤ n) (hn : n ≤ c) (W : World) :
    (Instr.slice 25 (.slice a n c) none (some (.int .i64 8)) none).run Tryd.prog W = .ok (.slice (a.map (·.add 0)) 8 c) W := by
  rw [run_slice_h W _ _ _ _ undByte .i64 _ (by omega) (by omega), sizeByte]
  have e : (8 : Int).toNat = 8 := rfl
  have hne : ¬ c = 0 := by omega
  simp only [Result.andThen, sliced, e, Nat.mul_one, if_neg hne, Nat.sub_zero]

/-- one more byte of a number, and a number's row -/
def stepU (u : Int) (x : UInt8) : Int := Go.bits .or .u64 (IntKind.u64.wrap (u * 2 ^ 8)) (x.toNat : Int)
def numU (l : List UInt8) : Int := l.foldl stepU 0
def rowOf (l : List UInt8) : Int := wrap64 (Go.bits .xor .u64 (numU l) 9223372036854775808)
theorem numU_snoc (l : List UInt8) (x : UInt8) : numU (l ++ [x]) = stepU (numU l) x := by simp [numU]

/-- What the reader's row leaves. -/
def RowPost (W0 w : World) (g : Nat) (v : Value) (bad : Bool) (l : List UInt8) (e : Ending) (w' : World) : Prop :=
  Below W0.heap.size W0 w' ∧ w.grownBy w' (some g) ∧
    if bad = true ∨ l.length < 8 then e = .returned (.int .i64 0) ∧ St w' g v true
    else ∃ v', e = .returned (.int .i64 (rowOf (l.take 8))) ∧ SlB W0.heap.size W0 v' (l.drop 8) ∧ St w' g v' false
theorem RowPost.good {W0 w w' : World} {g : Nat} {v v' : Value} {bad : Bool} {l : List UInt8} {r : Int} (h : bad = false) (h8 : 8 ≤ l.length) (hr : r = rowOf (l.take 8)) (hb : Below W0.heap.size W0 w') (hg : w.grownBy w' (some g)) (hv : SlB W0.heap.size W0 v' (l.drop 8)) (hs : St w' g v' false) :
    RowPost W0 w g v bad l (.returned (.int .i64 r)) w' := by unfold RowPost; rw [if_neg (by simp [h]; omega)]; exact ⟨hb, hg, v', by rw [hr], hv, hs⟩
theorem RowPost.wrong {W0 w w' : World} {g : Nat} {v : Value} {bad : Bool} {l : List UInt8} (h : bad = true ∨ l.length < 8) (hb : Below W0.heap.size W0 w') (hg : w.grownBy w' (some g)) (hs : St w' g v true) :
    RowPost W0 w g v bad l (.returned (.int .i64 0)) w' := by unfold RowPost; rw [if_pos h]; exact ⟨hb, hg, rfl, hs⟩

set_option maxHeartbeats 4000000 in
theorem krow_any (W0 : World) (g : Nat) (v : Value) (bad : Bool) (l : List UInt8) (w : World) (hW : Below W0.heap.size W0 w) (hg : W0.heap.size ≤ g) (hv : SlB W0.heap.size W0 v l) (hs : St w g v bad) (hl : l.length ≤ 1000000) :
    Calls Tryd.prog 89 #[.pointer (some ⟨g, 0, none⟩)] w (RowPost W0 w g v bad l) := by
  have HV := Lib.hid hv
  have HS := Lib.hid hs
  have HW := Lib.hid hW
  have HG := Lib.hid hg
  obtain ⟨s0, s1, f0, f1⟩ := hs
  obtain ⟨a, c, rfl, hc, hx⟩ := hv.ex
  have HX := Lib.hid hx; clear hx hv hW hg
  go_enter Tryd.func89, Tryd.ntmps89
  cases bad with
  | true =>
    go_wp2_with fail
    go_ret
    exact RowPost.wrong (.inl rfl) (HW.out.setCell (p := ⟨g, 1, none⟩) HG.out _) (Lib.grownBy_setB (World.grownBy.refl _ _) 1 _) (HS.out.put1 true)
  | false =>
    by_cases h8 : l.length < 8
    · go_wp2_with fail
      go_ret
      exact RowPost.wrong (.inr h8) (HW.out.setCell (p := ⟨g, 1, none⟩) HG.out _) (Lib.grownBy_setB (World.grownBy.refl _ _) 1 _) (HS.out.put1 true)
    · obtain ⟨gb, o, rfl, hgb, hcell⟩ := HX.out (by omega)
      have cut := HV.out.cut 8 (by omega)
      have cr := HV.out.cut_run 8 (by omega)
      obtain ⟨a', n', c', hv'⟩ : ∃ a' n' c', cutV (.slice (some ⟨gb, o, none⟩) l.length c) 8 = .slice a' n' c' := ⟨_, _, _, rfl⟩
      rw [hv'] at cut cr
      rw [show ((8 : Nat) : Int) = 8 by rfl] at cr
      have CUT := Lib.hid cut; clear cut hv'
      have hr := SlB.head_run (a := some ⟨gb, o, none⟩) (n := l.length) (c := c) (by omega) hc
      rw [show (some (⟨gb, o, none⟩ : Addr)).map (·.add 0) = some ⟨gb, o, none⟩ from rfl] at hr
      have hc2 : ∀ k, (h : k < 8) → w.cell? ⟨gb, o + k, none⟩ = some (.int .u8 ((l.take 8).getD k 0).toNat) := fun k hk => by
        rw [HW.out.cell (p := ⟨gb, o + k, none⟩) hgb, hcell k (by omega)]
        simp [List.getD_eq_getElem?_getD, List.getElem?_take, hk, List.getElem?_eq_getElem (show k < l.length by omega)]
      have hll : (l.take 8).length = 8 := by rw [List.length_take]; omega
      clear hcell
      have HC2 := Lib.hid hc2; clear hc2
      go_wp2_with fail
      go_loopw [3, 27] (fun u i wr => ∃ k : Nat, k ≤ 8 ∧ i = .int .i64 k ∧ wr = w ∧ u = .int .u64 (numU ((l.take 8).take k))) (fun _ i _ => 8 - (intOf i).toNat)
      case atStart => exact ⟨0, by omega, rfl, rfl, rfl⟩
      case round =>
        obtain ⟨k, hk, rfl, rfl, rfl⟩ := hrel
        by_cases hlt : k < 8
        · have hck := HC2.out k hlt
          have hx0 : (((l.take 8).getD k 0).toNat : Int) < 256 := by have := ((l.take 8).getD k 0).toNat_lt; omega
          have ht : (l.take 8).take (k + 1) = (l.take 8).take k ++ [(l.take 8).getD k 0] := take_snoc _ _ _ (by rw [List.getD_eq_getElem?_getD, List.getElem?_eq_getElem (by omega)]; rfl)
          have hn := numU_snoc ((l.take 8).take k) ((l.take 8).getD k 0)
          rw [← ht] at hn
          have HN := Lib.hid hn; clear hn ht
          generalize (l.take 8).getD k 0 = x at *
          generalize numU ((l.take 8).take k) = u at *
          go_wp2_with fail
          go_roundw
          case rel => exact ⟨k + 1, by omega, by go_num, trivial, by rw [HN.out]; rfl⟩
          case measure => (first | (simp [intOf]; done) | (simp [intOf]; omega))
        · obtain rfl : k = 8 := by omega
          have hm : numU ((l.take 8).take 8) = numU (l.take 8) := by rw [List.take_take]; rfl
          have HM := Lib.hid hm; clear hm
          go_wp2_with fail
          go_ret
          exact RowPost.good rfl (by omega) (by rw [HM.out]; rfl) (HW.out.setCell (p := ⟨g, 0, none⟩) HG.out _) (Lib.grownBy_setB (World.grownBy.refl _ _) 0 _) CUT.out (HS.out.put0 _)
end Go.Proofs.YtkmcjainbhmbdaaDoor
