/- Contract of the reference's taken: a text within bytes. Condition: at most a million bytes. -/
import Derived.Test.YtkmcjainbhmbdaaDoorSl
set_option linter.unusedVariables false
set_option linter.unusedSimpArgs false
set_option maxRecDepth 20000
namespace Go.Proofs.YtkmcjainbhmbdaaDoor
open Go.RowKit

theorem mk_snoc (a : List UInt8) (x : UInt8) : (⟨a.toArray⟩ : ByteArray) ++ ⟨#[x]⟩ = ⟨(a ++ [x]).toArray⟩ := by apply ByteArray.ext; simp

/-- What taken hands back. -/
def TakenPost (B : Nat) (w : World) (l : List UInt8) (e : Ending) (w' : World) : Prop :=
  Below w.heap.size w w' ∧ match takeT [] l with
    | some (t, r) => ∃ v', e = .returned (.tuple #[sv t, v', .bool true]) ∧ SlB B w v' r
    | none => e = .returned (.tuple #[.string ⟨#[]⟩, .slice none 0 0, .bool false])
theorem TakenPost.some {B : Nat} {w w' : World} {l t r : List UInt8} {v' : Value} (h : takeT [] l = some (t, r)) (hb : Below w.heap.size w w') (hv : SlB B w v' r) : TakenPost B w l (.returned (.tuple #[sv t, v', .bool true])) w' := by
  unfold TakenPost; rw [h]; exact ⟨hb, v', rfl, hv⟩
theorem TakenPost.none {B : Nat} {w w' : World} {l : List UInt8} (h : takeT [] l = Option.none) (hb : Below w.heap.size w w') : TakenPost B w l (.returned (.tuple #[.string ⟨#[]⟩, .slice Option.none 0 0, .bool false])) w' := by
  unfold TakenPost; rw [h]; exact ⟨hb, rfl⟩

set_option maxHeartbeats 2000000 in
theorem taken_any (B : Nat) (v : Value) (l : List UInt8) (w : World) (hv : SlB B w v l) (hl : l.length ≤ 1000000) :
    Calls Tryd.prog 90 #[v] w (TakenPost B w l) := by
  have HV := Lib.hid hv
  obtain ⟨a, c, rfl, hc, hx⟩ := hv.ex
  have HX := Lib.hid hx; clear hx hv
  go_enter Tryd.func90, Tryd.ntmps90
  go_wp2
  go_loopw [5, 6] (fun s i wr => ∃ (k : Nat) (acc : List UInt8), k ≤ l.length ∧ acc.length ≤ k ∧ s = sv acc ∧ i = .int .i64 k ∧ wr = w ∧ takeT acc (l.drop k) = takeT [] l) (fun _ i _ => l.length - (intOf i).toNat)
  case atStart => exact ⟨0, [], by omega, by simp, rfl, rfl, rfl, by simp⟩
  case round =>
    obtain ⟨k, acc, hk, ha, rfl, rfl, rfl, ht⟩ := hrel
    have HT := Lib.hid ht; clear ht
    by_cases hlt : k + 1 < l.length
    · obtain ⟨g, o, rfl, hg, hcell⟩ := HX.out (by omega)
      have c0 := hcell k (by omega)
      have c1 := hcell (k + 1) hlt
      have hd := drop_two l k hlt
      have HC := Lib.hid hcell; clear hcell
      have HD := Lib.hid hd; clear hd
      have hx0 : (l[k].toNat : Int) < 256 := by have := l[k].toNat_lt; omega
      have hx1 : (l[k + 1].toNat : Int) < 256 := by have := l[k + 1].toNat_lt; omega
      have C0 := Lib.hid c0
      by_cases h0 : l[k] = 0
      · rw [h0] at c0
        have n0 : (((0 : UInt8).toNat : Int) != 0) = false := rfl
        by_cases h1 : l[k + 1] = 0
        · have cut := HV.out.cut (k + 2) (by omega)
          have cr := HV.out.cut_run (k + 2) (by omega)
          have CUT := Lib.hid cut; clear cut
          generalize cutV (.slice (some ⟨g, o, none⟩) l.length c) (k + 2) = v' at *
          rw [show ((k + 2 : Nat) : Int) = (k : Int) + 2 by omega] at cr
          have ht := HT.out
          rw [HD.out, h0, h1, takeT_end] at ht
          have HT2 := Lib.hid ht.symm; clear ht
          rw [h1] at c1
          have n1 : (((0 : UInt8).toNat : Int) == 0) = true := rfl
          go_wp2_with fail
          go_region
          go_wp2_with fail
          go_ret3
          exact TakenPost.some HT2.out (below_drewN (Below.refl _ _) 1) CUT.out
        · have n1 : ((l[k + 1].toNat : Int) == 0) = false := by
            rw [beq_eq_false_iff_ne]; intro h; apply h1; exact UInt8.toNat_inj.1 (by simpa using h)
          by_cases h2 : l[k + 1] = 255
          · have ht := HT.out
            rw [HD.out, h0, h2, takeT_nought] at ht
            have HT2 := Lib.hid ht; clear ht n1 hx1
            rw [h2] at c1
            have n1 : (((255 : UInt8).toNat : Int) == 0) = false := rfl
            have n2 : (((255 : UInt8).toNat : Int) != 255) = false := rfl
            have m1 : ¬ 9223372036854775807 < acc.length + 1 := by omega
            go_wp2_with fail
            go_roundw
            case rel => exact ⟨k + 2, acc ++ [0], by omega, by simp; omega, congrArg Value.string (mk_snoc acc _), by go_num, trivial, HT2.out⟩
            case measure => (first | (simp [intOf]; done) | (simp [intOf]; omega))
          · have n2 : ((l[k + 1].toNat : Int) != 255) = true := by
              rw [bne_iff_ne]; intro h; apply h2; exact UInt8.toNat_inj.1 (by rw [show (255 : UInt8).toNat = 255 from rfl]; omega)
            have ht := HT.out
            rw [HD.out, h0, takeT_bad _ _ _ h1 h2] at ht
            have HT2 := Lib.hid ht.symm; clear ht
            go_wp2_with fail
            go_ret3
            exact TakenPost.none HT2.out (Below.refl _ _)
      · have n0 : ((l[k].toNat : Int) != 0) = true := by
          rw [bne_iff_ne]; intro h; apply h0; exact UInt8.toNat_inj.1 (by simpa using h)
        have ht := HT.out
        rw [HD.out, takeT_byte _ _ _ _ h0, ← List.drop_eq_getElem_cons (show k + 1 < l.length by omega)] at ht
        have HT2 := Lib.hid ht; clear ht
        have r1 := SlB.one_run (g := g) (o := o) (n := l.length) (c := c) (i := k) (by omega)
        have r2 : (convert 25 9 (.slice (some ⟨g, o + k, none⟩) 1 (c - k))).run Tryd.prog wr = .ok (sv [l[k]]) wr := conv_at wr g (o + k) (c - k) 1 [l[k]] rfl (fun j u hj => by
          cases j with
          | zero => rw [bcells_get] at hj; simp at hj; rw [← hj, Nat.add_zero]; exact C0.out
          | succ j => rw [bcells_get] at hj; simp at hj)
        have m1 : ¬ 9223372036854775807 < acc.length + 1 := by omega
        go_wp2_with fail
        go_roundw
        case rel => exact ⟨k + 1, acc ++ [l[k]], by omega, by simp; omega, congrArg Value.string (mk_snoc acc _), by go_num, trivial, HT2.out⟩
        case measure => (first | (simp [intOf]; done) | (simp [intOf]; omega))
    · have ht := HT.out
      rw [takeT_short _ _ (by rw [List.length_drop]; omega)] at ht
      have HT2 := Lib.hid ht.symm; clear ht
      go_wp2_with fail
      go_ret3
      exact TakenPost.none HT2.out (Below.refl _ _)
end Go.Proofs.YtkmcjainbhmbdaaDoor
