/- Contracts of key's reader: its text and its row. Condition: at most a million bytes. -/
import Derived.Test.YtkmcjainbhmbdaaDoorRt
import Derived.Lib.BufferOwn
import Derived.Deep.AppendLies
set_option linter.unusedVariables false
set_option linter.unusedSimpArgs false
set_option maxRecDepth 20000
namespace Go.Proofs.YtkmcjainbhmbdaaDoor
open Go.RowKit

/-- A reader's two cells. -/
structure St (w : World) (g : Nat) (v : Value) (bad : Bool) : Prop where
  c0 : w.cell? ⟨g, 0, none⟩ = some v
  c1 : w.cell? ⟨g, 1, none⟩ = some (.bool bad)
  f0 : w.frozen? ⟨g, 0, none⟩ = false
  f1 : w.frozen? ⟨g, 1, none⟩ = false
theorem St.below {w w1 : World} {g : Nat} {v : Value} {bad : Bool} (h : St w g v bad) (hb : Below w.heap.size w w1) : St w1 g v bad := by
  have hg := World.block_lt_of_cell? w _ h.c0
  exact ⟨cell_keep hb h.c0, cell_keep hb h.c1, (hb.frozen (p := ⟨g, 0, none⟩) hg).trans h.f0, (hb.frozen (p := ⟨g, 1, none⟩) hg).trans h.f1⟩
theorem St.put0 {w : World} {g : Nat} {v : Value} {bad : Bool} (h : St w g v bad) (v' : Value) : St (w.setCell ⟨g, 0, none⟩ v') g v' bad where
  c0 := World.cell?_setCell_same' w ⟨g, 0, none⟩ v' (by rw [h.c0]; rfl)
  c1 := (World.cell?_setCell_other (w := w) (a := ⟨g, 0, none⟩) (b := ⟨g, 1, none⟩) (v := v') (by simp)).trans h.c1
  f0 := by simp [h.f0]
  f1 := by simp [h.f1]
theorem St.put1 {w : World} {g : Nat} {v : Value} {bad : Bool} (h : St w g v bad) (b : Bool) : St (w.setCell ⟨g, 1, none⟩ (.bool b)) g v b where
  c0 := (World.cell?_setCell_other (w := w) (a := ⟨g, 1, none⟩) (b := ⟨g, 0, none⟩) (v := .bool b) (by simp)).trans h.c0
  c1 := World.cell?_setCell_same' w ⟨g, 1, none⟩ (.bool b) (by rw [h.c1]; rfl)
  f0 := by simp [h.f0]
  f1 := by simp [h.f1]
theorem grown_of_below {w w1 : World} {row : Option Nat} (h : Below w.heap.size w w1) : w.grownBy w1 row := ⟨h.os, h.tape, h.output, h.size, fun k hk _ => h.block k hk⟩

/-- What the reader's text leaves. -/
def TextPost (W0 w : World) (g : Nat) (v : Value) (bad : Bool) (l : List UInt8) (e : Ending) (w' : World) : Prop :=
  Below W0.heap.size W0 w' ∧ w.grownBy w' (some g) ∧ match takeT [] l with
    | some (t, r) => ∃ v', e = .returned (sv t) ∧ SlB W0.heap.size W0 v' r ∧ St w' g v' bad
    | none => e = .returned (.string ⟨#[]⟩) ∧ St w' g v true
theorem TextPost.some {W0 w w' : World} {g : Nat} {v : Value} {bad : Bool} {l t r : List UInt8} {v' : Value} (h : takeT [] l = some (t, r)) (hb : Below W0.heap.size W0 w') (hg : w.grownBy w' (Option.some g)) (hv : SlB W0.heap.size W0 v' r) (hs : St w' g v' bad) :
    TextPost W0 w g v bad l (.returned (sv t)) w' := by unfold TextPost; rw [h]; exact ⟨hb, hg, v', rfl, hv, hs⟩
theorem TextPost.none {W0 w w' : World} {g : Nat} {v : Value} {bad : Bool} {l : List UInt8} (h : takeT [] l = Option.none) (hb : Below W0.heap.size W0 w') (hg : w.grownBy w' (Option.some g)) (hs : St w' g v true) :
    TextPost W0 w g v bad l (.returned (.string ⟨#[]⟩)) w' := by unfold TextPost; rw [h]; exact ⟨hb, hg, rfl, hs⟩

set_option maxHeartbeats 4000000 in
theorem ktext_any (W0 : World) (g : Nat) (v : Value) (bad : Bool) (l : List UInt8) (w : World) (hW : Below W0.heap.size W0 w) (hg : W0.heap.size ≤ g) (hv : SlB W0.heap.size W0 v l) (hs : St w g v bad) (hl : l.length ≤ 1000000) :
    Calls Tryd.prog 88 #[.pointer (some ⟨g, 0, none⟩)] w (TextPost W0 w g v bad l) := by
  have HV := Lib.hid hv
  have HS := Lib.hid hs
  have HW := Lib.hid hW
  have HZ := Lib.hid hW.size
  have hgs := World.block_lt_of_cell? w _ hs.c0
  simp only [] at hgs
  obtain ⟨a, c, rfl, hc, hx⟩ := hv.ex
  have HX := Lib.hid hx; clear hx hv hs hW
  have HG := Lib.hid hg; clear hg
  have HGS := Lib.hid hgs; clear hgs
  go_enter Tryd.func88, Tryd.ntmps88
  go_wp2
  go_loopw [3, 4] (fun s i wr => ∃ (k : Nat) (acc : List UInt8), k ≤ l.length ∧ acc.length ≤ k ∧ i = .int .i64 k ∧ Below w.heap.size w wr ∧ OwnB wr w.heap.size s acc ∧ takeT acc (l.drop k) = takeT [] l) (fun _ i _ => l.length - (intOf i).toNat)
  case atStart => exact ⟨0, [], by omega, by simp, rfl, Below.refl _ _, OwnB.nil _ _, by simp⟩
  case round =>
    obtain ⟨k, acc, hk, ha, rfl, hB, hO, ht⟩ := hrel
    have HT := Lib.hid ht; clear ht
    have SW := HS.out.below hB
    have s0 := SW.c0
    have s1 := SW.c1
    have f0 := SW.f0
    have f1 := SW.f1
    have hz := hB.size
    have HBz := Lib.hid hB; clear hB
    have HO := Lib.hid hO; clear hO
    by_cases hlt : k + 1 < l.length
    · obtain ⟨gb, o, rfl, hgb, hcell⟩ := HX.out (by omega)
      have hBW := HW.out.trans (HBz.out.mono HZ.out)
      have c0 := (hBW.cell (p := ⟨gb, o + k, none⟩) hgb).trans (hcell k (by omega))
      have c1 := (hBW.cell (p := ⟨gb, o + (k + 1), none⟩) hgb).trans (hcell (k + 1) hlt)
      clear hBW
      have hd := drop_two l k hlt
      clear hcell
      have HD := Lib.hid hd; clear hd
      have hx0 : (l[k].toNat : Int) < 256 := by have := l[k].toNat_lt; omega
      have hx1 : (l[k + 1].toNat : Int) < 256 := by have := l[k + 1].toNat_lt; omega
      have C0 := Lib.hid c0
      by_cases h0 : l[k] = 0
      · rw [h0] at c0
        have n0 : (((0 : UInt8).toNat : Int) != 0) = false := rfl
        by_cases h1 : l[k + 1] = 0
        · have cut := HV.out.cut (k + 2) (by omega)
          have cr := HV.out.cut_run (k + 2) (by omega)
          obtain ⟨a', n', c', hv'⟩ : ∃ a' n' c', cutV (.slice (some ⟨gb, o, none⟩) l.length c) (k + 2) = .slice a' n' c' := ⟨_, _, _, rfl⟩
          rw [hv'] at cut cr
          have CUT := Lib.hid cut; clear cut hv'
          rw [show ((k + 2 : Nat) : Int) = (k : Int) + 2 by omega] at cr
          have ht := HT.out
          rw [HD.out, h0, h1, takeT_end] at ht
          have HT2 := Lib.hid ht.symm; clear ht
          rw [h1] at c1
          have n1 : (((0 : UInt8).toNat : Int) == 0) = true := rfl
          have hO2 : OwnB (wr.setCell ⟨g, 0, none⟩ (.slice a' n' c')) w.heap.size u3 acc := World.ownsRow.kept HO.out (Lib.grownBy_setCell wr g 0 _) (by
            rcases h : u3.ownBlock with _ | kk
            · exact .inl rfl
            · right; intro he; have h1 := HO.out.base _ h; have h2 := HGS.out; simp at he; omega)
          have r2 := hO2.reads.out
          clear hO2
          go_wp2_with fail
          go_ret
          exact TextPost.some HT2.out ((HW.out.trans (HBz.out.mono HZ.out)).setCell (p := ⟨g, 0, none⟩) HG.out _) (Lib.grownBy_setB (grown_of_below HBz.out) 0 _) CUT.out (SW.put0 _)
        · have n1 : ((l[k + 1].toNat : Int) == 0) = false := by
            rw [beq_eq_false_iff_ne]; intro h; apply h1; exact UInt8.toNat_inj.1 (by simpa using h)
          by_cases h2 : l[k + 1] = 255
          · have ht := HT.out
            rw [HD.out, h0, h2, takeT_nought] at ht
            have HT2 := Lib.hid ht; clear ht n1 hx1
            rw [h2] at c1
            have n1 : (((255 : UInt8).toNat : Int) == 0) = false := rfl
            have n2 : (((255 : UInt8).toNat : Int) != 255) = false := rfl
            have hl3 : acc.length + 1 ≤ 140737488355328 := by omega
            go_wp2_with (at_builtin; go_must (refine ap_lit rfl (.tmp 69) (.tmp 70) rfl w.heap.size u3 acc [0] _ 1 1 rfl rfl rfl rfl HO.out HBz.out hz hl3 ?_); intro v1 w1 hO1 hB1 hz1; clear HBz HO SW s0 s1 f0 f1 c0 c1)
            go_roundw
            case rel => exact ⟨k + 2, acc ++ [0], by omega, by simp; omega, by go_num, hB1, hO1, HT2.out⟩
            case measure => (first | (simp [intOf]; done) | (simp [intOf]; omega))
          · have n2 : ((l[k + 1].toNat : Int) != 255) = true := by
              rw [bne_iff_ne]; intro h; apply h2; exact UInt8.toNat_inj.1 (by rw [show (255 : UInt8).toNat = 255 from rfl]; omega)
            have ht := HT.out
            rw [HD.out, h0, takeT_bad _ _ _ h1 h2] at ht
            have HT2 := Lib.hid ht.symm; clear ht
            go_wp2_with fail
            go_ret
            exact TextPost.none HT2.out ((HW.out.trans (HBz.out.mono HZ.out)).setCell (p := ⟨g, 1, none⟩) HG.out _) (Lib.grownBy_setB (grown_of_below HBz.out) 1 _) (SW.put1 true)
      · have n0 : ((l[k].toNat : Int) != 0) = true := by
          rw [bne_iff_ne]; intro h; apply h0; exact UInt8.toNat_inj.1 (by simpa using h)
        have ht := HT.out
        rw [HD.out, takeT_byte _ _ _ _ h0, ← List.drop_eq_getElem_cons (show k + 1 < l.length by omega)] at ht
        have HT2 := Lib.hid ht; clear ht
        have hbc : [Value.int .u8 (l[k].toNat : Int)] = bcells [l[k]] := rfl
        have HBC := Lib.hid hbc; clear hbc
        have hl3 : acc.length + 1 ≤ 140737488355328 := by omega
        go_wp2_with (at_builtin; go_must (refine ap_lit rfl (.tmp 24) (.tmp 32) rfl w.heap.size u3 acc [l[k]] _ 1 1 rfl rfl rfl HBC.out HO.out HBz.out hz hl3 ?_); intro v1 w1 hO1 hB1 hz1; clear HBz HO SW s0 s1 f0 f1 c0 c1)
        go_roundw
        case rel => exact ⟨k + 1, acc ++ [l[k]], by omega, by simp; omega, by go_num, hB1, hO1, HT2.out⟩
        case measure => (first | (simp [intOf]; done) | (simp [intOf]; omega))
    · have ht := HT.out
      rw [takeT_short _ _ (by rw [List.length_drop]; omega)] at ht
      have HT2 := Lib.hid ht.symm; clear ht
      go_wp2_with fail
      go_ret
      exact TextPost.none HT2.out ((HW.out.trans (HBz.out.mono HZ.out)).setCell (p := ⟨g, 1, none⟩) HG.out _) (Lib.grownBy_setB (grown_of_below HBz.out) 1 _) (SW.put1 true)
end Go.Proofs.YtkmcjainbhmbdaaDoor
