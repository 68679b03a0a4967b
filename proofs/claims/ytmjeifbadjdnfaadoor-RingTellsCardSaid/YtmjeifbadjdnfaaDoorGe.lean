/- Contracts of slices.Grow and Concat at a ring's points. Conditions: at most a thousand points. -/
import Derived.Test.YtmjeifbadjdnfaaDoorGd
set_option linter.unusedVariables false
set_option linter.unusedSimpArgs false
set_option maxRecDepth 20000
namespace Go.Proofs.YtmjeifbadjdnfaaDoor
open Go.RowKit Go.Sort

theorem zeroCells_size (z : Array Value) (n : Nat) : (Builtin.zeroCells z n).size = n * z.size := by simp [Builtin.zeroCells]
theorem growPt_any (n : Nat) (h0 : 0 < n) (hn : n ≤ 1000) (w : World) :
    Calls Tryd.prog 73 #[.slice none 0 0, .int .i64 (n : Int)] w
      fun e w' => ∃ g c, e = .returned (.slice (some ⟨g, 0, none⟩) 0 c) ∧ OwnX eP w' w.heap.size (.slice (some ⟨g, 0, none⟩) 0 c) [] ∧ Below w.heap.size w w' := by
  obtain ⟨i0, hi, hz0, hz1, hz2⟩ := info_parts infoPt
  have hcon := Any8.slices_Grow_grow Tryd.growPt i0 _ hi hz0 (by rw [hz1]; decide) none 0 0 n [] w (Nat.le_refl _) (by omega) (by rw [hz2]; omega) (by omega) (by simp) (fun _ => rfl) (fun a e => by cases e)
  change Calls Tryd.prog 73 _ _ _ at hcon
  refine hcon.mono ?_
  rintro e w' ⟨rfl, rfl⟩
  rw [Nat.zero_add, Nat.sub_zero]
  have hG := grownCap_ge w n 0 63
  have hM := grownCap_le_maxLen w n 0 63 (by unfold maxLen; omega)
  refine ⟨w.heap.size, _, rfl, ?_, ?_⟩
  · have hmade := World.ownsRow_made (base := w.heap.size) (e := 63) (size := 2) w.drew (#[] ++ Builtin.zeroCells (Value.agg #[.int .i64 0, .int .i64 0]).cells n ++ Builtin.zeroCells (Value.agg #[.int .i64 0, .int .i64 0]).cells (grownCap w n 0 63 - n)) (grownCap w n 0 63) (Nat.le_refl _) hM (by
      rw [Array.size_append, Array.size_append, zeroCells_size, zeroCells_size]
      show 0 + n * 2 + (grownCap w n 0 63 - n) * 2 = _
      omega)
    exact hmade
  · exact (Below.drew (Below.refl _ w)).alloc (Nat.le_refl _) _

theorem concatPt_any (gv g1 o1 c1 g2 o2 c2 : Nat) (L1 L2 : List Pt) (w : World) (h0 : w.cell? ⟨gv, 0, none⟩ = some (.slice (some ⟨g1, o1, none⟩) L1.length c1)) (h1 : w.cell? ⟨gv, 1, none⟩ = some (.slice (some ⟨g2, o2, none⟩) L2.length c2))
    (s1 : SlX eP w.heap.size w (.slice (some ⟨g1, o1, none⟩) L1.length c1) L1) (s2 : SlX eP w.heap.size w (.slice (some ⟨g2, o2, none⟩) L2.length c2) L2) (hp : 0 < L1.length + L2.length) (hl : L1.length + L2.length ≤ 1000) :
    Calls Tryd.prog 56 #[.slice (some ⟨gv, 0, none⟩) 2 2] w
      fun e w' => ∃ v, e = .returned v ∧ OwnX eP w' w.heap.size v (L1 ++ L2) ∧ Below w.heap.size w w' := by
  have H0 := Lib.hid h0; have H1 := Lib.hid h1; have S1 := Lib.hid s1; have S2 := Lib.hid s2
  have HG := Lib.hid (growPt_any (L1.length + L2.length) hp hl w)
  have HN := Lib.hid (show ((L1.length : Int) + (L2.length : Int)) = ((L1.length + L2.length : Nat) : Int) by omega)
  clear h0 h1 s1 s2
  have n1 : ¬ (L1.length : Int) < 0 := by omega
  have n2 : ¬ (L1.length : Int) + (L2.length : Int) < 0 := by omega
  go_enter Tryd.func56, Tryd.ntmps56
  go_wp2_with fail
  go_loopw [3, 5, 11] (fun n _ i wr => w = wr ∧ ((i = .int .i64 0 ∧ n = .int .i64 0) ∨ (i = .int .i64 1 ∧ n = .int .i64 (L1.length : Int)) ∨ (i = .int .i64 2 ∧ n = .int .i64 ((L1.length : Int) + (L2.length : Int))))) (fun _ _ i _ => (2 - intOf i).toNat)
  case atStart => exact ⟨rfl, .inl ⟨rfl, rfl⟩⟩
  case round =>
    obtain ⟨rfl, ⟨rfl, rfl⟩ | ⟨rfl, rfl⟩ | ⟨rfl, rfl⟩⟩ := hrel
    · have hc := H0.out
      go_wp2_with fail
      go_roundw
      case rel => exact ⟨trivial, .inr (.inl ⟨rfl, by first | rfl | (simp; done)⟩)⟩
      case measure => simp [intOf]
    · have hc := H1.out
      go_wp2_with fail
      go_roundw
      case rel => exact ⟨trivial, .inr (.inr ⟨rfl, rfl⟩)⟩
      case measure => simp [intOf]
    · go_wp2_with fail
      rw [HN.out]
      refine HG.out.mono ?_
      rintro e w1 ⟨gg, cg, rfl, hO, hB⟩
      have HO := Lib.hid hO; have HB := Lib.hid hB
      clear hO hB HG
      go_wp2_with fail
      go_loopw [6, 8, 27] (fun v _ i w2 => Below w.heap.size w w2 ∧ w.heap.size ≤ w2.heap.size ∧ ((i = .int .i64 0 ∧ OwnX eP w2 w.heap.size v []) ∨ (i = .int .i64 1 ∧ OwnX eP w2 w.heap.size v L1) ∨ (i = .int .i64 2 ∧ OwnX eP w2 w.heap.size v (L1 ++ L2)))) (fun _ _ i _ => (2 - intOf i).toNat)
      case atStart => exact ⟨HB.out, HB.out.size, .inl ⟨rfl, HO.out⟩⟩
      case round =>
        obtain ⟨hB2, hz2, hh⟩ := hrel
        have HB2 := Lib.hid hB2; have HZ2 := Lib.hid hz2
        have lt0 : gv < w.heap.size := World.block_lt_of_cell? w _ H0.out
        have hc0 : wr.cell? ⟨gv, 0, none⟩ = some (.slice (some ⟨g1, o1, none⟩) L1.length c1) := by rw [hB2.cell (p := ⟨gv, 0, none⟩) lt0]; exact H0.out
        have hc1 : wr.cell? ⟨gv, 1, none⟩ = some (.slice (some ⟨g2, o2, none⟩) L2.length c2) := by rw [hB2.cell (p := ⟨gv, 1, none⟩) lt0]; exact H1.out
        have T1 := Lib.hid (S1.out.below hB2); have T2 := Lib.hid (S2.out.below hB2)
        clear hB2 hz2
        rcases hh with ⟨rfl, hO⟩ | ⟨rfl, hO⟩ | ⟨rfl, hO⟩
        · have HOA := Lib.hid hO; clear hO
          have hlx : ([] : List Pt).length + L1.length ≤ 9223372036854775807 := by simp; omega
          have hly : (([] : List Pt).length + L1.length) * eP.bytes ≤ 140737488355328 := by show (_ + _) * 16 ≤ _; simp; omega
          go_wp2_with (at_builtin; go_must (refine ap_x (E := eP) rfl (.tmp 31) (.tmp 32) rfl w.heap.size u6 [] _ _ L1 rfl rfl T1.out HOA.out HB2.out HZ2.out hlx hly ?_); intro v6 w6 hO6 hB6 hz6 hg6)
          go_roundw
          case rel => exact ⟨hB6, hz6, .inr (.inl ⟨rfl, by rw [List.nil_append] at hO6; exact hO6⟩)⟩
          case measure => simp [intOf]
        · have HOA := Lib.hid hO; clear hO
          have hlx : L1.length + L2.length ≤ 9223372036854775807 := by omega
          have hly : (L1.length + L2.length) * eP.bytes ≤ 140737488355328 := by show (_ + _) * 16 ≤ _; omega
          go_wp2_with (at_builtin; go_must (refine ap_x (E := eP) rfl (.tmp 31) (.tmp 32) rfl w.heap.size u6 L1 _ _ L2 rfl rfl T2.out HOA.out HB2.out HZ2.out hlx hly ?_); intro v6 w6 hO6 hB6 hz6 hg6)
          go_roundw
          case rel => exact ⟨hB6, hz6, .inr (.inr ⟨rfl, hO6⟩)⟩
          case measure => simp [intOf]
        · go_wp2_with fail
          go_ret
          exact ⟨_, rfl, hO, HB2.out⟩
end Go.Proofs.YtmjeifbadjdnfaaDoor
