/- What is asked of an empty disk: fault, Read; manifest's Begin and Load, and what is no manifest. Conditions: as told at each. -/
import Derived.Test.YtefndmjimmbhnaaDoorZ07
import Derived.Laws.Cover3
section
set_option linter.unusedVariables false
set_option linter.unusedSimpArgs false
set_option maxRecDepth 20000
namespace Go.Proofs.YtefndmjimmbhnaaDoor
open Go.RowKit

theorem map_no_nil (W : World) (mp : Nat) : (binOp .eql 42 (.map (some mp)) (.map none)).run Tryd.prog W = .ok (.bool false) W := by
  simp [binOp, go_sem, run_equal_map_nil W _ _ _ (some mp) Tryd.underlying42, Result.andThen]
set_option maxHeartbeats 1000000 in
theorem fault_empty (d mp : Nat) (v : Value) (s : ByteArray) (hs : s.size ≤ 140737488351232) (hg : diskNameB s = true) (w : World) (hd : ED w d mp) (hv : Names w v [s]) :
    Calls Tryd.prog 30 #[.pointer (some ⟨d, 0, none⟩), v, .bool true] w fun e w' => e = .returned (.int .i64 4) ∧ Below w.heap.size w w' := by
  have H := ask_any v [s] (by simp) (by simpa using hs) w hv
  simp only [List.any_cons, List.any_nil, hg, Bool.not_true, Bool.or_false] at H
  have H' := Lib.hid H; clear H
  have HV := Lib.hid hv
  have HD := Lib.hid hd
  obtain ⟨g, c, rfl, hc⟩ := hv.ex
  have c1 := hd.c1
  have c3 := hd.c3
  have nn := fun W => map_no_nil W mp
  clear hv hd hc
  go_enter Tryd.func30, Tryd.ntmps30
  go_wp2_with fail
  refine H'.out.mono ?_
  rintro e w1 ⟨rfl, hb⟩
  clear c1 c3
  have D1 := HD.out.below hb
  have c1 := D1.c1
  have c3 := D1.c3
  have lk := lookup_empty (W := w1.drew) (mp := mp) D1.m s
  obtain ⟨g', c', hv', hc'⟩ := (HV.out.below hb).ex
  have hc0 := hc' 0 (by simp)
  simp only [List.getElem_cons_zero] at hc0
  injection hv' with hv1 _ _
  injection hv1 with hv1
  injection hv1 with hv1
  subst hv1
  have HB := Lib.hid hb; clear hb hc' D1
  go_wp2_with fail
  go_region
  go_wp2_with fail
  go_ret
  exact ⟨rfl, HB.out.drew⟩
/-- a name that a call asks for -/
theorem asked_one (W : World) (s : ByteArray) : Names (W.alloc (.cells #[.string s] 9)) (.slice (some ⟨W.heap.size, 0, none⟩) 1 1) [s] := by
  refine ⟨W.heap.size, 1, rfl, fun j hj => ?_⟩
  obtain rfl : j = 0 := by simp at hj; omega
  simp
set_option maxHeartbeats 1000000 in
theorem Read_empty (d mp : Nat) (s : ByteArray) (hs : s.size ≤ 140737488351232) (hg : diskNameB s = true) (w : World) (hd : ED w d mp) :
    Calls Tryd.prog 18 #[.pointer (some ⟨d, 0, none⟩), .string s] w fun e w' => e = .returned (.tuple #[.slice none 0 0, .int .i64 4]) ∧ Below w.heap.size w w' := by
  have hb := below_alloc (Below.refl _ w) (.cells #[.string s] 9)
  have H := Lib.hid (fault_empty d mp _ s hs hg _ (hd.below hb) (asked_one w s))
  have HB := Lib.hid hb; clear hb hd
  go_enter Tryd.func18, Tryd.ntmps18
  go_wp2_with fail
  refine H.out.mono ?_
  rintro e w1 ⟨rfl, hb1⟩
  go_wp2_with fail
  go_ret2
  exact ⟨rfl, below_tr HB.out hb1⟩
theorem Begin_any (w : World) : Calls Tryd.prog 7 #[] w fun e w' => e = .returned (.agg #[.slice none 0 0, .int .i64 1, .int .i64 1]) ∧ Below w.heap.size w w' := by
  go_enter Tryd.func7, Tryd.ntmps7
  go_wp2_with fail
  refine bodyPost_ret (v := .agg #[.slice none 0 0, .int .i64 1, .int .i64 1]) (by simp [results, Tryd.results7, go_sem]) rfl ⟨rfl, below_alloc (Below.refl _ _) _⟩
theorem name_manifest : diskNameB ⟨#[109, 97, 110, 105, 102, 101, 115, 116]⟩ = true := by decide +kernel
set_option maxHeartbeats 1000000 in
theorem Load_empty (d mp : Nat) (w : World) (hd : ED w d mp) :
    Calls Tryd.prog 14 #[.pointer (some ⟨d, 0, none⟩)] w fun e w' => e = .returned (.tuple #[.agg #[.slice none 0 0, .int .i64 1, .int .i64 1], .int .i64 0]) ∧ Below w.heap.size w w' := by
  have hb := below_alloc (Below.refl _ w) (.cells #[.slice none 0 0, .int .i64 0, .int .i64 0] 24)
  have H := Lib.hid (Read_empty d mp ⟨#[109, 97, 110, 105, 102, 101, 115, 116]⟩ (by decide) name_manifest _ (hd.below hb))
  have HBg := Lib.hid (fun W => Begin_any W)
  have z0 : (w.alloc (.cells #[.slice none 0 0, .int .i64 0, .int .i64 0] 24)).cell? ⟨w.heap.size, 0, none⟩ = some (.slice none 0 0) := by go_simp
  have z1 : (w.alloc (.cells #[.slice none 0 0, .int .i64 0, .int .i64 0] 24)).cell? ⟨w.heap.size, 1, none⟩ = some (.int .i64 0) := by go_simp
  have z2 : (w.alloc (.cells #[.slice none 0 0, .int .i64 0, .int .i64 0] 24)).cell? ⟨w.heap.size, 2, none⟩ = some (.int .i64 0) := by go_simp
  have y0 : (w.alloc (.cells #[.slice none 0 0, .int .i64 0, .int .i64 0] 24)).frozen? ⟨w.heap.size, 0, none⟩ = false := by go_simp
  have y1 : (w.alloc (.cells #[.slice none 0 0, .int .i64 0, .int .i64 0] 24)).frozen? ⟨w.heap.size, 1, none⟩ = false := by go_simp
  have y2 : (w.alloc (.cells #[.slice none 0 0, .int .i64 0, .int .i64 0] 24)).frozen? ⟨w.heap.size, 2, none⟩ = false := by go_simp
  have hlt := World.block_lt_of_cell? _ _ z0
  have HB := Lib.hid hb; clear hb hd
  go_enter Tryd.func14, Tryd.ntmps14
  go_wp2_with fail
  generalize w.alloc (.cells #[.slice none 0 0, .int .i64 0, .int .i64 0] 24) = W at *
  refine H.out.mono ?_
  rintro e w1 ⟨rfl, hb1⟩
  go_wp2_with fail
  refine (HBg.out _).mono ?_
  rintro e w2 ⟨rfl, hb2⟩
  have hb2' := below_tr hb1 hb2
  have x0 := cell_keep hb2' z0; have x1 := cell_keep hb2' z1; have x2 := cell_keep hb2' z2
  have v0 := (hb2'.frozen (p := ⟨w.heap.size, 0, none⟩) hlt).trans y0; have v1 := (hb2'.frozen (p := ⟨w.heap.size, 1, none⟩) hlt).trans y1; have v2 := (hb2'.frozen (p := ⟨w.heap.size, 2, none⟩) hlt).trans y2
  clear z0 z1 z2 y0 y1 y2
  have HB2 := Lib.hid (below_tr HB.out hb2'); clear hb1 hb2 hb2'
  go_wp2_with fail
  refine bodyPost_ret (v := .tuple #[.agg #[.slice none 0 0, .int .i64 1, .int .i64 1], .int .i64 0]) (by simp [results, Tryd.results14, go_sem, x0, x1, x2]) rfl ⟨rfl, ?_⟩
  exact ((HB2.out.setCell (p := ⟨w.heap.size, 0, none⟩) (Nat.le_refl _) _).setCell (p := ⟨w.heap.size, 1, none⟩) (Nat.le_refl _) _).setCell (p := ⟨w.heap.size, 2, none⟩) (Nat.le_refl _) _
end Go.Proofs.YtefndmjimmbhnaaDoor
end
