/- What is no manifest has no bytes; the document's examples of layer 13. No condition. -/
import Derived.Test.YtefndmjimmbhnaaDoorZ10
section
set_option linter.unusedVariables false
set_option linter.unusedSimpArgs false
set_option maxRecDepth 20000
namespace Go.Proofs.YtefndmjimmbhnaaDoor
open Go.RowKit

theorem mBytes_bad (v : Value) (l : List Int) (nx fr : Int) (w : World) (hv : SlI w v l) (hl : l.length ≤ 140737488351232) (hg : goodM l nx fr = false) :
    Calls Tryd.prog 16 #[.agg #[v, .int .i64 nx, .int .i64 fr]] w fun e w' => e = .returned (.tuple #[.slice none 0 0, .int .i64 2]) ∧ Below w.heap.size w w' := by
  have H := Lib.hid (fun W (h : Below w.heap.size w W) => mGood_any v l nx fr W (hv.below h) hl)
  rw [hg] at H
  obtain ⟨a, c, rfl, hc, hx⟩ := hv.ex
  clear hx hv
  have hb0 := Lib.hid (below_alloc (Below.refl _ w) (.cells #[.slice a l.length c, .int .i64 nx, .int .i64 fr] 24))
  have z0 : (w.alloc (.cells #[.slice a l.length c, .int .i64 nx, .int .i64 fr] 24)).cell? ⟨w.heap.size, 0, none⟩ = some (.slice a l.length c) := by go_simp
  have z1 : (w.alloc (.cells #[.slice a l.length c, .int .i64 nx, .int .i64 fr] 24)).cell? ⟨w.heap.size, 1, none⟩ = some (.int .i64 nx) := by go_simp
  have z2 : (w.alloc (.cells #[.slice a l.length c, .int .i64 nx, .int .i64 fr] 24)).cell? ⟨w.heap.size, 2, none⟩ = some (.int .i64 fr) := by go_simp
  go_enter Tryd.func16, Tryd.ntmps16
  go_wp2_with fail
  refine (H.out _ hb0.out).mono ?_
  rintro e w1 ⟨rfl, hb⟩
  go_wp2_with fail
  go_ret2
  exact ⟨rfl, below_tr hb0.out hb⟩

theorem good_example13 : goodM [1, 1] 3 1 = false := by decide
theorem file_example : fileL 7 = [116, 97, 98, 45, 55] := by
  have e : Lib.itoa 7 = [55] := by simp [Lib.itoa, Lib.decDigits]
  unfold fileL; rw [e]; decide
theorem two_cells (W : World) : SlI (W.alloc (.cells #[.int .i64 1, .int .i64 1] 3)) (.slice (some ⟨W.heap.size, 0, none⟩) 2 2) [1, 1] := by
  refine ⟨some ⟨W.heap.size, 0, none⟩, 2, rfl, by simp, fun _ => ⟨W.heap.size, 0, rfl, fun j hj => ?_⟩⟩
  rcases j with _ | _ | j
  · simp
  · simp
  · simp at hj; omega

set_option maxHeartbeats 2000000 in
theorem lives13 (w : World) (he : Env w) : Calls Tryd.prog 5 #[] w fun e w' => e = .returned (.bool true) ∧ Below w.heap.size w w' := by
  have HN := Lib.hid (fun W => New_any W)
  have HLd := Lib.hid (fun d mp W h => Load_empty d mp W h)
  have HBy := Lib.hid (fun W v (h : SlI W v [1, 1]) => mBytes_bad v [1, 1] 3 1 W h (by decide) good_example13)
  have HF := Lib.hid (fun W hE => File_any 7 W hE)
  rw [file_example] at HF
  have HE := Lib.hid he; clear he
  go_enter Tryd.func5, Tryd.ntmps5
  go_wp2_with fail
  refine (HN.out _).mono ?_
  rintro e w1 ⟨d, mp, rfl, hd, hb1⟩
  have HD := Lib.hid hd; clear hd
  have HB1 := Lib.hid hb1; clear hb1
  go_wp2_with fail
  refine (HLd.out d mp _ HD.out).mono ?_
  rintro e w2 ⟨rfl, hb2⟩
  have HB2 := Lib.hid (below_alloc (below_tr HB1.out hb2) (.cells #[.slice none 0 0, .int .i64 1, .int .i64 1] 24)); clear hb2
  have z0 : (w2.alloc (.cells #[.slice none 0 0, .int .i64 1, .int .i64 1] 24)).cell? ⟨w2.heap.size, 0, none⟩ = some (.slice none 0 0) := by go_simp
  have z1 : (w2.alloc (.cells #[.slice none 0 0, .int .i64 1, .int .i64 1] 24)).cell? ⟨w2.heap.size, 1, none⟩ = some (.int .i64 1) := by go_simp
  have z2 : (w2.alloc (.cells #[.slice none 0 0, .int .i64 1, .int .i64 1] 24)).cell? ⟨w2.heap.size, 2, none⟩ = some (.int .i64 1) := by go_simp
  go_wp2_with fail
  have T := two_cells (w2.alloc (.cells #[.slice none 0 0, .int .i64 1, .int .i64 1] 24))
  have hsz : (w2.alloc (.cells #[.slice none 0 0, .int .i64 1, .int .i64 1] 24)).heap.size = w2.heap.size + 1 := by simp
  rw [hsz] at T
  clear hsz
  have T' := Lib.hid T; clear T
  generalize w2.alloc (.cells #[.slice none 0 0, .int .i64 1, .int .i64 1] 24) = W2 at *
  have hb3 := below_alloc (Below.refl _ W2) (.cells #[.int .i64 1, .int .i64 1] 3)
  refine (HBy.out _ _ T'.out).mono ?_
  rintro e w3 ⟨rfl, hb4⟩
  have hb5 := below_tr hb3 hb4
  have x0 := cell_keep hb5 z0; have x1 := cell_keep hb5 z1; have x2 := cell_keep hb5 z2
  clear z0 z1 z2 hb3 hb4
  have HB5 := Lib.hid (below_tr HB2.out hb5); clear hb5
  go_wp2_with fail
  refine (HF.out _ (HE.out.below HB5.out)).mono ?_
  rintro e w6 ⟨rfl, hb6⟩
  go_wp2_with fail
  go_ret
  exact ⟨rfl, below_tr HB5.out hb6⟩
end Go.Proofs.YtefndmjimmbhnaaDoor
end
