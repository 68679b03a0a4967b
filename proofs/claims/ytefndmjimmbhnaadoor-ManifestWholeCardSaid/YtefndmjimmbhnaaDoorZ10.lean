/- Contract of manifest's Good. Condition: the numbers are of int64. -/
import Derived.Test.YtefndmjimmbhnaaDoorZ08
import Derived.Test.YtefndmjimmbhnaaDoorZ09
section
set_option linter.unusedVariables false
set_option linter.unusedSimpArgs false
set_option maxRecDepth 20000
namespace Go.Proofs.YtefndmjimmbhnaaDoor
open Go.RowKit

/-- The slice value v holds the numbers l. -/
structure SlI (W : World) (v : Value) (l : List Int) : Prop where
  ex : ∃ a c, v = .slice a l.length c ∧ l.length ≤ c ∧ (0 < l.length → ∃ g o, a = some ⟨g, o, none⟩ ∧ ∀ j (h : j < l.length), W.cell? ⟨g, o + j, none⟩ = some (.int .i64 l[j]))
theorem SlI.below {w w1 : World} {v : Value} {l : List Int} (h : SlI w v l) (hb : Below w.heap.size w w1) : SlI w1 v l := by
  obtain ⟨a, c, e, hc, hx⟩ := h.ex
  refine ⟨a, c, e, hc, fun h0 => ?_⟩
  obtain ⟨g, o, ea, hcell⟩ := hx h0
  exact ⟨g, o, ea, fun j hj => cell_keep hb (hcell j hj)⟩
theorem elemInt : Tryd.prog.elem 22 = 3 := by kernel_rfl
theorem undInt : Tryd.prog.underlying 22 = some (.slice (Tryd.prog.elem 22)) := by rw [elemInt]; exact Tryd.underlying22
theorem sizeInt (w : World) : (Go.sizeOf (Tryd.prog.elem 22)).run Tryd.prog w = .ok 1 w := by rw [elemInt]; simp [go_sem]
theorem headI_run {g o n c k : Nat} (hk : k ≤ c) (h0 : 0 < c) (W : World) :
    (Instr.slice 22 (.slice (some ⟨g, o, none⟩) n c) none (some (.int .i64 (k : Int))) none).run Tryd.prog W = .ok (.slice (some ⟨g, o, none⟩) k c) W := by
  rw [run_slice_h W _ _ _ _ undInt .i64 _ (by omega) (by omega), sizeInt]
  have hne : ¬ c = 0 := by omega
  simp only [Result.andThen, sliced, Int.toNat_natCast, Nat.mul_one, if_neg hne, Nat.sub_zero]
  rfl

set_option maxHeartbeats 2000000 in
theorem mGood_any (v : Value) (l : List Int) (nx fr : Int) (w : World) (hv : SlI w v l) (hl : l.length ≤ 140737488351232) :
    Calls Tryd.prog 9 #[.agg #[v, .int .i64 nx, .int .i64 fr]] w fun e w' => e = .returned (.bool (goodM l nx fr)) ∧ Below w.heap.size w w' := by
  have HV := Lib.hid hv
  obtain ⟨a, c, rfl, hc, hx⟩ := hv.ex
  have HX := Lib.hid hx; clear hx hv
  have HW := fun n lo hi W => between_any n lo hi W
  have HW' := Lib.hid HW; clear HW
  have hb0 := Lib.hid (below_alloc (Below.refl _ w) (.cells #[.slice a l.length c, .int .i64 nx, .int .i64 fr] 24))
  have z0 : (w.alloc (.cells #[.slice a l.length c, .int .i64 nx, .int .i64 fr] 24)).cell? ⟨w.heap.size, 0, none⟩ = some (.slice a l.length c) := by go_simp
  have z1 : (w.alloc (.cells #[.slice a l.length c, .int .i64 nx, .int .i64 fr] 24)).cell? ⟨w.heap.size, 1, none⟩ = some (.int .i64 nx) := by go_simp
  have z2 : (w.alloc (.cells #[.slice a l.length c, .int .i64 nx, .int .i64 fr] 24)).cell? ⟨w.heap.size, 2, none⟩ = some (.int .i64 fr) := by go_simp
  go_enter Tryd.func9, Tryd.ntmps9
  go_wp2_with fail
  generalize w.alloc (.cells #[.slice a l.length c, .int .i64 nx, .int .i64 fr] 24) = W at *
  refine (HW'.out _ _ _ _).mono ?_
  rintro e w1 ⟨rfl, rfl⟩
  rcases h1 : (decide (1 ≤ nx) && decide (nx ≤ 999999999)) with _ | _
  · have e : goodM l nx fr = false := by unfold goodM; rw [h1]; simp
    have E := Lib.hid e; clear e h1
    go_wp2_with fail
    go_ret
    exact ⟨ret_b E.out.symm, hb0.out⟩
  · have H1 := Lib.hid h1; clear h1
    have n1 : 1 ≤ nx := by have := H1.out; simp at this; omega
    have n2 : nx ≤ 999999999 := by have := H1.out; simp at this; omega
    go_wp2_with fail
    refine (HW'.out _ _ _ _).mono ?_
    rintro e w1 ⟨rfl, rfl⟩
    rcases h2 : (decide (1 ≤ fr) && decide (fr ≤ 999999999)) with _ | _
    · have e : goodM l nx fr = false := by unfold goodM; rw [h2]; simp
      have E := Lib.hid e; clear e h2
      go_wp2_with fail
      go_ret
      exact ⟨ret_b E.out.symm, hb0.out⟩
    · have H2 := Lib.hid h2; clear h2
      by_cases h3 : 30 < l.length
      · have e : goodM l nx fr = false := by unfold goodM; rw [decide_eq_false (by omega : ¬ l.length ≤ 30)]; simp
        have E := Lib.hid e; clear e
        go_wp2_with fail
        go_ret
        exact ⟨ret_b E.out.symm, hb0.out⟩
      · have e : goodM l nx fr = (List.range l.length).all (tabB nx l) := by unfold goodM; rw [H1.out, H2.out, decide_eq_true (by omega : l.length ≤ 30)]; simp
        have E := Lib.hid e; clear e
        go_wp2_with fail
        go_loopw [24, 3, 4] (fun i u y wr => ∃ k : Nat, k ≤ l.length ∧ i = .int .i64 k ∧ Below W.heap.size W wr ∧ (List.range k).all (tabB nx l) = true) (fun i _ _ _ => l.length - (intOf i).toNat)
        case atStart => exact ⟨0, by omega, rfl, Below.refl _ _, rfl⟩
        case round =>
          obtain ⟨k, hk, rfl, hB, hall⟩ := hrel
          have HALL := Lib.hid hall; clear hall
          by_cases hlt : k < l.length
          · obtain ⟨g, o, rfl, hcell⟩ := HX.out (by omega)
            have w0 := cell_keep hB z0; have w1' := cell_keep hB z1
            have hbw := below_tr hb0.out hB
            have hck := cell_keep hbw (hcell k hlt)
            have HCO := Lib.hid (fun n (hn : n ≤ l.length) (x : Int) => Tryd.slices_Contains_int g o n c l x wr hn (by omega) (fun j hj => by
              rw [List.getD_eq_getElem?_getD, List.getElem?_eq_getElem hj]; exact cell_keep hbw (hcell j hj)))
            have HB := Lib.hid hB; clear hB hcell hbw
            have hd := headI_run (g := g) (o := o) (n := l.length) (c := c) (k := k) (by omega) (by omega)
            have hst := tab_take nx l k
            rw [HALL.out, Bool.true_and] at hst
            have htb : tabB nx l k = ((decide (1 ≤ l[k]) && decide (l[k] ≤ nx - 1)) && !(l.take k).contains l[k]) := by
              unfold tabB
              rw [List.getD_eq_getElem?_getD, List.getElem?_eq_getElem hlt]; rfl
            have HX2 := Lib.hid (fun h : tabB nx l k = false => show (List.range l.length).all (tabB nx l) = false from by
              rw [List.all_eq_false]; exact ⟨k, by simpa using hlt, by simp [h]⟩)
            have HST := Lib.hid hst; clear hst
            have HTB := Lib.hid htb; clear htb
            generalize l[k] = x at *
            go_wp2_with fail
            refine (HW'.out _ _ _ _).mono ?_
            rintro e w5 ⟨rfl, rfl⟩
            rcases q1 : (decide (1 ≤ x) && decide (x ≤ nx - 1)) with _ | _
            · have Q1 := Lib.hid q1; clear q1
              go_wp2_with fail
              go_ret
              exact ⟨ret_b (E.out.trans (HX2.out (by rw [HTB.out, Q1.out]; rfl))).symm, below_tr hb0.out HB.out⟩
            · have Q1 := Lib.hid q1; clear q1
              go_wp2_with fail
              refine (HCO.out k (by omega) x).mono ?_
              rintro e w6 ⟨rfl, rfl⟩
              rcases q2 : (l.take k).contains x with _ | _
              · have Q2 := Lib.hid q2; clear q2
                go_wp2_with fail
                go_roundw
                case rel => exact ⟨k + 1, by omega, by go_num, HB.out, by rw [HST.out, HTB.out, Q1.out, Q2.out]; rfl⟩
                case measure => (first | (simp [intOf]; done) | (simp [intOf]; omega))
              · have Q2 := Lib.hid q2; clear q2
                go_wp2_with fail
                go_ret
                exact ⟨ret_b (E.out.trans (HX2.out (by rw [HTB.out, Q1.out, Q2.out]; rfl))).symm, below_tr hb0.out HB.out⟩
          · obtain rfl : k = l.length := by omega
            go_wp2_with fail
            go_ret
            exact ⟨ret_b (E.out.trans HALL.out).symm, below_tr hb0.out hB⟩
end Go.Proofs.YtefndmjimmbhnaaDoor
end
