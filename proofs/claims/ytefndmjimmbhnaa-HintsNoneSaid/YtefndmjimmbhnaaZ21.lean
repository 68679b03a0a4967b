/- Contracts of Good and Sorted of cells, the program's and the reference's. Condition: lengths of texts; room. Contracts of slices.Clone at cells, of the stable sort, of cell's fold and Norm, at lists of one cell or none. Contracts of cell's fold at cells, of slices.Clone there, of cell.Norm: at any cells. Condition: room (the row's own bound). -/
import Derived.Test.YtefndmjimmbhnaaZ10
import Derived.Test.YtefndmjimmbhnaaZ14
import Derived.Test.YtefndmjimmbhnaaZ08
import Derived.Test.YtefndmjimmbhnaaZ20
section
set_option linter.unusedVariables false
set_option linter.unusedSimpArgs false
set_option maxRecDepth 50000
namespace Go.Proofs.Ytefndmjimmbhnaa
open Go.RowKit Go.Sort
open Go.Lib hiding intOf

/-- a cell's texts are not too long -/
structure CelT (c : Cel) : Prop where
  ht : c.k.t.size ≤ maxLen
  hp : c.k.p.size ≤ maxLen
  hq : c.k.c.size ≤ maxLen
  hs : c.v.s.size ≤ maxLen
def zEq (v : Vr) : Bool := valEq v.kind v.n v.s 0 0 ⟨#[]⟩
def goodW (q : ByteArray) (v : Vr) : Bool :=
  if v.dead = true then zEq v else if v.loc ≠ 0 then false else if strE q ≠ (v.kind == 0) then false else
  if v.kind = 0 then zEq v else if v.kind = 1 then strE v.s else if v.kind = 2 then (v.n == 0 && decide (v.s.size ≤ 64)) else false
def goodC (c : Cel) : Bool := goodB c.k.t c.k.p c.k.c && goodW c.k.c c.v
def goodC2 (c : Cel) : Bool := goodR c.k.t c.k.p c.k.c && goodW c.k.c c.v
theorem zval_eql (w : World) (k n : Int) (s : ByteArray) :
    (binOp .eql 58 (.agg #[.int .i64 k, .int .i64 n, .string s]) (.agg #[.int .i64 0, .int .i64 0, .string ⟨#[]⟩])).run Try.prog w = .ok (.bool (valEq k n s 0 0 ⟨#[]⟩)) w := by
  rw [run_eql_struct, valIn 9998]; rfl

set_option maxHeartbeats 4000000 in
theorem goodC_any (c : Cel) (w : World) (hc : CelT c) : Calls Try.prog 48 #[.agg (celEnc c).toArray] w fun e w' => e = .returned (.bool (goodC c)) ∧ Below w.heap.size w w' := by
  have K := Lib.hid (fun W => good_any c.k.t c.k.p c.k.c c.k.r W hc.ht hc.hp hc.hq)
  have Q := fun W => zval_eql W c.v.kind c.v.n c.v.s
  have HS := hc.hs
  unfold maxLen at HS
  clear hc
  obtain ⟨R, hR⟩ : ∃ R, goodC c = R := ⟨_, rfl⟩
  rw [hR]
  unfold goodC at hR
  generalize goodB c.k.t c.k.p c.k.c = gb at *
  cases gb with
  | false =>
    obtain rfl : false = R := by simpa using hR
    clear hR
    obtain ⟨⟨t, p, r, q⟩, ⟨tm, d, lo, kd, n, s⟩⟩ := c
    simp only [celEnc] at *
    go_enter Try.func48, Try.ntmps48
    go_wp2_with (first | (go_at_call 71; refine (K.out _).mono ?_; rintro e w' ⟨rfl, hb⟩; obtain ⟨hc1, hf1⟩ := bcell hb))
    all_goals go_ret
    all_goals refine ⟨ret_b rfl, by (repeat (first | exact Below.refl _ _ | assumption | refine below_alloc ?_ _ | refine Below.drew ?_ | refine below_drewN ?_ _ | refine below_tr ?_ (by assumption)))⟩
  | true =>
    obtain ⟨⟨t, p, r, q⟩, ⟨tm, d, lo, kd, n, s⟩⟩ := c
    simp only [celEnc] at *
    cases d
    all_goals
      simp only [goodW, zEq, Bool.true_and, if_true, Bool.false_eq_true, if_false] at hR
      generalize valEq kd n s 0 0 ⟨#[]⟩ = z at *
      have HR := Lib.hid hR; clear hR
      go_enter Try.func48, Try.ntmps48
      go_wp2_with (first | (go_at_call 71; refine (K.out _).mono ?_; rintro e w' ⟨rfl, hb⟩; obtain ⟨hc1, hf1⟩ := bcell hb))
      all_goals go_ret
      all_goals refine ⟨ret_b ?_, by (repeat (first | exact Below.refl _ _ | assumption | refine below_alloc ?_ _ | refine Below.drew ?_ | refine below_drewN ?_ _ | refine below_tr ?_ (by assumption)))⟩
      all_goals rw [← HR.out]
      all_goals ((try unfold strE); first | rfl | (simp [*]; done) | (simp [*]; omega) | grind)
end Go.Proofs.Ytefndmjimmbhnaa
end

section
set_option linter.unusedVariables false
set_option linter.unusedSimpArgs false
set_option maxRecDepth 50000
namespace Go.Proofs.Ytefndmjimmbhnaa
open Go.RowKit Go.Sort

theorem cloneC_any (g o n c : Nat) (L : List Cel) (w : World) (HV : SlX eC w.heap.size w (.slice (some ⟨g, o, none⟩) n c) L) (hl : L.length ≤ 1000000) :
    Calls Try.prog 28 #[.slice (some ⟨g, o, none⟩) n c] w
      fun e w' => ∃ v, e = .returned v ∧ OwnX eC w' w.heap.size v L ∧ Below w.heap.size w w' := by
  have q22 : ∀ (w : World), (binOp .eql 26 (.slice (some ⟨g, o, none⟩) n c) (.slice none 0 0)).run Try.prog w = .ok (.bool false) w := fun w => Lib.run_eql_slice_nil w _ _ _ n c 0 0 Try.underlying26
  have H0 := Lib.hid (OwnX.lit (E := eC) w w.heap.size #[] [] 0 (Nat.le_refl _) rfl (by simp) rfl)
  have HB0 := Lib.hid (below_alloc (Below.refl _ w) (.cells #[] 62))
  have HVa := Lib.hid (HV.below HB0.out)
  clear HV
  have hlx : ([] : List Cel).length + L.length ≤ 9223372036854775807 := by simp; omega
  have hly : (([] : List Cel).length + L.length) * eC.bytes ≤ 140737488355328 := by show (_ + _) * 112 ≤ _; simp; omega
  go_enter Try.func28, Try.ntmps28
  go_wp2_with (at_builtin; go_must (refine ap_x (E := eC) rfl (.tmp 5) (.tmp 6) rfl w.heap.size (.slice (some ⟨w.heap.size, 0, none⟩) 0 0) [] w.heap.size _ L rfl rfl HVa.out H0.out HB0.out HB0.out.size hlx hly ?_); intro v2 w2 hO2 hB2 hz2 _)
  go_ret
  exact ⟨v2, rfl, hO2, hB2⟩

end Go.Proofs.Ytefndmjimmbhnaa
end

section
set_option linter.unusedVariables false
set_option linter.unusedSimpArgs false
set_option maxRecDepth 50000
namespace Go.Proofs.Ytefndmjimmbhnaa
open Go.RowKit Go.Sort
open Go.Lib hiding intOf

def foldP (l : List Cel) : List (Ky × Vr) := foldL joinP (l.map toP)
theorem foldP_next (L : List Cel) (i : Nat) (hi : i < L.length) : foldP (L.take (i + 1)) = foldS joinP (foldP (L.take i)) (toP L[i]) := by
  unfold foldP foldL
  rw [List.take_succ_eq_append_getElem hi, List.map_append, List.foldl_append]; rfl
theorem foldP_len (l : List Cel) : (foldP l).length ≤ l.length := by
  unfold foldP foldL
  have : ∀ (l : List Cel) (acc : List (Ky × Vr)), ((l.map toP).foldl (foldS joinP) acc).length ≤ acc.length + l.length := by
    intro l
    induction l with
    | nil => intro acc; simp
    | cons x l ih =>
      intro acc
      have h1 := ih (foldS joinP acc (toP x))
      have h2 := foldS_len (jn := joinP) acc (toP x)
      simp only [List.map_cons, List.foldl_cons, List.length_cons]; omega
  simpa using this l []
/-- room for so many cells -/
def Room (n : Nat) : Prop := n * 112 ≤ 140737488355328

/-- the norm of cells -/
def normC (l : List Cel) : List Cel := (normL kcK joinP (l.map toP)).map ofP
theorem stb_map {l m : List Cel} (h : Stb ltC l m) : Stb (fun a b : Ky × Vr => decide (kcK a.1 b.1 < 0)) (l.map toP) (m.map toP) := by
  refine ⟨h.perm.map _, fun x => ?_⟩
  have := congrArg (List.map toP) (h.same (ofP x))
  rw [List.filter_map, List.filter_map]
  exact this
theorem srt_map {l : List Cel} (h : Srt ltC l) : Srt (fun a b : Ky × Vr => decide (kcK a.1 b.1 < 0)) (l.map toP) := by
  unfold Srt at *
  rw [List.pairwise_map]
  exact h
theorem fold_norm {l m : List Cel} (h1 : Srt ltC m) (h2 : Stb ltC l m) : (foldP m).map ofP = normC l := by
  unfold foldP normC
  rw [foldL_norm kcK_ord (stb_map h2) (srt_map h1)]
theorem cloneN_any (v : Value) (L : List Cel) (w : World) (HV : SlX eC w.heap.size w v L) (hl : Room L.length) :
    Calls Try.prog 28 #[v] w fun e w' => ∃ v', e = .returned v' ∧ OwnX eC w' w.heap.size v' L ∧ Below w.heap.size w w' := by
  unfold Room at hl
  obtain ⟨a, c, rfl, hc, hx⟩ := HV.ex
  have q22 : ∀ (w : World), (binOp .eql 26 (.slice a L.length c) (.slice none 0 0)).run Try.prog w = .ok (.bool a.isNone) w := fun w => Lib.run_eql_slice_nil w _ _ _ L.length c 0 0 Try.underlying26
  have H0 := Lib.hid (OwnX.lit (E := eC) w w.heap.size #[] [] 0 (Nat.le_refl _) rfl (by simp) rfl)
  have HB0 := Lib.hid (below_alloc (Below.refl _ w) (.cells #[] 62))
  have HVa := Lib.hid (HV.below HB0.out)
  have hlx : ([] : List Cel).length + L.length ≤ 9223372036854775807 := by simp; omega
  have hly : (([] : List Cel).length + L.length) * eC.bytes ≤ 140737488355328 := by show (_ + _) * 112 ≤ _; simp; omega
  have HX := Lib.hid hx
  clear HV hx
  cases a with
  | none =>
    have h0 : L = [] := by
      rcases Nat.eq_zero_or_pos L.length with h | h
      · exact List.eq_nil_of_length_eq_zero h
      · obtain ⟨g, o, e, _⟩ := HX.out h; cases e
    subst h0
    clear hlx hly
    simp only [Option.isNone_none, List.length_nil] at q22 ⊢
    go_enter Try.func28, Try.ntmps28
    go_wp2_with fail
    go_ret
    exact ⟨_, rfl, OwnX.nil _ _, Below.refl _ _⟩
  | some ad =>
    simp only [Option.isNone_some] at q22
    go_enter Try.func28, Try.ntmps28
    go_wp2_with (at_builtin; go_must (refine ap_x (E := eC) rfl (.tmp 5) (.tmp 6) rfl w.heap.size (.slice (some ⟨w.heap.size, 0, none⟩) 0 0) [] w.heap.size _ L rfl rfl HVa.out H0.out HB0.out HB0.out.size hlx hly ?_); intro v2 w2 hO2 hB2 hz2 _)
    go_ret
    exact ⟨v2, rfl, hO2, hB2⟩

end Go.Proofs.Ytefndmjimmbhnaa
end
