/- Contracts of slices.IndexFunc and DeleteFunc at cells, by whatever function that answers of each. Condition: room. Contracts of Sorted of cells, the program's and the reference's, of Write's closure and of ContainsFunc at cells. Condition: room. The state of the table's Write, and plain facts of its parts. No program is walked; no condition. -/
import Derived.Test.YtplghaoflmaadaaGreatDoorZ22
import Derived.Test.YtplghaoflmaadaaGreatDoorZ21
import Derived.Test.YtplghaoflmaadaaGreatDoorZ20
section
set_option linter.unusedVariables false
set_option linter.unusedSimpArgs false
set_option maxRecDepth 50000
namespace Go.Proofs.YtplghaoflmaadaaGreatDoor
open Go.RowKit Go.Sort
open Go.Lib hiding intOf

/-- a function on cells that answers b, in every world that w0 (of B blocks) grows into -/
def Asks (f : Nat) (caps : Array Value) (B : Nat) (w0 : World) (L : List Cel) (b : Cel → Bool) : Prop :=
  ∀ W, Below B w0 W → ∀ x ∈ L, Calls Tryz.prog f (#[.agg (celEnc x).toArray] ++ caps) W fun e w' => e = .returned (.bool (b x)) ∧ Below W.heap.size W w'
def IdxP (L : List Cel) (b : Cel → Bool) (r : Int) : Prop := (r = -1 ∧ ∀ x ∈ L, b x = false) ∨ ∃ k : Nat, ∃ h : k < L.length, r = k ∧ b L[k] = true ∧ ∀ x ∈ L.take k, b x = false

set_option maxHeartbeats 1000000 in
theorem idxG_any (f : Nat) (caps : Array Value) (eg : ∀ args w, (callFunc f args).run Tryz.prog w = .ok (.enter f args) w) (B : Nat) (w0 : World) (L : List Cel) (b : Cel → Bool) (v : Value) (w : World) (GA : Asks f caps B w0 L b) (hv : SlX eC w.heap.size w v L) (hB : Below B w0 w) (hBs : B ≤ w.heap.size) (hl : Room L.length) :
    Calls Tryz.prog 77 #[v, .func (.func f) #[] caps] w fun e w' => ∃ r, e = .returned (.int .i64 r) ∧ IdxP L b r ∧ Below w.heap.size w w' := by
  have HV := Lib.hid hv
  obtain ⟨a, cap, rfl, hc, hx⟩ := hv.ex
  have HX := Lib.hid hx; clear hx hv
  unfold Room at hl
  have GH := Lib.hid GA; have HB := Lib.hid hB
  clear GA hB
  go_enter Tryz.func77, Tryz.ntmps77
  go_wp2_with fail
  go_loopw [5, 8] (fun _ v8 wr => ∃ i : Nat, v8 = .int .i64 (i : Int) ∧ i ≤ L.length ∧ Hid (∀ x ∈ L.take i, b x = false) ∧ Below w.heap.size w wr) (fun _ v8 _ => L.length - (intOf v8).toNat)
  case atStart => exact ⟨0, rfl, by omega, Lib.hid (by simp), Below.refl _ _⟩
  case round =>
    obtain ⟨i, rfl, hi, HN, hb⟩ := hrel
    have HBw := Lib.hid hb; clear hb
    by_cases hlt : i < L.length
    · have hz : (i : Int) < (L.length : Int) := by omega
      obtain ⟨gl, o, rfl, hgl2, _⟩ := HX.out (by omega)
      have ten := (Ten.of HV.out i hlt).keep HBw.out
      have GI := Lib.hid (fun W hW => GH.out W hW L[i] (List.getElem_mem hlt))
      have YES := Lib.hid (fun (h : b L[i] = true) => show IdxP L b (i : Int) from .inr ⟨i, hlt, rfl, h, HN.out⟩)
      have NO := Lib.hid (fun (h : b L[i] = false) => show ∀ x ∈ L.take (i + 1), b x = false by
        rw [List.take_succ_eq_append_getElem hlt]
        intro x hx
        rcases List.mem_append.1 hx with hx | hx
        · exact HN.out x hx
        · rw [List.mem_singleton.1 hx]; exact h)
      generalize b L[i] = bi at *
      generalize L[i] = x at *
      obtain ⟨c0, c1, c2, c3, c4, c5, c6, c7, c8, c9⟩ := ten
      obtain ⟨⟨t, p, r, q⟩, ⟨tm, dd, lc, kd, nn, ss⟩⟩ := x
      simp only [celEnc] at *
      have CALL := Lib.hid (GI.out wr (Below.trans HB.out (Below.mono HBw.out hBs)))
      go_wp2_with fail
      refine CALL.out.mono ?_
      rintro e w1 ⟨rfl, hb⟩
      have HB1 := Lib.hid (below_tr HBw.out hb); clear hb c0 c1 c2 c3 c4 c5 c6 c7 c8 c9
      cases bi with
      | true =>
        go_wp2_with fail
        go_ret
        exact ⟨_, rfl, YES.out (by trivial), HB1.out⟩
      | false =>
        have N := Lib.hid (NO.out (by trivial))
        go_wp2_with fail
        exact ⟨⟨i + 1, by first | rfl | go_num, by omega, N, HB1.out⟩, by simp [intOf]; omega⟩
    · have hz : ¬ (i : Int) < (L.length : Int) := by omega
      have e : L.take i = L := List.take_of_length_le (by omega)
      have hn := HN.out
      rw [e] at hn
      have FIN := Lib.hid (show IdxP L b (-1) from .inl ⟨rfl, hn⟩)
      clear hn e HN
      go_wp2_with fail
      go_ret
      exact ⟨_, rfl, FIN.out, HBw.out⟩

end Go.Proofs.YtplghaoflmaadaaGreatDoor
end

section
set_option linter.unusedVariables false
set_option linter.unusedSimpArgs false
set_option maxRecDepth 50000
namespace Go.Proofs.YtplghaoflmaadaaGreatDoor
open Go.RowKit Go.Sort
open Go.Lib hiding intOf

/-- the first n cells' keys grow -/
def IncC (L : List Cel) (n : Nat) : Prop := ∀ (i : Nat) (h : i + 1 < L.length), i + 1 < n → kcK (L[i]'(by omega)).k L[i + 1].k < 0

def SortB (L : List Cel) (w : World) (e : Ending) (w' : World) : Prop := ∃ b : Bool, e = .returned (.bool b) ∧ (b = true ↔ IncC L L.length) ∧ Below w.heap.size w w'

set_option maxHeartbeats 2000000 in
theorem sorted_any (v : Value) (L : List Cel) (w : World) (hv : SlX eC w.heap.size w v L) (hl : Room L.length) :
    Calls Tryz.prog 32 #[v] w (SortB L w) := by
  have HV := Lib.hid hv
  obtain ⟨a, cap, rfl, hc, hx⟩ := hv.ex
  have HX := Lib.hid hx; clear hx hv
  unfold Room at hl
  go_enter Tryz.func32, Tryz.ntmps32
  go_wp2_with fail
  go_loopw [3] (fun v3 wr => ∃ i : Nat, v3 = .int .i64 ((i + 1 : Nat) : Int) ∧ (i + 1 ≤ L.length ∨ i = 0) ∧ Hid (IncC L (i + 1)) ∧ Below w.heap.size w wr) (fun v3 _ => L.length + 1 - (intOf v3).toNat)
  case atStart => exact ⟨0, rfl, by omega, Lib.hid (fun i _ h => by omega), Below.refl _ _⟩
  case round =>
    obtain ⟨i, rfl, hi, HN, hb⟩ := hrel
    have HB := Lib.hid hb; clear hb
    by_cases hlt : i + 1 < L.length
    · have hz1 : (i : Int) < (L.length : Int) := by omega
      have hi0 : ¬ (i : Int) < 0 := by omega
      obtain ⟨gl, o, rfl, hgl2, _⟩ := HX.out (by omega)
      have tena := (Ten.of HV.out i (by omega)).keep HB.out
      have tenb := (Ten.of HV.out (i + 1) hlt).keep HB.out
      have KY := Lib.hid (fun (h : kcK (L[i]'(by omega)).k L[i + 1].k < 0) => show IncC L (i + 1 + 1) from fun j hj1 hj2 => by
        by_cases e : j = i
        · subst e; exact h
        · exact HN.out j hj1 (by omega))
      have KN := Lib.hid (fun (h : ¬ kcK (L[i]'(by omega)).k L[i + 1].k < 0) => show (false = true ↔ IncC L L.length) from ⟨fun h2 => by simp at h2, fun h2 => absurd (h2 i hlt hlt) h⟩)
      have C := Lib.hid (fun W => show Calls _ _ _ _ _ from Cmp_any (L[i]'(by omega)).k.t (L[i]'(by omega)).k.p (L[i]'(by omega)).k.c L[i + 1].k.t L[i + 1].k.p L[i + 1].k.c (L[i]'(by omega)).k.r L[i + 1].k.r W)
      have kE : kcK (L[i]'(by omega)).k L[i + 1].k = firstOf [cmpS (L[i]'(by omega)).k.t L[i + 1].k.t, cmpS (L[i]'(by omega)).k.p L[i + 1].k.p, cmpI (L[i]'(by omega)).k.r L[i + 1].k.r, cmpS (L[i]'(by omega)).k.c L[i + 1].k.c] := rfl
      rw [← kE] at C
      clear kE
      generalize kcK (L[i]'(by omega)).k L[i + 1].k = R at *
      generalize L[i + 1] = y at *
      generalize L[i]'(by omega) = x at *
      have ta := fun d os => tena.keep (below_regrown wr d os)
      have tb := fun d os => tenb.keep (below_regrown wr d os)
      clear tena tenb
      obtain ⟨⟨t, p, r, q⟩, ⟨x1, x2, x3, x4, x5, x6⟩⟩ := x
      obtain ⟨⟨t', p', r', q'⟩, ⟨y1, y2, y3, y4, y5, y6⟩⟩ := y
      have c0 := fun d os => (ta d os).c0; have c1 := fun d os => (ta d os).c1; have c2 := fun d os => (ta d os).c2; have c3 := fun d os => (ta d os).c3
      have d0 := fun d os => (tb d os).c0; have d1 := fun d os => (tb d os).c1; have d2 := fun d os => (tb d os).c2; have d3 := fun d os => (tb d os).c3
      clear ta tb
      simp only at *
      obtain ⟨j, hj⟩ : ∃ j, j = i + 1 := ⟨_, rfl⟩
      rw [← hj] at d0 d1 d2 d3
      have hz2 : (j : Int) < (L.length : Int) := by omega
      have hj0 : ¬ (j : Int) < 0 := by omega
      have e2 : IntKind.i64.wrap ((j : Int) - 1) = (i : Int) := by rw [IntKind.wrap_i64]; omega
      have e3 : 0 < j := by omega
      rw [← hj]
      have hjle : j < L.length := by omega
      have HJ := Lib.hid hj
      clear hj
      have q1 := Lib.hid (QP.of (W := wr) fun W' _ => C.out W')
      clear C
      by_cases h : R < 0
      · have KK := Lib.hid (KY.out h)
        have hr : ¬ 0 ≤ R := by omega
        clear KY KN h
        go_wp2_with fail
        refine wp_region_quiet_below (by kernel_rfl) (by kernel_rfl) ?_
        repeat (quiet_step (first | with_reducible exact q1.out.at _ _))
        refine wpQuiet_nil ?_
        intro w3 hw3
        have hb3 := regrown_below hw3
        clear hw3
        go_wp2_with fail
        have hj := HJ.out; exact ⟨⟨i + 1, by rw [← hj]; first | rfl | go_num, by omega, KK, below_tr HB.out hb3⟩, by simp [intOf]; omega⟩
      · have KK := Lib.hid (KN.out h)
        have hr : 0 ≤ R := by omega
        clear KY KN h
        go_wp2_with fail
        refine wp_region_quiet_below (by kernel_rfl) (by kernel_rfl) ?_
        repeat (quiet_step (first | with_reducible exact q1.out.at _ _))
        refine wpQuiet_nil ?_
        intro w3 hw3
        have hb3 := regrown_below hw3
        clear hw3
        go_wp2_with fail
        go_ret
        exact ⟨_, rfl, KK.out, below_tr HB.out hb3⟩
    · have hz : ¬ ((i + 1 : Nat) : Int) < (L.length : Int) := by omega
      have FIN := Lib.hid (show SortB L w (.returned (.bool true)) wr from ⟨true, rfl, ⟨fun _ j h1 h2 => HN.out j h1 (by omega), fun _ => rfl⟩, HB.out⟩)
      go_wp2_with fail
      go_ret
      exact FIN.out

set_option maxHeartbeats 2000000 in
theorem rsorted_any (v : Value) (L : List Cel) (w : World) (hv : SlX eC w.heap.size w v L) (hl : Room L.length) :
    Calls Tryz.prog 44 #[v] w (SortB L w) := by
  have HV := Lib.hid hv
  obtain ⟨a, cap, rfl, hc, hx⟩ := hv.ex
  have HX := Lib.hid hx; clear hx hv
  unfold Room at hl
  go_enter Tryz.func44, Tryz.ntmps44
  go_wp2_with fail
  go_loopw [3, 6] (fun _ v3 wr => ∃ i : Nat, v3 = .int .i64 (i : Int) ∧ i ≤ L.length ∧ Hid (IncC L i) ∧ Below w.heap.size w wr) (fun _ v3 _ => L.length + 1 - (intOf v3).toNat)
  case atStart => exact ⟨0, rfl, by omega, Lib.hid (fun i _ h => by omega), Below.refl _ _⟩
  case round =>
    obtain ⟨i, rfl, hi, HN, hb⟩ := hrel
    have HB := Lib.hid hb; clear hb
    by_cases hlt : i < L.length
    · rcases i with _ | i
      · have hz : (0 : Int) < (L.length : Int) := by omega
        obtain ⟨gl, o, rfl, hgl2, _⟩ := HX.out (by omega)
        have KK := Lib.hid (show IncC L (0 + 1) from fun j h1 h2 => by omega)
        have e0 : ((0 : Nat) : Int) = 0 := rfl
        rw [e0]
        go_wp2_with fail
        go_quiet (fail)
        go_wp2_with fail
        exact ⟨⟨0 + 1, by first | rfl | go_num, by omega, KK, below_drewN HB.out _⟩, by simp [intOf]⟩
      have hz1 : (i : Int) < (L.length : Int) := by omega
      have hi0 : ¬ (i : Int) < 0 := by omega
      obtain ⟨gl, o, rfl, hgl2, _⟩ := HX.out (by omega)
      have tena := (Ten.of HV.out i (by omega)).keep HB.out
      have tenb := (Ten.of HV.out (i + 1) hlt).keep HB.out
      have KY := Lib.hid (fun (h : kcK (L[i]'(by omega)).k L[i + 1].k < 0) => show IncC L (i + 1 + 1) from fun j hj1 hj2 => by
        by_cases e : j = i
        · subst e; exact h
        · exact HN.out j hj1 (by omega))
      have KN := Lib.hid (fun (h : ¬ kcK (L[i]'(by omega)).k L[i + 1].k < 0) => show (false = true ↔ IncC L L.length) from ⟨fun h2 => by simp at h2, fun h2 => absurd (h2 i hlt hlt) h⟩)
      have C := Lib.hid (fun W => show Calls _ _ _ _ _ from rCmp_any (L[i]'(by omega)).k.t (L[i]'(by omega)).k.p (L[i]'(by omega)).k.c L[i + 1].k.t L[i + 1].k.p L[i + 1].k.c (L[i]'(by omega)).k.r L[i + 1].k.r W)
      have kE : kcK (L[i]'(by omega)).k L[i + 1].k = cmpR (L[i]'(by omega)).k.t (L[i]'(by omega)).k.p (L[i]'(by omega)).k.c L[i + 1].k.t L[i + 1].k.p L[i + 1].k.c (L[i]'(by omega)).k.r L[i + 1].k.r := (kcmp_ref _ _ _ _ _ _ _ _).symm
      rw [← kE] at C
      clear kE
      generalize kcK (L[i]'(by omega)).k L[i + 1].k = R at *
      generalize L[i + 1] = y at *
      generalize L[i]'(by omega) = x at *
      have ta := fun d os => tena.keep (below_regrown wr d os)
      have tb := fun d os => tenb.keep (below_regrown wr d os)
      clear tena tenb
      obtain ⟨⟨t, p, r, q⟩, ⟨x1, x2, x3, x4, x5, x6⟩⟩ := x
      obtain ⟨⟨t', p', r', q'⟩, ⟨y1, y2, y3, y4, y5, y6⟩⟩ := y
      have c0 := fun d os => (ta d os).c0; have c1 := fun d os => (ta d os).c1; have c2 := fun d os => (ta d os).c2; have c3 := fun d os => (ta d os).c3
      have d0 := fun d os => (tb d os).c0; have d1 := fun d os => (tb d os).c1; have d2 := fun d os => (tb d os).c2; have d3 := fun d os => (tb d os).c3
      clear ta tb
      simp only at *
      obtain ⟨j, hj⟩ : ∃ j, j = i + 1 := ⟨_, rfl⟩
      rw [← hj] at d0 d1 d2 d3
      have hz2 : (j : Int) < (L.length : Int) := by omega
      have hj0 : ¬ (j : Int) < 0 := by omega
      have e2 : IntKind.i64.wrap ((j : Int) - 1) = (i : Int) := by rw [IntKind.wrap_i64]; omega
      have e3 : 0 < j := by omega
      rw [← hj]
      have hjle : j < L.length := by omega
      have HJ := Lib.hid hj
      clear hj
      have q1 := Lib.hid (QP.of (W := wr) fun W' _ => C.out W')
      clear C
      by_cases h : R < 0
      · have KK := Lib.hid (KY.out h)
        have hr : ¬ 0 ≤ R := by omega
        clear KY KN h
        go_wp2_with fail
        refine wp_region_quiet_below (by kernel_rfl) (by kernel_rfl) ?_
        repeat (quiet_step (first | with_reducible exact q1.out.at _ _))
        refine wpQuiet_nil ?_
        intro w3 hw3
        have hb3 := regrown_below hw3
        clear hw3
        go_wp2_with fail
        have hj := HJ.out; exact ⟨⟨i + 1 + 1, by rw [← hj]; first | rfl | go_num, by omega, KK, below_tr HB.out hb3⟩, by simp [intOf]; omega⟩
      · have KK := Lib.hid (KN.out h)
        have hr : 0 ≤ R := by omega
        clear KY KN h
        go_wp2_with fail
        refine wp_region_quiet_below (by kernel_rfl) (by kernel_rfl) ?_
        repeat (quiet_step (first | with_reducible exact q1.out.at _ _))
        refine wpQuiet_nil ?_
        intro w3 hw3
        have hb3 := regrown_below hw3
        clear hw3
        go_wp2_with fail
        go_ret
        exact ⟨_, rfl, KK.out, below_tr HB.out hb3⟩
    · have hz : ¬ (i : Int) < (L.length : Int) := by omega
      have FIN := Lib.hid (show SortB L w (.returned (.bool true)) wr from ⟨true, rfl, ⟨fun _ j h1 h2 => HN.out j h1 (by omega), fun _ => rfl⟩, HB.out⟩)
      go_wp2_with fail
      go_ret
      exact FIN.out

theorem bad_any (c : Cel) (w : World) (hc : CelT c) : Calls Tryz.prog 31 #[.agg (celEnc c).toArray] w fun e w' => e = .returned (.bool (!goodC c)) ∧ Below w.heap.size w w' := by
  have K := Lib.hid (fun W => goodC_any c W hc)
  have HB0 := Lib.hid (below_alloc (Below.refl _ w) (.cells (celEnc c).toArray 61))
  generalize goodC c = R at *
  obtain ⟨⟨t, p, r, q⟩, ⟨tm, d, lo, kd, n, s⟩⟩ := c
  simp only [celEnc] at *
  go_enter Tryz.func31, Tryz.ntmps31
  go_wp2_with fail
  refine (K.out _).mono ?_
  rintro e w1 ⟨rfl, hb⟩
  have HB := Lib.hid (below_tr HB0.out hb)
  clear hb
  go_wp2_with fail
  go_ret
  exact ⟨rfl, HB.out⟩

theorem hasC_any (f : Nat) (caps : Array Value) (eg : ∀ args w, (callFunc f args).run Tryz.prog w = .ok (.enter f args) w) (B : Nat) (w0 : World) (L : List Cel) (b : Cel → Bool) (v : Value) (w : World) (GA : Asks f caps B w0 L b) (hv : SlX eC w.heap.size w v L) (hB : Below B w0 w) (hBs : B ≤ w.heap.size) (hl : Room L.length) :
    Calls Tryz.prog 33 #[v, .func (.func f) #[] caps] w fun e w' => e = .returned (.bool (L.any b)) ∧ Below w.heap.size w w' := by
  have C := Lib.hid (idxG_any f caps eg B w0 L b v w GA hv hB hBs hl)
  clear GA hv hB
  go_enter Tryz.func33, Tryz.ntmps33
  go_wp2_with fail
  refine C.out.mono ?_
  rintro e w1 ⟨r, rfl, hr, hb⟩
  have HB := Lib.hid hb; have HR := Lib.hid hr
  clear hb hr
  go_wp2_with fail
  go_ret
  refine ⟨ret_b ?_, HB.out⟩
  rcases HR.out with ⟨rfl, h⟩ | ⟨k, hk, rfl, h1, _⟩
  · have : L.any b = false := by rw [List.any_eq_false]; intro x hx; rw [h x hx]; simp
    rw [this]; decide
  · have : L.any b = true := by rw [List.any_eq_true]; exact ⟨_, List.getElem_mem hk, h1⟩
    rw [this]; simp
end Go.Proofs.YtplghaoflmaadaaGreatDoor
end

section
set_option linter.unusedVariables false
set_option linter.unusedSimpArgs false
set_option maxRecDepth 50000
namespace Go.Proofs.YtplghaoflmaadaaGreatDoor
open Go.RowKit Go.Sort Go.Shelf
open Go.Lib hiding intOf
attribute [local go_sem] Oper.semAt_some

/-- cells that a table may have, and whose parts fit their frames -/
structure OkT (L : List Cel) : Prop where
  pos : 0 < L.length
  most : L.length ≤ 20000
  inc : IncC L L.length
  good : ∀ c ∈ L, goodC c = true
structure FitT (L : List Cel) : Prop where
  cin : ∀ c ∈ L, CelIn c
  ct : ∀ c ∈ L, CelT c
  keys : KeyS L
  flat : (L.flatMap cellL).length ≤ 120000
  idx : (indexL L).length ≤ 262144

/-- The state between two rounds: g is the writer, behind it lie the boxes of w, n and index, then Chunk's two. -/
structure WS (w : World) (g gl o len cap : Nat) (W : World) (ov iv : Value) (lo li : List UInt8) (n : Nat) : Prop where
  wr : Blk W g 75 #[ov, .bool false]
  bp : Blk W (g + 1) 73 #[.pointer (some ⟨g, 0, none⟩)]
  bn : Blk W (g + 2) 3 #[.int .i64 (n : Int)]
  bi : Blk W (g + 3) 29 #[iv]
  b1 : Blk W (g + 4) 22 #[.slice (some ⟨gl, o, none⟩) len cap]
  b2 : Blk W (g + 5) 3 #[.int .i64 8]
  own : OwnB W g ov lo
  owi : OwnB W g iv li
  ne : ∀ k, ov.ownBlock = some k → iv.ownBlock ≠ some k
  bel : Below g w W
theorem WS.grown {w : World} {g gl o len cap : Nat} {W W' : World} {ov iv : Value} {lo li : List UInt8} {n : Nat} (h : WS w g gl o len cap W ov iv lo li n) (hg0 : g ≤ w.heap.size) {row : Option Nat} (hg : W.grownBy W' row)
    (hr : ∀ r, row = some r → w.heap.size ≤ r ∧ ∃ o : Obj, W.heap[r]? = some o ∧ o.isCells = false) : WS w g gl o len cap W' ov iv lo li n :=
  have hr' : ∀ r, row = some r → ∃ o : Obj, W.heap[r]? = some o ∧ o.isCells = false := fun r e => (hr r e).2
  ⟨h.wr.own hg hr', h.bp.own hg hr', h.bn.own hg hr', h.bi.own hg hr', h.b1.own hg hr', h.b2.own hg hr', own_eB.1 (OwnX.own (own_eB.2 h.own) hg hr'), own_eB.1 (OwnX.own (own_eB.2 h.owi) hg hr'), h.ne, h.bel.grown hg (Nat.le_trans hg0 h.bel.size) (fun r e => Nat.le_trans hg0 (hr r e).1)⟩
theorem WS.below {w : World} {g gl o len cap : Nat} {W W' : World} {ov iv : Value} {lo li : List UInt8} {n : Nat} (h : WS w g gl o len cap W ov iv lo li n) (hg0 : g ≤ w.heap.size) (hb : Below W.heap.size W W') : WS w g gl o len cap W' ov iv lo li n :=
  ⟨h.wr.below hb, h.bp.below hb, h.bn.below hb, h.bi.below hb, h.b1.below hb, h.b2.below hb, h.own.below hb, h.owi.below hb, h.ne, h.bel.trans (hb.mono (Nat.le_trans hg0 h.bel.size))⟩
theorem WS.kp {w : World} {g gl o len cap : Nat} {W W' : World} {ov iv ov' iv' : Value} {lo li lo' li' : List UInt8} {n n' : Nat} (h : WS w g gl o len cap W ov iv lo li n) (h' : WS w g gl o len cap W' ov' iv' lo' li' n') : KpC (g + 4) (g + 5) W W' :=
  ⟨(h'.b1.cell 0 rfl).trans (h.b1.cell 0 rfl).symm, (h'.b2.cell 0 rfl).trans (h.b2.cell 0 rfl).symm⟩
/-- behind a frame -/
theorem WS.framed {w : World} {g gl o len cap : Nat} {W W' : World} {ov iv ov' : Value} {lo li lo' : List UInt8} {n : Nat} (h : WS w g gl o len cap W ov iv lo li n) (hg0 : g ≤ w.heap.size) (hf : Framed g g ov W lo' ov' W') : WS w g gl o len cap W' ov' iv lo' li n := by
  have e1 := h.bp.ne_own (own_eB.2 h.own) (by decide)
  have e2 := h.bn.ne_own (own_eB.2 h.own) (by decide)
  have e3 := h.bi.ne_own (own_eB.2 h.own) (by decide)
  have e4 := h.b1.ne_own (own_eB.2 h.own) (by decide)
  have e5 := h.b2.ne_own (own_eB.2 h.own) (by decide)
  have hi := h.owi
  refine ⟨hf.blk, h.bp.but hf.but ?_, h.bn.but hf.but ?_, h.bi.but hf.but ?_, h.b1.but hf.but ?_, h.b2.but hf.but ?_, hf.own, ?_, ?_, ?_⟩
  · rintro (h0 | h0); omega; exact e1 h0.symm
  · rintro (h0 | h0); omega; exact e2 h0.symm
  · rintro (h0 | h0); omega; exact e3 h0.symm
  · rintro (h0 | h0); omega; exact e4 h0.symm
  · rintro (h0 | h0); omega; exact e5 h0.symm
  · have nw : ∀ k, iv.ownBlock = some k → ¬ (k = g ∨ ov.ownBlock = some k) := by
      rintro k hk (h0 | h0)
      · subst h0; exact h.wr.ne_own (own_eB.2 hi) (by decide) hk.symm
      · exact h.ne k h0 hk
    rcases hi.2 with ⟨e, h0⟩ | ⟨gi, ci, cur, e, hbi, hgi, hnc, hcm, hcs, htk⟩
    · subst e; exact ⟨hi.1, .inl ⟨rfl, h0⟩⟩
    · subst e
      exact ⟨hi.1, .inr ⟨gi, ci, cur, rfl, hbi, (hf.but.block gi (Array.getElem?_eq_some_iff.1 hgi).1 (nw gi rfl)).trans hgi, hnc, hcm, hcs, htk⟩⟩
  · intro k hk hi2
    rcases hf.new with h0 | h0
    · exact h.ne k (by rw [← h0]; exact hk) hi2
    · have := h0 k hk
      rcases hi.2 with ⟨e, _⟩ | ⟨gi, ci, cur, e, hbi, hgi, _⟩
      · subst e; cases hi2
      · subst e
        have e6 : gi = k := by simpa [Value.ownBlock] using hi2
        subst e6
        have := (Array.getElem?_eq_some_iff.1 hgi).1
        omega
  · refine h.bel.trans (hf.but.below (Nat.le_trans hg0 h.bel.size) ?_)
    rintro k (h0 | h0)
    · omega
    · exact (OwnX.base (own_eB.2 h.own) k h0)
/-- behind a store of index and of n -/
theorem WS.index {w : World} {g gl o len cap : Nat} {W : World} {ov iv : Value} {lo li li' : List UInt8} {n : Nat} (h : WS w g gl o len cap W ov iv lo li n) (hg0 : g ≤ w.heap.size) (iv' : Value) (hi : OwnB W g iv' li') (hne : ∀ k, ov.ownBlock = some k → iv'.ownBlock ≠ some k) :
    WS w g gl o len cap (W.setCell ⟨g + 3, 0, none⟩ iv') ov iv' lo li' n := by
  have hgr := Lib.grownBy_setCell W (g + 3) 0 iv'
  have n1 := h.bi.ne_own (own_eB.2 h.own) (by decide)
  have n2 := h.bi.ne_own (own_eB.2 hi) (by decide)
  exact ⟨h.wr.far (by simp) _, h.bp.far (by simp) _, h.bn.far (by simp) _, h.bi.put 0 _, h.b1.far (by simp) _, h.b2.far (by simp) _, own_eB.1 ((own_eB.2 h.own).grown hgr (.inr (Ne.symm n1))), own_eB.1 ((own_eB.2 hi).grown hgr (.inr (Ne.symm n2))), hne, h.bel.setCell (p := ⟨g + 3, 0, none⟩) (by simp) _⟩
theorem WS.count {w : World} {g gl o len cap : Nat} {W : World} {ov iv : Value} {lo li : List UInt8} {n : Nat} (h : WS w g gl o len cap W ov iv lo li n) (hg0 : g ≤ w.heap.size) (n' : Nat) :
    WS w g gl o len cap (W.setCell ⟨g + 2, 0, none⟩ (.int .i64 (n' : Int))) ov iv lo li n' := by
  have hgr := Lib.grownBy_setCell W (g + 2) 0 (.int .i64 (n' : Int))
  have n1 := h.bn.ne_own (own_eB.2 h.own) (by decide)
  have n2 := h.bn.ne_own (own_eB.2 h.owi) (by decide)
  exact ⟨h.wr.far (by simp) _, h.bp.far (by simp) _, h.bn.put 0 _, h.bi.far (by simp) _, h.b1.far (by simp) _, h.b2.far (by simp) _, own_eB.1 ((own_eB.2 h.own).grown hgr (.inr (Ne.symm n1))), own_eB.1 ((own_eB.2 h.owi).grown hgr (.inr (Ne.symm n2))), h.ne, h.bel.setCell (p := ⟨g + 2, 0, none⟩) (by simp) _⟩

/-- the k-th block; plain facts of blocks -/
def ckL (L : List Cel) (k : Nat) : List Cel := (L.drop (8 * k)).take 8
theorem ckL_len (L : List Cel) (k : Nat) : (ckL L k).length = min 8 (L.length - 8 * k) := by simp [ckL]
theorem ckL_mem (L : List Cel) (k : Nat) (c : Cel) (h : c ∈ ckL L k) : c ∈ L := List.mem_of_mem_drop (List.mem_of_mem_take h)
theorem flat_drop (L : List Cel) (n : Nat) : ((L.drop n).flatMap cellL).length ≤ (L.flatMap cellL).length := by
  conv => rhs; rw [← List.take_append_drop n L, List.flatMap_append, List.length_append]
  omega
theorem flat_take (L : List Cel) (n : Nat) : ((L.take n).flatMap cellL).length ≤ (L.flatMap cellL).length := by
  conv => rhs; rw [← List.take_append_drop n L, List.flatMap_append, List.length_append]
  omega
theorem ckL_flat (L : List Cel) (k : Nat) : ((ckL L k).flatMap cellL).length ≤ (L.flatMap cellL).length := Nat.le_trans (flat_take _ _) (flat_drop _ _)
theorem cellsL_len (b : List Cel) (h : b.length < 1000000) : (cellsL b).length ≤ (b.flatMap cellL).length + 10 := by
  have := putL_len 9 b.length (by omega)
  unfold cellsL; rw [List.length_append]; omega
theorem chunk8_get : ∀ (n : Nat) (L : List Cel), L.length ≤ n → ∀ m, m = (L.length + 7) / 8 → chunk8 L = (List.range m).map (ckL L)
  | 0, L, h, m, hm => by
    obtain rfl := List.length_eq_zero_iff.1 (Nat.le_zero.1 h)
    rw [chunk8_nil, hm]; rfl
  | n + 1, L, h, m, hm => by
    by_cases h0 : 0 < L.length
    · obtain ⟨m', rfl⟩ : ∃ m', m = m' + 1 := ⟨m - 1, by omega⟩
      rw [chunk8_step L h0, chunk8_get n (L.drop 8) (by simp; omega) m' (by simp; omega), List.range_succ_eq_map]
      simp only [List.map_cons, List.map_map]
      congr 1
      refine List.map_congr_left fun k _ => ?_
      simp only [Function.comp, ckL, List.drop_drop]
      congr 2
      omega
    · obtain rfl := List.length_eq_zero_iff.1 (by omega : L.length = 0)
      rw [chunk8_nil, hm]; rfl
theorem upC_val (n : Nat) : ∀ m, m ≤ (n + 7) / 8 → (upC n m).map (·.1) = List.range m
  | 0, _ => rfl
  | m + 1, h => by rw [upC_succ (show 8 * m < n by omega), List.map_append, upC_val n m (by omega), List.range_succ]; rfl
theorem up_flat {β : Type} (L : List Cel) (f : List Cel → List β) : ((upC L.length ((L.length + 7) / 8)).flatMap fun x => f (ckL L x.1)) = (chunk8 L).flatMap f := by
  rw [chunk8_get L.length L (Nat.le_refl _) _ rfl, ← upC_val L.length _ (Nat.le_refl _), List.map_map, List.flatMap_map]
  rfl
theorem flatMap_le {α : Type} (f : α → List UInt8) (c : Nat) (h : ∀ x, (f x).length ≤ c) : ∀ l : List α, (l.flatMap f).length ≤ l.length * c
  | [] => by simp
  | x :: l => by
    have := flatMap_le f c h l; have := h x
    rw [List.flatMap_cons, List.length_append, List.length_cons, Nat.succ_mul]; omega

theorem textL_len (b : List UInt8) (h : b.length < 1000000) : (textL b).length ≤ b.length + 10 := by
  have := putL_len 9 b.length (by omega)
  unfold textL; rw [List.length_append]; omega
theorem entry_head (b : List Cel) (h : 0 < b.length) : entryL b = textL (kyL b[0].k) ++ putL (frameL (cellsL b)).length := by
  cases b with
  | nil => simp at h
  | cons c b => rfl
theorem cellL_key (c : Cel) : c.k.t.size + c.k.p.size + c.k.c.size ≤ (cellL c).length := by
  unfold cellL textL
  simp only [List.length_append, str_len]
  omega
theorem flat_mem {L : List Cel} {c : Cel} (h : c ∈ L) : (cellL c).length ≤ (L.flatMap cellL).length := by
  obtain ⟨a, b, rfl⟩ := List.append_of_mem h
  simp only [List.flatMap_append, List.flatMap_cons, List.length_append]
  omega
theorem entryL_len (b : List Cel) (h0 : 0 < b.length) {F : Nat} (hF : F ≤ 120000) (hb : (b.flatMap cellL).length ≤ F) : (entryL b).length ≤ 400000 := by
  cases b with
  | nil => simp at h0
  | cons c b =>
    have h1 := kyL_len c.k
    have h2 := cellL_key c
    have h3 := flat_mem (show c ∈ c :: b from List.mem_cons_self ..)
    have h4 := textL_len (kyL c.k) (by omega)
    have h5 : (putL (blockL (c :: b)).length).length ≤ 10 := putL_len 9 _ (by
      unfold blockL frameL
      split
      · rename_i hh; simp only [List.length_append, fourL_length]; omega
      · simp)
    simp only [entryL, List.length_append]
    omega
theorem OwnX.lt {α : Type} {E : El α} {W : World} {base : Nat} {v : Value} {l : List α} (h : OwnX E W base v l) (k : Nat) (hk : v.ownBlock = some k) : k < W.heap.size := (World.ownsRow.lt h k hk).2

/-- the loop's invariant -/
def WI (w : World) (g gl o len cap : Nat) (L : List Cel) (pre : List (Ck len)) (W : World) : Prop := ∃ ov iv, WS w g gl o len cap W ov iv (pre.flatMap fun x => blockL (ckL L x.1)) (pre.flatMap fun x => entryL (ckL L x.1)) pre.length

/-- The state behind the loop: the sizes lie at s, the rounds' mark at D. -/
structure TS (w : World) (g gl o len cap s D : Nat) (W : World) (ov iv : Value) (lo li : List UInt8) (n : Nat) (a b c d : Int) : Prop where
  ws : WS w g gl o len cap W ov iv lo li n
  sz : Blk W s 3 #[.int .i64 a, .int .i64 b, .int .i64 c, .int .i64 d]
  dk : W.heap[D]? = some (.deferred (some []))
  sg : g + 5 < s
section
variable {w : World} {g gl o len cap s D : Nat} {W W' : World} {ov iv ov' : Value} {lo li lo' : List UInt8} {n : Nat} {a b c d : Int}
theorem TS.below (h : TS w g gl o len cap s D W ov iv lo li n a b c d) (hg0 : g ≤ w.heap.size) (hb : Below W.heap.size W W') : TS w g gl o len cap s D W' ov iv lo li n a b c d :=
  ⟨h.ws.below hg0 hb, h.sz.below hb, (hb.block D (Array.getElem?_eq_some_iff.1 h.dk).1).trans h.dk, h.sg⟩
theorem TS.framed (h : TS w g gl o len cap s D W ov iv lo li n a b c d) (hg0 : g ≤ w.heap.size) (hf : Framed g g ov W lo' ov' W') : TS w g gl o len cap s D W' ov' iv lo' li n a b c d := by
  have hsg := h.sg
  refine ⟨h.ws.framed hg0 hf, h.sz.but hf.but ?_, (hf.but.block D (Array.getElem?_eq_some_iff.1 h.dk).1 ?_).trans h.dk, h.sg⟩
  · rintro (h0 | h0)
    · omega
    · exact h.sz.ne_own (own_eB.2 h.ws.own) (by decide) h0.symm
  · rintro (h0 | h0)
    · have := h.ws.wr; have h2 := h.dk; rw [h0] at h2; unfold Blk at this; rw [this] at h2; cases h2
    · have := OwnX.cells_of (own_eB.2 h.ws.own) h0 h.dk; cases this
theorem WS.far (h : WS w g gl o len cap W ov iv lo li n) {s j : Nat} (hs : g + 5 < s) (u : Value) (hn1 : some s ≠ ov.ownBlock) (hn2 : some s ≠ iv.ownBlock) : WS w g gl o len cap (W.setCell ⟨s, j, none⟩ u) ov iv lo li n := by
  have hgr := Lib.grownBy_setCell W s j u
  exact ⟨h.wr.far (by simp; omega) _, h.bp.far (by simp; omega) _, h.bn.far (by simp; omega) _, h.bi.far (by simp; omega) _, h.b1.far (by simp; omega) _, h.b2.far (by simp; omega) _, own_eB.1 ((own_eB.2 h.own).grown hgr (.inr (Ne.symm hn1))), own_eB.1 ((own_eB.2 h.owi).grown hgr (.inr (Ne.symm hn2))), h.ne, h.bel.setCell (p := ⟨s, j, none⟩) (by simp; omega) _⟩
theorem TS.at2 (h : TS w g gl o len cap s D W ov iv lo li n a b c d) (u : Int) : TS w g gl o len cap s D (W.setCell ⟨s, 2, none⟩ (.int .i64 u)) ov iv lo li n a b u d :=
  ⟨h.ws.far h.sg _ (h.sz.ne_own (own_eB.2 h.ws.own) (by decide)) (h.sz.ne_own (own_eB.2 h.ws.owi) (by decide)), h.sz.put 2 _, (Below.heap_setCell _ _ _ _ (fun e => by have := h.sz; have h2 := h.dk; simp only at e; rw [e] at h2; unfold Blk at this; rw [this] at h2; cases h2)).trans h.dk, h.sg⟩
theorem TS.at3 (h : TS w g gl o len cap s D W ov iv lo li n a b c d) (u : Int) : TS w g gl o len cap s D (W.setCell ⟨s, 3, none⟩ (.int .i64 u)) ov iv lo li n a b c u :=
  ⟨h.ws.far h.sg _ (h.sz.ne_own (own_eB.2 h.ws.own) (by decide)) (h.sz.ne_own (own_eB.2 h.ws.owi) (by decide)), h.sz.put 3 _, (Below.heap_setCell _ _ _ _ (fun e => by have := h.sz; have h2 := h.dk; simp only at e; rw [e] at h2; unfold Blk at this; rw [this] at h2; cases h2)).trans h.dk, h.sg⟩
theorem TS.three (h : TS w g gl o len cap s D W ov iv lo li n a b c d) : W.cell? ⟨g + 1, 0, none⟩ = some (.pointer (some ⟨g, 0, none⟩)) ∧ W.cell? ⟨g + 2, 0, none⟩ = some (.int .i64 (n : Int)) ∧ W.cell? ⟨g + 3, 0, none⟩ = some iv :=
  ⟨h.ws.bp.cell 0 rfl, h.ws.bn.cell 0 rfl, h.ws.bi.cell 0 rfl⟩
theorem TS.num {a b c d : Nat} (h : TS w g gl o len cap s D W ov iv lo li n (a : Int) (b : Int) (c : Int) (d : Int)) (i : Nat) (hi : i < 4) :
    ∃ u : Nat, W.cell? ⟨s, i, none⟩ = some (.int .i64 (u : Int)) ∧ ([a, b, c, d].take (i + 1)).flatMap putL = ([a, b, c, d].take i).flatMap putL ++ putL u ∧ u ∈ [a, b, c, d] := by
  rcases i with _ | _ | _ | _ | i
  · exact ⟨a, h.sz.cell 0 rfl, by simp, by simp⟩
  · exact ⟨b, h.sz.cell 1 rfl, by simp, by simp⟩
  · exact ⟨c, h.sz.cell 2 rfl, by simp, by simp⟩
  · exact ⟨d, h.sz.cell 3 rfl, by simp, by simp⟩
  · omega
end
theorem indexL_eq (L : List Cel) : indexL L = putL (chunk8 L).length ++ (chunk8 L).flatMap entryL := rfl
theorem filtL_len (L : List Cel) (h : L.length ≤ 20000) : (filtL L).length ≤ 262144 := by
  have h1 : (bitsL L).length = max ((L.length * 10 + 7) / 8) 1 := by rw [bitsL, filtF_length]; simp
  have h2 := putL_len 9 7 (by omega)
  have h3 := putL_len 9 (bitsL L).length (by omega)
  unfold filtL; simp only [List.length_append]; omega
theorem blocksL_pos (L : List Cel) (h : 0 < L.length) (hf : (L.flatMap cellL).length ≤ 120000) : 0 < (blocksL L).length := by
  unfold blocksL
  rw [chunk8_step L h, List.flatMap_cons, List.length_append]
  have h1 := cellsL_len (L.take 8) (by simp; omega)
  have h2 := flat_take L 8
  have := frameL_pos (cellsL (L.take 8)) (by omega)
  unfold blockL; omega
theorem index_pos (L : List Cel) (h : 0 < L.length) : 0 < ((chunk8 L).flatMap entryL).length := by
  rw [chunk8_step L h, List.flatMap_cons, List.length_append]
  have hl : 0 < (L.take 8).length := by simp; omega
  rw [entry_head _ hl, List.length_append]
  have := putL_pos (frameL (cellsL (L.take 8))).length
  omega

theorem dk_grow {α : Type} {E : El α} {W W' : World} {base D : Nat} {v v' : Value} {l : List α} (h : W.heap[D]? = some (.deferred (some []))) (ho : OwnX E W base v l) (hg : GrowV W W' v v') : W'.heap[D]? = some (.deferred (some [])) :=
  (hg.1.block D (Array.getElem?_eq_some_iff.1 h).1 (fun e => by have := OwnX.cells_of ho e.symm h; cases this)).trans h
theorem blocks_len : ∀ bs : List (List Cel), (∀ b ∈ bs, b.length < 1000000 ∧ (b.flatMap cellL).length ≤ 120000) → (bs.flatMap blockL).length ≤ (bs.flatten.flatMap cellL).length + 18 * bs.length
  | [], _ => by simp
  | b :: bs, h => by
    have ih := blocks_len bs (fun x hx => h x (List.mem_cons_of_mem _ hx))
    obtain ⟨h1, h2⟩ := h b (List.mem_cons_self ..)
    have h3 := cellsL_len b h1
    have h4 : (blockL b).length = (cellsL b).length + 8 := by unfold blockL; exact frameL_length _ (by omega)
    rw [List.flatMap_cons, List.length_append, List.flatten_cons, List.flatMap_append, List.length_append, List.length_cons, h4]
    omega
theorem outL_len (L : List Cel) (h : L.length ≤ 20000) (hf : (L.flatMap cellL).length ≤ 120000) (hi : (indexL L).length ≤ 262144) : (outL L).length ≤ 700000 := by
  have h1 := blocks_len (chunk8 L) (fun b hb => by
    rw [chunk8_get L.length L (Nat.le_refl _) _ rfl] at hb
    obtain ⟨k, _, rfl⟩ := List.mem_map.1 hb
    exact ⟨by rw [ckL_len]; omega, Nat.le_trans (ckL_flat L k) hf⟩)
  rw [chunk8_flat L.length L (Nat.le_refl _), chunk8_length L.length L (Nat.le_refl _)] at h1
  have h2 := filtL_len L h
  unfold outL
  rw [List.length_append, List.length_append, frameL_length _ hi, frameL_length _ h2]
  unfold blocksL
  omega
theorem sumN_val (b : List UInt8) : (4294967295 - crcL 4294967295 b : Int) = (sumN b : Int) ∧ sumN b < 4294967296 := by
  have := crcL_range b 4294967295 (by omega) (by omega)
  unfold sumN; omega
theorem endL_len (L : List Cel) (h : L.length ≤ 20000) (hf : (L.flatMap cellL).length ≤ 120000) (hi : (indexL L).length ≤ 262144) : (endL L).length ≤ 50 := by
  have ho := outL_len L h hf hi
  unfold outL at ho
  rw [List.length_append, List.length_append] at ho
  have h1 := putL_len 9 L.length (by omega)
  have h2 := putL_len 9 (blocksL L).length (by omega)
  have h3 := putL_len 9 (frameL (indexL L)).length (by omega)
  have h4 := putL_len 9 (frameL (filtL L)).length (by omega)
  have h5 := putL_len 9 (sumN (outL L)) (by have := (sumN_val (outL L)).2; omega)
  unfold endL numsL
  simp only [List.flatMap_cons, List.flatMap_nil, List.length_append, List.length_nil]
  omega
end Go.Proofs.YtplghaoflmaadaaGreatDoor
end
