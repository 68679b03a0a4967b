/- A law of regions that draw their order: all operations but a forced tail leave S standing; the tail is walked in its one order, whatever it does to S. It speaks of no program; no condition. Contract of hints' Add, wherever the power fails. Conditions: as told. -/
import Derived.Test.YtefndmjimmbhnaaZ09
import Derived.Deep.RegionHeld
import Derived.Test.YtefndmjimmbhnaaZ42
section
set_option linter.unusedVariables false
set_option linter.unusedSimpArgs false
namespace Go.Proofs.Ytefndmjimmbhnaa
open Go.RowKit Go.Sort Go

section
variable {P : Program} {ops : Array Oper} {md : Region.Mode} {S : World → Prop} {Q : Exit → Act → World → Prop}
/-- Whatever order is picked, S holds behind every operation, until all ahead of place n have come up; then the tail, in its one order. -/
def heldT (P : Program) (md : Region.Mode) (ops : Array Oper) (Q : Exit → Act → World → Prop) (S : World → Prop) (l : List Oper) (n g : Nat) : Nat → Array Bool → Act → World → Prop
  | 0, listed, a, w => Region.seqB md ops g n listed = true ∧ wpList P ops Q (l.drop n) a w
  | f + 1, listed, a, w => Region.ready md ops listed ≠ [] ∧ ∀ i, i ∈ Region.ready md ops listed → wpOp P ops Q i (fun a' w' => S w' ∧ heldT P md ops Q S l n g f (listed.setIfInBounds i true) a' w') a w
theorem heldT_any {l : List Oper} {n g : Nat} (hl : l.toArray = ops) (hg : (l.drop n).length = g) : ∀ (f : Nat) (listed : Array Bool) (a : Act) (w : World), heldT P md ops Q S l n g f listed a w → wpAny P md ops Q (f + g) listed a w
  | 0, listed, a, w, h => by
    subst hl
    rw [Nat.zero_add]
    subst hg
    exact wpAny_of_seq (md := md) (l.drop n) n listed a w (fun j => by simp [List.getElem?_drop]) h.1 h.2
  | f + 1, listed, a, w, h => by
    rw [show f + 1 + g = (f + g) + 1 by omega]
    exact ⟨fun h0 => absurd h0 h.1, fun i hi => wpOp_mono (fun a' w' h' => heldT_any hl hg f _ a' w' h'.2) (h.2 i hi)⟩
theorem heldT_take {l : List Oper} {n g i : Nat} {oi : Oper} {v : Value} (hi : ops[i]? = some oi) (hsel : Region.noSelect ops = true)
    (hs : Region.sinkB md ops n = true) (hc : Region.chainB md ops n = true) (hn : n < ops.size) (hin : i < n)
    (hQ : ∀ c a w, Q (.panic c) (a.put oi.dst v) w → Q (.panic c) a w) (f : Nat) :
    ∀ (listed : Array Bool) (a : Act) (w : World), HeadInv md ops n listed → (∀ j oj, ops[j]? = some oj → j ≠ i → listed.getD j true = false → (∀ e ∈ oj.after, Region.binds md e = true → e.on ≠ i) → oi.apart ops oj = true) →
      i ∈ Region.ready md ops listed → YieldsIf P ops S oi v a → S w → heldT P md ops Q S l n g f (listed.setIfInBounds i true) (a.put oi.dst v) w → heldT P md ops Q S l n g (f + 1) listed a w := by
  have SEL := Region.noSelect_spec hsel
  induction f with
  | zero =>
    intro listed a w inv _ hr hy hS H
    have hun := (mem_ready.1 hr).1
    refine ⟨List.ne_nil_of_mem hr, fun j hj => ?_⟩
    have hjn : j < n := Nat.lt_of_not_le fun h => tail_waits hs hc hn inv _ i rfl hin hun j h hj
    by_cases e : j = i
    · subst e; exact hy.wpOp hi hS ⟨hS, H⟩
    · exact absurd (seqB_ready H.1 j (ready_mono hj e)) (by omega)
  | succ f ih =>
    intro listed a w inv hfree hr hy hS H
    have hun := (mem_ready.1 hr).1
    refine ⟨List.ne_nil_of_mem hr, fun j hj => ?_⟩
    have hjn : j < n := Nat.lt_of_not_le fun h => tail_waits hs hc hn inv _ i rfl hin hun j h hj
    by_cases e : j = i
    · subst e; exact hy.wpOp hi hS ⟨hS, H⟩
    · obtain ⟨hjun, oj, hoj, hafter⟩ := mem_ready.1 hj
      have hno : ∀ e ∈ oj.after, Region.binds md e = true → e.on ≠ i := fun e he hb heq => by
        have := hafter e he hb
        rw [heq, getD_both hun] at this
        cases this
      have h2 := wpOp_putIf hoj (hfree j oj hoj e hjun hno) (fun cs b => SEL i oi cs b hi) (fun cs b => SEL j oj cs b hoj) hQ hy (H.2 j (ready_mono hj e))
      refine wpOp_mono (fun a' w' h3 => ⟨h3.2.1, ih (listed.setIfInBounds j true) a' w' (inv.set hj hjn) (fun k ok hk hki hku hkno => hfree k ok hk hki ?_ hkno) (ready_mono hr (Ne.symm e)) h3.1 h3.2.1 ?_⟩) h2
      · by_cases hjk : j = k
        · subst hjk; exact hjun
        · rwa [getD_set_ne true hjk] at hku
      · rw [Array.setIfInBounds_comm _ _ e]; exact h3.2.2

/-- the same, told with what has come up so far -/
structure Held (P : Program) (md : Region.Mode) (ops : Array Oper) (Q : Exit → Act → World → Prop) (S : World → Prop) (l : List Oper) (n g f : Nat) (listed : Array Bool) (a : Act) (w : World) : Prop where
  out : HeadInv md ops n listed → heldT P md ops Q S l n g f listed a w
theorem held_take {l : List Oper} {n g f i : Nat} {oi : Oper} {v : Value} {listed : Array Bool} {a : Act} {w : World} (hi : ops[i]? = some oi) (hB : (Region.noSelect ops && Region.sinkB md ops n && Region.chainB md ops n && decide (n < ops.size) && decide (i < n)) = true)
    (hf : Region.free md ops listed i = true) (hr : (Region.ready md ops listed).contains i = true) (hQ : ∀ c a w, Q (.panic c) (a.put oi.dst v) w → Q (.panic c) a w) (hy : YieldsIf P ops S oi v a) (hS : S w)
    (h : Held P md ops Q S l n g f (listed.setIfInBounds i true) (a.put oi.dst v) w) : Held P md ops Q S l n g (f + 1) listed a w := by
  simp only [Bool.and_eq_true, decide_eq_true_eq] at hB
  obtain ⟨⟨⟨⟨b1, b2⟩, b3⟩, b4⟩, b5⟩ := hB
  exact ⟨fun inv => heldT_take hi b1 b2 b3 b4 b5 hQ f listed a w inv (Region.free_spec hi hf) (by simpa using hr) hy hS (h.out (inv.set (by simpa using hr) b5))⟩
/-- whichever may come up -/
def ReadyT (P : Program) (md : Region.Mode) (ops : Array Oper) (Q : Exit → Act → World → Prop) (S : World → Prop) (l : List Oper) (n g f : Nat) (listed : Array Bool) (a : Act) (w : World) (rs : List Nat) : Prop :=
  ∀ i ∈ rs, wpOp P ops Q i (fun a' w' => S w' ∧ Held P md ops Q S l n g f (listed.setIfInBounds i true) a' w') a w
theorem ReadyT.nil {l : List Oper} {n g f : Nat} {listed : Array Bool} {a : Act} {w : World} : ReadyT P md ops Q S l n g f listed a w [] := fun _ h => by cases h
theorem ReadyT.cons {l : List Oper} {n g f : Nat} {listed : Array Bool} {a : Act} {w : World} {i : Nat} {o : Oper} {rs : List Nat} (ho : ops[i]? = some o)
    (h : ∀ K' : Act → World → Prop, Shut (∀ a w, S w → (S w → Held P md ops Q S l n g f (listed.setIfInBounds i true) a w) → K' a w) → if Region.wanted o (yielded ops a.tmps) = true then Oper.wp P o a w K' Q else K' (a.put o.dst undef) w)
    (hs : ReadyT P md ops Q S l n g f listed a w rs) : ReadyT P md ops Q S l n g f listed a w (i :: rs) := fun j hj => by
  rcases List.mem_cons.1 hj with rfl | hj
  · exact wpOp_step ho (fun K' hK => h K' (fun a w hS hW => hK a w ⟨hS, hW hS⟩))
  · exact hs j hj
theorem held_ready {l : List Oper} {n g f : Nat} {rs : List Nat} {listed : Array Bool} {a : Act} {w : World} (hr : Region.ready md ops listed = rs) (hne : rs ≠ []) (hlt : ∀ i ∈ rs, i < n)
    (h : ReadyT P md ops Q S l n g f listed a w rs) : Held P md ops Q S l n g (f + 1) listed a w := ⟨fun inv =>
  ⟨by rw [hr]; exact hne, fun i hi => wpOp_mono (fun a' w' h' => ⟨h'.1, h'.2.out (inv.set hi (hlt i (hr ▸ hi)))⟩) (h i (hr ▸ hi))⟩⟩
/-- all ahead of the tail have come up -/
theorem held_tail {l : List Oper} {n g : Nat} {listed : Array Bool} {a : Act} {w : World} (hB : Region.seqB md ops g n listed = true) (h : wpList P ops Q (l.drop n) a w) : Held P md ops Q S l n g 0 listed a w := ⟨fun _ => ⟨hB, h⟩⟩
/-- the beginning -/
theorem wp_region_held_tail {id : Nat} {a : Act} {w : World} {l : List Oper} (n : Nat) (hm : P.follows .mixedOrders = true) (hn : n ≤ l.length) (hS : S w.drew)
    (h : S w.drew → Held P .any l.toArray Q S l n (l.length - n) n (Array.replicate l.length false) a w.drew) : (Code.region id l.toArray true).wp P Q a w := by
  have inv0 : HeadInv .any l.toArray n (Array.replicate l.length false) :=
    ⟨by simp, fun j oj _ hl => (by rw [getD_replicate_false] at hl; cases hl), fun t _ ht => getD_in (by simpa using ht) (getD_replicate_false _ _)⟩
  refine wp_region_any hm ?_
  have := heldT_any (Q := Q) (S := S) rfl (by simp) _ _ _ _ ((h hS).out inv0)
  rw [show n + (l.length - n) = l.toArray.size by simp; omega] at this
  rw [show l.toArray.size = l.length by simp] at this ⊢
  exact this
end
end Go.Proofs.Ytefndmjimmbhnaa
end

section
set_option linter.unusedVariables false
set_option linter.unusedSimpArgs false
set_option maxRecDepth 50000
namespace Go.Proofs.Ytefndmjimmbhnaa
open Go.RowKit Go.Shelf

theorem InW.alloc {W w : World} (h : InW W w) (o : Obj) : InW W (w.alloc o) := below_alloc h o
theorem one_lit (w : World) (i n t : Int) (a : Option Addr) (k c : Nat) : OwnX eT (w.alloc (.cells #[.int .i64 i, .int .i64 n, .int .i64 t, .slice a k c] 64)) w.heap.size (.slice (some ⟨w.heap.size, 0, none⟩) 1 1) [⟨i, n, t, a, k, c⟩] :=
  OwnX.lit w w.heap.size _ _ 1 (Nat.le_refl _) rfl (by simp) rfl
def AddPost (D : Dsk) (gh : Nat) (nx : Int) (l l2 : List Hn) (K : Nat) (R p k : Int) (o : Option (List UInt8)) (x : List UInt8) (w : World) (e : Ending) (w' : World) : Prop :=
  ∃ m, HStorePost D gh nx (nx + 1) l l2 K R p k o x w (.returned (.int .i64 m)) w' ∧ e = .returned (.tuple #[.int .i64 (if m = 0 then nx else 0), .int .i64 m])
set_option maxHeartbeats 4000000 in
theorem add_ok (D : Dsk) (gh : Nat) (nx nd tm : Int) (l : List Hn) (v : Value) (L : List Cel) (K : Nat) (R p k : Int) (o : Option (List UInt8)) (w : World) (h : HW w D gh nx l false) (hs : Stg D (⟨#[104, 105, 110, 116, 115]⟩ : ByteArray) (⟨#[104, 105, 110, 116, 115, 46, 110, 101, 119]⟩ : ByteArray) K R p k false o) (hdk : D.dark = false)
    (hv : SlX eC w.heap.size w v L) (hr : RecIn L) (hrc : recC L = 0) (hn1 : 1 ≤ nd) (hn2 : nd ≤ 5) (hl : l.length < 40) (hnx : 0 ≤ nx ∧ nx < 1000000) (pl : Plan (⟨#[104, 105, 110, 116, 115]⟩ : ByteArray) (⟨#[104, 105, 110, 116, 115, 46, 110, 101, 119]⟩ : ByteArray) K R (frameL (hintsL (nx + 1) (l ++ [⟨nx, nd, tm, L⟩])))) (fit : HFit (nx + 1) (l ++ [⟨nx, nd, tm, L⟩])) :
    Calls Try.prog 11 #[ptrV gh, .int .i64 nd, .int .i64 tm, v] w (AddPost D gh nx l (l ++ [⟨nx, nd, tm, L⟩]) K R p k o (frameL (hintsL (nx + 1) (l ++ [⟨nx, nd, tm, L⟩]))) w) := by
  have M := may_any D gh nx l false _ h
  rw [show (if (false || D.dark) = true then (9 : Int) else 0) = 0 by rw [hdk]; rfl] at M
  obtain ⟨va, vc, rfl, hvc, hvx⟩ := hv.ex
  have RC := Lib.hid (fun W (hb : Below w.heap.size w W) => record_any (.slice va L.length vc) L W (hv.keep hb) hr)
  rw [hrc] at RC
  have hLr : L.length ≤ 1000000 := fit.each ⟨nx, nd, tm, L⟩ (by simp)
  have MM := Lib.hid M; have HH := Lib.hid h; have HS := Lib.hid hs; have HV := Lib.hid hv; have PL := Lib.hid pl; have FIT := Lib.hid fit
  have HLR := Lib.hid hLr; have HL := Lib.hid hl
  have m1 : ¬ nd < 1 := by omega
  have m2 : ¬ 5 < nd := by omega
  have qnx : IntKind.i64.wrap (nx + 1) = nx + 1 := by rw [IntKind.wrap_i64]; omega
  clear M h hs hdk hv hvx hr hrc hn1 hn2 hnx pl fit hLr hl
  simp only [ptrV] at *
  go_enter Try.func11, Try.ntmps11
  go_wp2_with fail
  refine MM.out.mono ?_
  rintro e w1 ⟨rfl, hb⟩
  have HB1 := Lib.hid hb
  clear hb MM
  go_wp2_with fail
  refine (RC.out _ HB1.out).mono ?_
  rintro e w2 ⟨rb, rfl, _, hb⟩
  have HB2 := Lib.hid (below_tr HB1.out hb)
  clear hb RC
  have HH2 := Lib.hid (HH.out.below HB2.out)
  obtain ⟨qs, a, c, h1, h2, h3⟩ := HH2.out.ex
  have k1 : w2.cell? ⟨gh, 1, none⟩ = some (.int .i64 nx) := h1.cell 1 rfl
  have k2 : w2.cell? ⟨gh, 2, none⟩ = some (.slice a qs.length c) := h1.cell 2 rfl
  have hqn : qs.length < 40 := by rw [h3.len]; exact HL.out
  have m3 : ¬ (40 : Int) ≤ (qs.length : Int) := by omega
  have CC := Lib.hid (hcloneC _ L w2 (HV.out.keep HB2.out) (by have := HLR.out; omega))
  have HF2 := Lib.hid h3; have HSF := Lib.hid h2; have HGH := Lib.hid h1.lt
  clear h1 h2 h3
  go_wp2_with fail
  refine CC.out.mono ?_
  rintro e w3 ⟨v3, rfl, ho3, hb3⟩
  obtain ⟨xa, xc, rfl, _, _⟩ := ho3.sl.ex
  have HB3 := Lib.hid (below_tr HB2.out hb3); have HO3 := Lib.hid ho3; have HB23 := Lib.hid hb3
  have k1 := cell_keep hb3 k1
  have k2 := cell_keep hb3 k2
  have A4 := below_alloc (Below.refl _ w3) (.cells #[.int .i64 nx, .int .i64 nd, .int .i64 tm, .slice xa L.length xc] 64)
  have X4 := Blk.new w3 64 #[.int .i64 nx, .int .i64 nd, .int .i64 tm, .slice xa L.length xc]
  have k4 := cell_keep A4 k2
  have C2 := Lib.hid (fun W (hW : InW (w3.alloc (.cells #[.int .i64 nx, .int .i64 nd, .int .i64 tm, .slice xa L.length xc] 64)) W) => hcloneT _ qs W (((HSF.out.sl.keep hb3).keep A4).keep hW) (by omega))
  clear ho3 hb3 CC
  have HA4 := Lib.hid A4; have HX4 := Lib.hid X4
  clear A4 X4
  go_upto_region 11 with (fail)
  generalize w3.alloc (.cells #[.int .i64 nx, .int .i64 nd, .int .i64 tm, .slice xa L.length xc] 64) = W4 at *
  have KS := Lib.hid (fun W (hW : InW W4 W) => show InW W4 W ∧ W.cell? ⟨gh, 2, none⟩ = some (.slice a qs.length c) ∧ W.cell? ⟨w3.heap.size, 0, none⟩ = some (.int .i64 nx) ∧ W.cell? ⟨w3.heap.size, 1, none⟩ = some (.int .i64 nd) ∧ W.cell? ⟨w3.heap.size, 2, none⟩ = some (.int .i64 tm) ∧ W.cell? ⟨w3.heap.size, 3, none⟩ = some (.slice xa L.length xc) from ⟨hW, cell_keep hW k4, cell_keep hW (HX4.out.cell 0 rfl), cell_keep hW (HX4.out.cell 1 rfl), cell_keep hW (HX4.out.cell 2 rfl), cell_keep hW (HX4.out.cell 3 rfl)⟩)
  have HB4 := Lib.hid (below_tr HB3.out HA4.out)
  have HDW := Lib.hid HH.out.dw
  have LIM := Lib.hid (show qs.length + ([⟨nx, nd, tm, xa, L.length, xc⟩] : List Hq).length ≤ 9223372036854775807 ∧ (qs.length + ([⟨nx, nd, tm, xa, L.length, xc⟩] : List Hq).length) * eT.bytes ≤ 140737488355328 from by
    refine ⟨by simp; omega, ?_⟩
    show (_ + _) * 48 ≤ _
    simp; omega)
  have STO := Lib.hid (fun W (hW : InW W4 W) qs2 a1 c1 (he : qs ++ [⟨nx, nd, tm, xa, L.length, xc⟩] = qs2) (hO : OwnX eT W W4.heap.size (.slice a1 qs2.length c1) qs2) =>
    store_any D gh nx (nx + 1) l (l ++ [⟨nx, nd, tm, L⟩]) qs2 a1 c1 K R p k o W (HH.out.below (below_tr HB4.out hW)) HS.out PL.out
      (SlF.own hO HDW.out HB4.out.size (by have h1 := HGH.out; have h2 := HB23.out.size; have h3 := HA4.out.size; omega))
      (he ▸ HnsF.app (HF2.out.below HH2.out.dw (below_tr (below_tr HB23.out HA4.out) hW)) ⟨rfl, rfl, rfl, SlF.own ((HO3.out.below HA4.out).below hW) HDW.out HB2.out.size HGH.out⟩)
      FIT.out.n FIT.out.h FIT.out.len FIT.out.few FIT.out.each)
  clear k1 k2 k4 HL HV HH
  simp only [ptrV] at STO
  refine wp_region_held_tail (S := fun W' => InW W4 W' ∧ W'.cell? ⟨gh, 2, none⟩ = some (.slice a qs.length c) ∧ W'.cell? ⟨w3.heap.size, 0, none⟩ = some (.int .i64 nx) ∧ W'.cell? ⟨w3.heap.size, 1, none⟩ = some (.int .i64 nd) ∧ W'.cell? ⟨w3.heap.size, 2, none⟩ = some (.int .i64 tm) ∧ W'.cell? ⟨w3.heap.size, 3, none⟩ = some (.slice xa L.length xc)) 13 (by kernel_rfl) (by simp) (KS.out _ (InW.drew (InW.refl _))) (fun S0 => ?_)
  refine held_take (i := 0) (oi := _) (v := .pointer (some ⟨gh, 0, none⟩)) rfl (by kernel_rfl) (by kernel_rfl) (by kernel_rfl) (fun _ _ _ h => h) (Or.inl ⟨by rfl, fun w hSw => ?_⟩) S0 ?_
  · go_simp
  (try simp only [Act.put, List.getElem_toArray, List.getElem_cons_zero, List.getElem_cons_succ, List.setIfInBounds_toArray, List.set_cons_zero, List.set_cons_succ])
  refine held_take (i := 1) (oi := _) (v := .int .i64 nx) rfl (by kernel_rfl) (by kernel_rfl) (by kernel_rfl) (fun _ _ _ h => h) (Or.inl ⟨by rfl, fun w hSw => ?_⟩) S0 ?_
  · go_simp
  (try simp only [Act.put, List.getElem_toArray, List.getElem_cons_zero, List.getElem_cons_succ, List.setIfInBounds_toArray, List.set_cons_zero, List.set_cons_succ])
  refine held_take (i := 2) (oi := _) (v := .int .i64 (nx + 1)) rfl (by kernel_rfl) (by kernel_rfl) (by kernel_rfl) (fun _ _ _ h => h) (Or.inl ⟨by rfl, fun w hSw => ?_⟩) S0 ?_
  · go_simp
  (try simp only [Act.put, List.getElem_toArray, List.getElem_cons_zero, List.getElem_cons_succ, List.setIfInBounds_toArray, List.set_cons_zero, List.set_cons_succ])
  refine held_take (i := 3) (oi := _) (v := .pointer (some ⟨gh, 0, none⟩)) rfl (by kernel_rfl) (by kernel_rfl) (by kernel_rfl) (fun _ _ _ h => h) (Or.inl ⟨by rfl, fun w hSw => ?_⟩) S0 ?_
  · go_simp
  (try simp only [Act.put, List.getElem_toArray, List.getElem_cons_zero, List.getElem_cons_succ, List.setIfInBounds_toArray, List.set_cons_zero, List.set_cons_succ])
  refine held_take (i := 4) (oi := _) (v := .pointer (some ⟨gh, 0, none⟩)) rfl (by kernel_rfl) (by kernel_rfl) (by kernel_rfl) (fun _ _ _ h => h) (Or.inl ⟨by rfl, fun w hSw => ?_⟩) S0 ?_
  · go_simp
  (try simp only [Act.put, List.getElem_toArray, List.getElem_cons_zero, List.getElem_cons_succ, List.setIfInBounds_toArray, List.set_cons_zero, List.set_cons_succ])
  refine held_take (i := 5) (oi := _) (v := .pointer (some ⟨gh, 1, none⟩)) rfl (by kernel_rfl) (by kernel_rfl) (by kernel_rfl) (fun _ _ _ h => h) (Or.inl ⟨by rfl, fun w hSw => ?_⟩) S0 ?_
  · go_simp
  (try simp only [Act.put, List.getElem_toArray, List.getElem_cons_zero, List.getElem_cons_succ, List.setIfInBounds_toArray, List.set_cons_zero, List.set_cons_succ])
  refine held_take (i := 6) (oi := _) (v := .pointer (some ⟨gh, 2, none⟩)) rfl (by kernel_rfl) (by kernel_rfl) (by kernel_rfl) (fun _ _ _ h => h) (Or.inl ⟨by rfl, fun w hSw => ?_⟩) S0 ?_
  · go_simp
  (try simp only [Act.put, List.getElem_toArray, List.getElem_cons_zero, List.getElem_cons_succ, List.setIfInBounds_toArray, List.set_cons_zero, List.set_cons_succ])
  refine held_take (i := 7) (oi := _) (v := .slice a qs.length c) rfl (by kernel_rfl) (by kernel_rfl) (by kernel_rfl) (fun _ _ _ h => h) (Or.inl ⟨by rfl, fun w hSw => ?_⟩) S0 ?_
  · go_simp
  (try simp only [Act.put, List.getElem_toArray, List.getElem_cons_zero, List.getElem_cons_succ, List.setIfInBounds_toArray, List.set_cons_zero, List.set_cons_succ])
  refine held_take (i := 9) (oi := _) (v := .agg #[.int .i64 nx, .int .i64 nd, .int .i64 tm, .slice xa L.length xc]) rfl (by kernel_rfl) (by kernel_rfl) (by kernel_rfl) (fun _ _ _ h => h) (Or.inl ⟨by rfl, fun w hSw => ?_⟩) S0 ?_
  · go_simp
  (try simp only [Act.put, List.getElem_toArray, List.getElem_cons_zero, List.getElem_cons_succ, List.setIfInBounds_toArray, List.set_cons_zero, List.set_cons_succ])
  refine held_ready (rs := [8, 10]) (by kernel_rfl) (by simp) (by simp) ?_
  refine ReadyT.cons rfl (fun K hK => ?_) (ReadyT.cons rfl (fun K hK => ?_) ReadyT.nil)
  · go_simp; go_at_call 30
    refine (C2.out W4.drew (InW.drew (InW.refl _))).mono ?_
    rintro e wA ⟨vA, rfl, hOA, hbA⟩
    have iA : InW W4 wA := InW.tr (InW.drew (InW.refl _)) hbA
    refine hK.out _ _ (KS.out wA iA) (fun _ => ?_); clear hK K
    (try simp only [Act.put, List.getElem_toArray, List.getElem_cons_zero, List.getElem_cons_succ, List.setIfInBounds_toArray, List.set_cons_zero, List.set_cons_succ])
    refine held_ready (rs := [10]) (by kernel_rfl) (by simp) (by simp) ?_
    refine ReadyT.cons rfl (fun K hK => ?_) ReadyT.nil
    go_simp
    refine hK.out _ _ (KS.out _ (InW.alloc iA _)) (fun _ => ?_); clear hK K
    (try simp only [Act.put, List.getElem_toArray, List.getElem_cons_zero, List.getElem_cons_succ, List.setIfInBounds_toArray, List.set_cons_zero, List.set_cons_succ])
    have S1 := KS.out (wA.alloc (.cells #[.int .i64 nx, .int .i64 nd, .int .i64 tm, .slice xa L.length xc] 64)) (InW.alloc iA _)
    refine held_ready (rs := [11]) (by kernel_rfl) (by simp) (by simp) ?_
    refine ReadyT.cons rfl (fun K hK => ?_) ReadyT.nil
    refine st_x (E := eT) rfl (.tmp 62) (.tmp 64) rfl W4.heap.size vA qs (wA.alloc (.cells #[.int .i64 nx, .int .i64 nd, .int .i64 tm, .slice xa L.length xc] 64)).heap.size _ [⟨nx, nd, tm, xa, L.length, xc⟩] rfl rfl (one_lit wA _ _ _ _ _ _).sl (hOA.alloc (.cells #[.int .i64 nx, .int .i64 nd, .int .i64 tm, .slice xa L.length xc] 64)) ((InW.alloc iA _)).size LIM.out.1 LIM.out.2 ?_
    intro v1 w5 hO1 hg1 _
    have i5 : InW W4 w5 := Below.grown (InW.alloc iA _) hg1 ((InW.alloc iA _)).size (fun k hk => OwnX.base (hOA.alloc (.cells #[.int .i64 nx, .int .i64 nd, .int .i64 tm, .slice xa L.length xc] 64)) k hk)
    refine hK.out _ _ (KS.out w5 i5) (fun S5 => ?_); clear hK K
    (try simp only [Act.put, List.getElem_toArray, List.getElem_cons_zero, List.getElem_cons_succ, List.setIfInBounds_toArray, List.set_cons_zero, List.set_cons_succ])
    obtain ⟨qs2, hqs2⟩ : ∃ z, qs ++ [⟨nx, nd, tm, xa, L.length, xc⟩] = z := ⟨_, rfl⟩
    rw [hqs2] at hO1
    obtain ⟨a1, c1, rfl, _, _⟩ := hO1.sl.ex
    refine held_take (i := 12) (oi := _) (v := .agg #[.int .i64 (nx + 1), .slice a1 qs2.length c1]) rfl (by kernel_rfl) (by kernel_rfl) (by kernel_rfl) (fun _ _ _ h => h) (Or.inl ⟨by rfl, fun w hSw => ?_⟩) S5 ?_
    · go_simp
    (try simp only [Act.put, List.getElem_toArray, List.getElem_cons_zero, List.getElem_cons_succ, List.setIfInBounds_toArray, List.set_cons_zero, List.set_cons_succ])
    refine held_tail (by kernel_rfl) ?_
    have ST5 := Lib.hid (STO.out w5 i5 qs2 a1 c1 hqs2 hO1)
    have IN5 := Lib.hid i5
    clear S0 S1 S5 i5 hO1 hg1 hqs2 STO
    simp only [List.drop_succ_cons, List.drop_zero]
    go_wp2_with fail
    refine ST5.out.mono ?_
    intro e w6 hq
    obtain ⟨m, hm⟩ := hq.num
    subst hm
    have HQ := Lib.hid (hq.head HDW.out (below_tr HB4.out IN5.out))
    clear hq ST5
    rcases hq2 : (m == 0) with _ | _
    · have NE := Lib.hid (show m ≠ 0 by simpa using hq2)
      go_wp2_with fail
      refine bodyPost_ret (v := .tuple #[.int .i64 0, .int .i64 m]) (by simp [results, Try.results11, go_sem]) rfl ⟨m, HQ.out, by rw [if_neg NE.out]⟩
    · have EQ := Lib.hid (show m = 0 by simpa using hq2)
      go_wp2_with fail
      refine bodyPost_ret (v := .tuple #[.int .i64 nx, .int .i64 0]) (by simp [results, Try.results11, go_sem]) rfl ⟨m, HQ.out, by rw [EQ.out]; rfl⟩
  · go_simp
    refine hK.out _ _ (KS.out _ (InW.alloc (InW.drew (InW.refl _)) _)) (fun _ => ?_); clear hK K
    (try simp only [Act.put, List.getElem_toArray, List.getElem_cons_zero, List.getElem_cons_succ, List.setIfInBounds_toArray, List.set_cons_zero, List.set_cons_succ])
    refine held_ready (rs := [8]) (by kernel_rfl) (by simp) (by simp) ?_
    refine ReadyT.cons rfl (fun K hK => ?_) ReadyT.nil
    go_simp; go_at_call 30
    refine (C2.out _ (InW.alloc (InW.drew (InW.refl _)) _)).mono ?_
    rintro e wA ⟨vA, rfl, hOA, hbA⟩
    have iA : InW W4 wA := InW.tr (InW.alloc (InW.drew (InW.refl _)) _) hbA
    refine hK.out _ _ (KS.out wA iA) (fun _ => ?_); clear hK K
    (try simp only [Act.put, List.getElem_toArray, List.getElem_cons_zero, List.getElem_cons_succ, List.setIfInBounds_toArray, List.set_cons_zero, List.set_cons_succ])
    have S1 := KS.out wA iA
    refine held_ready (rs := [11]) (by kernel_rfl) (by simp) (by simp) ?_
    refine ReadyT.cons rfl (fun K hK => ?_) ReadyT.nil
    refine st_x (E := eT) rfl (.tmp 62) (.tmp 64) rfl W4.heap.size vA qs wA.heap.size _ [⟨nx, nd, tm, xa, L.length, xc⟩] rfl rfl ((one_lit W4.drew _ _ _ _ _ _).below hbA).sl (hOA.weaken (InW.alloc (InW.drew (InW.refl W4)) (.cells #[.int .i64 nx, .int .i64 nd, .int .i64 tm, .slice xa L.length xc] 64)).size) (iA).size LIM.out.1 LIM.out.2 ?_
    intro v1 w5 hO1 hg1 _
    have i5 : InW W4 w5 := Below.grown iA hg1 (iA).size (fun k hk => OwnX.base (hOA.weaken (InW.alloc (InW.drew (InW.refl W4)) (.cells #[.int .i64 nx, .int .i64 nd, .int .i64 tm, .slice xa L.length xc] 64)).size) k hk)
    refine hK.out _ _ (KS.out w5 i5) (fun S5 => ?_); clear hK K
    (try simp only [Act.put, List.getElem_toArray, List.getElem_cons_zero, List.getElem_cons_succ, List.setIfInBounds_toArray, List.set_cons_zero, List.set_cons_succ])
    obtain ⟨qs2, hqs2⟩ : ∃ z, qs ++ [⟨nx, nd, tm, xa, L.length, xc⟩] = z := ⟨_, rfl⟩
    rw [hqs2] at hO1
    obtain ⟨a1, c1, rfl, _, _⟩ := hO1.sl.ex
    refine held_take (i := 12) (oi := _) (v := .agg #[.int .i64 (nx + 1), .slice a1 qs2.length c1]) rfl (by kernel_rfl) (by kernel_rfl) (by kernel_rfl) (fun _ _ _ h => h) (Or.inl ⟨by rfl, fun w hSw => ?_⟩) S5 ?_
    · go_simp
    (try simp only [Act.put, List.getElem_toArray, List.getElem_cons_zero, List.getElem_cons_succ, List.setIfInBounds_toArray, List.set_cons_zero, List.set_cons_succ])
    refine held_tail (by kernel_rfl) ?_
    have ST5 := Lib.hid (STO.out w5 i5 qs2 a1 c1 hqs2 hO1)
    have IN5 := Lib.hid i5
    clear S0 S1 S5 i5 hO1 hg1 hqs2 STO
    simp only [List.drop_succ_cons, List.drop_zero]
    go_wp2_with fail
    refine ST5.out.mono ?_
    intro e w6 hq
    obtain ⟨m, hm⟩ := hq.num
    subst hm
    have HQ := Lib.hid (hq.head HDW.out (below_tr HB4.out IN5.out))
    clear hq ST5
    rcases hq2 : (m == 0) with _ | _
    · have NE := Lib.hid (show m ≠ 0 by simpa using hq2)
      go_wp2_with fail
      refine bodyPost_ret (v := .tuple #[.int .i64 0, .int .i64 m]) (by simp [results, Try.results11, go_sem]) rfl ⟨m, HQ.out, by rw [if_neg NE.out]⟩
    · have EQ := Lib.hid (show m = 0 by simpa using hq2)
      go_wp2_with fail
      refine bodyPost_ret (v := .tuple #[.int .i64 nx, .int .i64 0]) (by simp [results, Try.results11, go_sem]) rfl ⟨m, HQ.out, by rw [EQ.out]; rfl⟩
set_option maxHeartbeats 1000000 in
theorem add_arg (D : Dsk) (gh : Nat) (nx nd tm : Int) (l : List Hn) (v : Value) (L : List Cel) (w : World) (h : HW w D gh nx l false) (hdk : D.dark = false)
    (hv : SlX eC w.heap.size w v L) (hr : RecIn L) (hrc : recC L ≠ 0) :
    Calls Try.prog 11 #[ptrV gh, .int .i64 nd, .int .i64 tm, v] w fun e w' => e = .returned (.tuple #[.int .i64 0, .int .i64 2]) ∧ Below w.heap.size w w' := by
  have M := may_any D gh nx l false _ h
  rw [show (if (false || D.dark) = true then (9 : Int) else 0) = 0 by rw [hdk]; rfl] at M
  obtain ⟨va, vc, rfl, hvc, hvx⟩ := hv.ex
  have RC := Lib.hid (fun W (hb : Below w.heap.size w W) => record_any (.slice va L.length vc) L W (hv.keep hb) hr)
  have MM := Lib.hid M
  have hz : ¬ recC L = 0 := hrc
  generalize recC L = rc at *
  clear M h hdk hv hvx hr hrc
  simp only [ptrV] at *
  go_enter Try.func11, Try.ntmps11
  go_wp2_with fail
  refine MM.out.mono ?_
  rintro e w1 ⟨rfl, hb⟩
  have HB1 := Lib.hid hb
  clear hb MM
  go_wp2_with fail
  refine (RC.out _ HB1.out).mono ?_
  rintro e w2 ⟨rb, rfl, _, hb⟩
  have HB2 := Lib.hid (below_tr HB1.out hb)
  clear hb RC
  go_wp2_with fail
  refine bodyPost_ret (v := .tuple #[.int .i64 0, .int .i64 2]) (by simp [results, Try.results11, go_sem]) rfl ⟨rfl, HB2.out⟩
end Go.Proofs.Ytefndmjimmbhnaa
end
