/- Hints through their operations; contract of the law's at, and of its lives. No condition. Contract of the law's lives. No condition. The law HintsNone, walked: it returns true. No condition. -/
import Derived.Test.YtefndmjimmbhnaaZ43
import Derived.Test.YtefndmjimmbhnaaZ36
section
set_option linter.unusedVariables false
set_option linter.unusedSimpArgs false
set_option maxRecDepth 50000
namespace Go.Proofs.Ytefndmjimmbhnaa
open Go.RowKit Go.Shelf

def atC (n : Int) : Cel := ⟨⟨⟨#[116]⟩, ⟨#[120]⟩, n, ⟨#[]⟩⟩, ⟨n, false, 0, 0, 0, ⟨#[]⟩⟩⟩
theorem at_any (n : Int) (w : World) : Calls Try.prog 18 #[.int .i64 n] w fun e w' => ∃ v, e = .returned v ∧ OwnX eC w' w.heap.size v [atC n] ∧ Below w.heap.size w w' := by
  go_enter Try.func18, Try.ntmps18
  go_wp2_with fail
  go_ret
  exact ⟨_, rfl, OwnX.lit (E := eC) w w.heap.size _ [atC n] 1 (Nat.le_refl _) rfl (by simp) rfl, below_alloc (Below.refl _ _) _⟩
/-- hints and their disk, made since w -/
structure LV (w : World) (K : Nat) (R p k : Int) (gh : Nat) (nx : Int) (l : List Hn) (dead : Bool) (o : Option (List UInt8)) (W : World) : Prop where
  ex : ∃ E, HW W E gh nx l dead ∧ Stg E (⟨#[104, 105, 110, 116, 115]⟩ : ByteArray) (⟨#[104, 105, 110, 116, 115, 46, 110, 101, 119]⟩ : ByteArray) K R p k dead o ∧ ∀ k, E.foot k → w.heap.size ≤ k
  below : Below w.heap.size w W
  lo : w.heap.size ≤ gh
section
variable {w W W1 : World} {K : Nat} {R p k : Int} {gh : Nat} {nx : Int} {l : List Hn} {dead : Bool} {o : Option (List UInt8)}
theorem LV.tail (h : LV w K R p k gh nx l dead o W) (hb : Below W.heap.size W W1) : LV w K R p k gh nx l dead o W1 := by
  obtain ⟨E, h1, h2, h3⟩ := h.ex
  exact ⟨⟨E, h1.below hb, h2, h3⟩, below_tr h.below hb, h.lo⟩
theorem LV.store {D : Dsk} {nx2 : Int} {l2 : List Hn} {x : List UInt8} {m : Int} (h : LV w K R p k gh nx l false o W) (h3 : ∀ k, D.foot k → w.heap.size ≤ k) (hq : HStorePost D gh nx nx2 l l2 K R p k o x W (.returned (.int .i64 m)) W1) :
    (m = 0 ∧ LV w K R (lessN 4 p) k gh nx2 l2 false (some x) W1) ∨ (m = 9 ∧ 0 < p ∧ ∃ p', LV w K R p' k gh nx l true o W1) := by
  have key : ∀ E, Mh gh W D W1 E → Below w.heap.size w W1 ∧ ∀ k, E.foot k → w.heap.size ≤ k := fun E m => ⟨h.below.trans (m.but.below (B := w.heap.size) h.below.size (fun k hk => by
      rcases hk with hk | rfl
      · exact h3 k hk
      · exact h.lo)), fun k hk => by
      rcases m.foot k hk with h1 | h1
      · exact h3 k h1
      · exact Nat.le_trans h.below.size h1⟩
  rcases hq with ⟨e1, E, a, b, c⟩ | ⟨e1, hp, E, p', a, b, c⟩
  · injection e1 with e1; injection e1 with _ e1
    obtain ⟨k1, k2⟩ := key E c
    exact .inl ⟨e1, ⟨E, a, b, k2⟩, k1, h.lo⟩
  · injection e1 with e1; injection e1 with _ e1
    obtain ⟨k1, k2⟩ := key E c
    exact .inr ⟨e1, hp, p', ⟨E, a, b, k2⟩, k1, h.lo⟩
end
def hcel (x : Hn) (nx : Int) (l : List Hn) : List UInt8 := frameL (hintsL nx (l ++ [x]))
theorem lvAdd (w : World) (K : Nat) (R p k : Int) (gh : Nat) (nx nd tm : Int) (l : List Hn) (o : Option (List UInt8)) (v : Value) (L : List Cel) (W : World) (h : LV w K R p k gh nx l false o W)
    (hv : SlX eC W.heap.size W v L) (hr : RecIn L) (hrc : recC L = 0) (hn1 : 1 ≤ nd) (hn2 : nd ≤ 5) (hl : l.length < 40) (hnx : 0 ≤ nx ∧ nx < 1000000) (pl : Plan (⟨#[104, 105, 110, 116, 115]⟩ : ByteArray) (⟨#[104, 105, 110, 116, 115, 46, 110, 101, 119]⟩ : ByteArray) K R (frameL (hintsL (nx + 1) (l ++ [⟨nx, nd, tm, L⟩])))) (fit : HFit (nx + 1) (l ++ [⟨nx, nd, tm, L⟩])) :
    Calls Try.prog 11 #[ptrV gh, .int .i64 nd, .int .i64 tm, v] W fun e w' =>
      (e = .returned (.tuple #[.int .i64 nx, .int .i64 0]) ∧ LV w K R (lessN 4 p) k gh (nx + 1) (l ++ [⟨nx, nd, tm, L⟩]) false (some (frameL (hintsL (nx + 1) (l ++ [⟨nx, nd, tm, L⟩])))) w') ∨
      (e = .returned (.tuple #[.int .i64 0, .int .i64 9]) ∧ 0 < p ∧ ∃ p', LV w K R p' k gh nx l true o w') := by
  obtain ⟨E, h1, h2, h3⟩ := h.ex
  refine (add_ok E gh nx nd tm l v L K R p k o W h1 h2 h2.dark hv hr hrc hn1 hn2 hl hnx pl fit).mono ?_
  rintro e w' ⟨m, hq, rfl⟩
  rcases h.store h3 hq with ⟨rfl, hh⟩ | ⟨rfl, hp, p', hh⟩
  · exact .inl ⟨rfl, hh⟩
  · exact .inr ⟨rfl, hp, p', hh⟩
theorem lvDrop (w : World) (K : Nat) (R p k : Int) (gh : Nat) (nx id : Int) (l : List Hn) (o : Option (List UInt8)) (W : World) (h : LV w K R p k gh nx l false o W)
    (hl : l.length ≤ 1000000) (pl : Plan (⟨#[104, 105, 110, 116, 115]⟩ : ByteArray) (⟨#[104, 105, 110, 116, 115, 46, 110, 101, 119]⟩ : ByteArray) K R (frameL (hintsL nx (l.filter (fun x => !(x.id == id)))))) (fit : HFit nx (l.filter (fun x => !(x.id == id)))) :
    Calls Try.prog 13 #[ptrV gh, .int .i64 id] W fun e w' =>
      ((∀ x ∈ l, x.id ≠ id) ∧ e = .returned (.int .i64 4) ∧ LV w K R p k gh nx l false o w') ∨
      ((∃ x ∈ l, x.id = id) ∧ e = .returned (.int .i64 0) ∧ LV w K R (lessN 4 p) k gh nx (l.filter (fun x => !(x.id == id))) false (some (frameL (hintsL nx (l.filter (fun x => !(x.id == id)))))) w') ∨
      ((∃ x ∈ l, x.id = id) ∧ e = .returned (.int .i64 9) ∧ 0 < p ∧ ∃ p', LV w K R p' k gh nx l true o w') := by
  obtain ⟨E, h1, h2, h3⟩ := h.ex
  refine (drop_any E gh nx l id K R p k o W h1 h2 h2.dark hl pl fit).mono ?_
  rintro e w' (⟨a, rfl, b⟩ | ⟨a, hq⟩)
  · exact .inl ⟨a, rfl, h.tail b⟩
  · obtain ⟨m, rfl⟩ := hq.num
    rcases h.store h3 hq with ⟨rfl, hh⟩ | ⟨rfl, hp, p', hh⟩
    · exact .inr (.inl ⟨a, rfl, hh⟩)
    · exact .inr (.inr ⟨a, rfl, hp, p', hh⟩)
theorem empty_stg (d m K : Nat) (R : Int) : Stg (emptyD d m R) (⟨#[104, 105, 110, 116, 115]⟩ : ByteArray) (⟨#[104, 105, 110, 116, 115, 46, 110, 101, 119]⟩ : ByteArray) K R 0 0 false none := ⟨⟨fun f hf => (by cases hf), fun f hf => (by cases hf)⟩, rfl, rfl, rfl, rfl, ⟨rfl, fun f hf => (by cases hf)⟩⟩
theorem hfit_dec {nx : Int} {l : List Hn} (h : decide (0 ≤ nx ∧ nx < 1000000) = true) (h1 : l.all (fun x => decide (0 ≤ x.id ∧ x.id < 1000000 ∧ 0 ≤ x.nd ∧ x.nd < 1000000 ∧ 0 ≤ x.tm ∧ x.tm < 1000000) && x.L.all (fun c => decide (0 ≤ c.k.r ∧ c.k.r < 1000000 ∧ 0 ≤ c.v.time ∧ c.v.time < 1000000 ∧ c.v.loc = 0 ∧ c.v.kind = 0 ∧ c.v.n = 0)) && decide (x.L.length ≤ 10)) = true) (h2 : decide ((hintsL nx l).length ≤ 1000) = true) (h3 : decide (l.length ≤ 10) = true) : HFit nx l := by
  simp only [decide_eq_true_eq, List.all_eq_true, Bool.and_eq_true] at h h1 h2 h3
  have i64 : ∀ z : Int, 0 ≤ z → z < 1000000 → In64 z := fun z a b => ⟨by omega, by omega⟩
  refine ⟨i64 _ h.1 h.2, fun x hx => ?_, by omega, by omega, fun x hx => by have := (h1 x hx).2; omega⟩
  obtain ⟨⟨⟨a, b, c, d, e, f⟩, g⟩, _⟩ := h1 x hx
  exact ⟨i64 _ a b, i64 _ c d, i64 _ e f, fun y hy => by
    obtain ⟨a, b, c, d, e, f, g⟩ := g y hy
    exact ⟨i64 _ a b, i64 _ c d, by rw [e]; exact i64 0 (by decide) (by decide), by rw [f]; exact i64 0 (by decide) (by decide), by rw [g]; exact i64 0 (by decide) (by decide)⟩⟩
end Go.Proofs.Ytefndmjimmbhnaa
end

section
set_option linter.unusedVariables false
set_option linter.unusedSimpArgs false
set_option maxRecDepth 50000
namespace Go.Proofs.Ytefndmjimmbhnaa
open Go.RowKit Go.Shelf

theorem planL {nx : Int} {l : List Hn} (h : decide ((hintsL nx l).length ≤ 1000) = true) : Plan (⟨#[104, 105, 110, 116, 115]⟩ : ByteArray) (⟨#[104, 105, 110, 116, 115, 46, 110, 101, 119]⟩ : ByteArray) 2000 1000 (frameL (hintsL nx l)) := by
  have h := of_decide_eq_true h
  exact ⟨name_hints, name_hints_new, by decide, by rw [frameL_length _ (by omega)]; omega, by decide⟩
theorem recIn_at (n : Int) (h : decide (0 ≤ n ∧ n < 100) = true) (h2 : decide (([atC n].flatMap cellL).length ≤ 900000) = true) : RecIn [atC n] := by
  have h := of_decide_eq_true h
  have i0 : In64 0 := ⟨by decide, by decide⟩
  have i1 : In64 n := ⟨by omega, by omega⟩
  refine ⟨by unfold Room; show 1 * 112 ≤ _; decide, fun c hc => ?_, fun c hc => ?_, of_decide_eq_true h2⟩
  · rw [List.mem_singleton.1 hc]; exact ⟨by show (1 : Nat) ≤ _; decide, by show (1 : Nat) ≤ _; decide, by show (0 : Nat) ≤ _; decide, by show (0 : Nat) ≤ _; decide⟩
  · rw [List.mem_singleton.1 hc]; exact ⟨i1, i1, i0, i0, i0⟩
def h1L : Hn := ⟨1, 1, 0, [atC 1]⟩
def h2L : Hn := ⟨2, 2, 0, [atC 2]⟩
def h3L : Hn := ⟨3, 1, 0, [atC 3]⟩
theorem emptyD_foot {d m : Nat} {R : Int} {k : Nat} (h : (emptyD d m R).foot k) : k = d ∨ k = m := by
  rcases h with h | h | h | ⟨f, hf, _⟩
  · exact .inl h
  · exact .inr h
  · cases h
  · cases hf
/-- Open of a new disk -/
theorem lvOpen (w : World) (K : Nat) (d m : Nat) (R : Int) (W : World) (hb : Below w.heap.size w W) (hw : DiskW W (emptyD d m R)) (hd : w.heap.size ≤ d) (hm : w.heap.size ≤ m) :
    Calls Try.prog 8 #[ptrV d] W fun e w' => ∃ gh, e = .returned (.tuple #[ptrV gh, .int .i64 0]) ∧ LV w K R 0 0 gh 1 [] false none w' := by
  refine (hOpen_none (emptyD d m R) W hw rfl rfl).mono ?_
  rintro e w' ⟨gh, rfl, h1, h2, h3⟩
  exact ⟨gh, rfl, ⟨_, h2, empty_stg d m K R, fun k hk => by rcases emptyD_foot hk with h | h <;> omega⟩, below_tr hb h3, Nat.le_trans hb.size h1⟩
set_option maxHeartbeats 4000000 in
theorem lives_any (w : World) : Calls Try.prog 6 #[] w fun e w' => e = .returned (.bool true) ∧ Below w.heap.size w w' := by
  have N := Lib.hid (new_any 1000 w (by decide) (by decide))
  have OP := Lib.hid (lvOpen w 2000)
  have AT1 := Lib.hid (at_any 1); have AT2 := Lib.hid (at_any 2); have AT3 := Lib.hid (at_any 3)
  have ADD1 := Lib.hid (fun gh o v W (h : LV w 2000 1000 0 0 gh 1 [] false o W) (hv : SlX eC W.heap.size W v [atC 1]) => lvAdd w 2000 1000 0 0 gh 1 1 0 [] o v [atC 1] W h hv (recIn_at 1 (by decide) (by decide +kernel)) (by decide +kernel) (by decide) (by decide) (by decide) (by decide) (planL (l := [] ++ [h1L]) (by decide +kernel)) (hfit_dec (l := [] ++ [h1L]) (by decide) (by decide +kernel) (by decide +kernel) (by decide)))
  have ADD2 := Lib.hid (fun gh o v W (h : LV w 2000 1000 0 0 gh 2 [h1L] false o W) (hv : SlX eC W.heap.size W v [atC 2]) => lvAdd w 2000 1000 0 0 gh 2 2 0 [h1L] o v [atC 2] W h hv (recIn_at 2 (by decide) (by decide +kernel)) (by decide +kernel) (by decide) (by decide) (by decide) (by decide) (planL (l := [h1L] ++ [h2L]) (by decide +kernel)) (hfit_dec (l := [h1L] ++ [h2L]) (by decide) (by decide +kernel) (by decide +kernel) (by decide)))
  have DR := Lib.hid (fun gh o W (h : LV w 2000 1000 0 0 gh 3 [h1L, h2L] false o W) => lvDrop w 2000 1000 0 0 gh 3 1 [h1L, h2L] o W h (by decide) (planL (l := [h1L, h2L].filter (fun x => !(x.id == 1))) (by decide +kernel)) (hfit_dec (l := [h1L, h2L].filter (fun x => !(x.id == 1))) (by decide) (by decide +kernel) (by decide +kernel) (by decide)))
  have ADD3 := Lib.hid (fun gh o v W (h : LV w 2000 1000 0 0 gh 3 [h2L] false o W) (hv : SlX eC W.heap.size W v [atC 3]) => lvAdd w 2000 1000 0 0 gh 3 1 0 [h2L] o v [atC 3] W h hv (recIn_at 3 (by decide) (by decide +kernel)) (by decide +kernel) (by decide) (by decide) (by decide) (by decide) (planL (l := [h2L] ++ [h3L]) (by decide +kernel)) (hfit_dec (l := [h2L] ++ [h3L]) (by decide) (by decide +kernel) (by decide +kernel) (by decide)))
  go_enter Try.func6, Try.ntmps6
  go_wp2_with fail
  refine N.out.mono ?_
  rintro e w1 ⟨d, m, rfl, hw, hd, hm, hb⟩
  have CALL := Lib.hid (OP.out d m 1000 w1 hb hw hd hm)
  clear hw hd hm hb N OP
  simp only [ptrV] at *
  go_wp2_with fail
  refine CALL.out.mono ?_
  rintro e w2 ⟨gh, rfl, h2⟩
  have H2 := Lib.hid h2
  clear h2 CALL
  simp only [ptrV] at *
  go_wp2_with fail
  refine (AT1.out _).mono ?_
  rintro e w3 ⟨v3, rfl, ho, hb⟩
  have CALL := Lib.hid (ADD1.out gh _ v3 w3 (H2.out.tail hb) ho.sl)
  clear ho hb H2 ADD1 AT1
  go_wp2_with fail
  refine CALL.out.mono ?_
  rintro e w4 (⟨rfl, h4⟩ | ⟨_, hp, _⟩)
  · have H4 := Lib.hid h4
    clear h4 CALL
    go_wp2_with fail
    refine (AT2.out _).mono ?_
    rintro e w5 ⟨v5, rfl, ho, hb⟩
    have CALL := Lib.hid (ADD2.out gh _ v5 w5 (H4.out.tail hb) ho.sl)
    clear ho hb H4 ADD2 AT2
    go_wp2_with fail
    refine CALL.out.mono ?_
    rintro e w6 (⟨rfl, h6⟩ | ⟨_, hp, _⟩)
    · have CALL := Lib.hid (DR.out gh _ w6 h6)
      clear h6 DR
      go_wp2_with fail
      refine CALL.out.mono ?_
      rintro e w7 (⟨hc, _⟩ | ⟨_, rfl, h7⟩ | ⟨_, _, hp, _⟩)
      · exact absurd rfl (hc h1L (by simp))
      · have H7 := Lib.hid h7
        clear h7 CALL
        go_wp2_with fail
        refine (AT3.out _).mono ?_
        rintro e w8 ⟨v8, rfl, ho, hb⟩
        have CALL := Lib.hid (ADD3.out gh _ v8 w8 (H7.out.tail hb) ho.sl)
        clear ho hb H7 ADD3 AT3
        go_wp2_with fail
        refine CALL.out.mono ?_
        rintro e w9 (⟨rfl, h9⟩ | ⟨_, hp, _⟩)
        · have H9 := Lib.hid h9
          obtain ⟨E, e1, e2, _⟩ := h9.ex
          have CALL := Lib.hid (hAll_any E gh _ _ _ w9 e1 (by decide) (by decide))
          clear h9 e1 e2
          simp only [ptrV] at *
          go_wp2_with fail
          refine CALL.out.mono ?_
          rintro e w10 ⟨v10, qs, rfl, ho, hq, hb⟩
          have hl : qs.length = 2 := hq.len
          obtain ⟨q0, q1, rfl⟩ : ∃ q0 q1, qs = [q0, q1] := by
            match qs, hl with
            | [q0, q1], _ => exact ⟨q0, q1, rfl⟩
          have i0 : q0.id = 2 := (hq.at_ 0 (by simp) (by decide)).1
          have i1 : q1.id = 3 := (hq.at_ 1 (by simp) (by decide)).1
          rcases ho.form with ⟨_, h0⟩ | ⟨g, c, rfl, hc, hg, hgw, _⟩
          · cases h0
          · have c0 : w10.cell? ⟨g, 0, none⟩ = some (.int .i64 2) := by rw [← i0]; exact (ho.qua 0 (by simp)).c0
            have c4 : w10.cell? ⟨g, 4, none⟩ = some (.int .i64 3) := by rw [← i1]; exact (ho.qua 1 (by simp)).c0
            have FIN := Lib.hid (below_tr H9.out.below hb)
            clear ho hq hb hc hg hgw i0 i1 hl CALL H9
            simp only [List.length_cons, List.length_nil] at *
            go_wp2_with fail
            go_ret
            exact ⟨rfl, FIN.out⟩
        · exact absurd hp (by decide)
      · exact absurd hp (by decide)
    · exact absurd hp (by decide)
  · exact absurd hp (by decide)
end Go.Proofs.Ytefndmjimmbhnaa
end

section
set_option linter.unusedVariables false
set_option linter.unusedSimpArgs false
set_option maxRecDepth 50000
namespace Go.Proofs.Ytefndmjimmbhnaa
open Go.RowKit Go.Shelf

theorem fault_nil (v : Value) (b : Bool) (w : World) : Calls Try.prog 23 #[.pointer none, v, .bool b] w fun e w' => e = .returned (.int .i64 1) ∧ Below w.heap.size w w' := by
  go_enter Try.func23, Try.ntmps23
  go_wp2_with fail
  go_ret
  exact ⟨rfl, Below.refl _ _⟩
theorem read_nil (nm : ByteArray) (w : World) : Calls Try.prog 21 #[.pointer none, .string nm] w fun e w' => e = .returned (.tuple #[.slice none 0 0, .int .i64 1]) ∧ Below w.heap.size w w' := by
  have F := Lib.hid (fun v b W => fault_nil v b W)
  have A1 := Lib.hid (below_alloc (Below.refl _ w) (.cells #[.string nm] 9))
  go_enter Try.func21, Try.ntmps21
  go_wp2_with fail
  refine (F.out _ _ _).mono ?_
  rintro e w1 ⟨rfl, hb⟩
  have HB := Lib.hid (below_tr A1.out hb)
  clear hb
  go_wp2_with fail
  refine bodyPost_ret (v := .tuple #[.slice none 0 0, .int .i64 1]) (by simp [results, Try.results21, go_sem]) rfl ⟨rfl, HB.out⟩
theorem hOpen_nil (w : World) : Calls Try.prog 8 #[.pointer none] w fun e w' => e = .returned (.tuple #[.pointer none, .int .i64 1]) ∧ Below w.heap.size w w' := by
  have F := Lib.hid (fun nm W => read_nil nm W)
  go_enter Try.func8, Try.ntmps8
  go_wp2_with fail
  refine (F.out _ _).mono ?_
  rintro e w1 ⟨rfl, hb⟩
  have HB := Lib.hid hb
  clear hb
  go_wp2_with fail
  refine bodyPost_ret (v := .tuple #[.pointer none, .int .i64 1]) (by simp [results, Try.results8, go_sem]) rfl ⟨rfl, HB.out⟩
set_option maxHeartbeats 4000000 in
theorem HintsNone_walk (n : Int) (v : Value) (w : World) : Calls Try.prog 4 #[.int .i64 n, v] w fun e w' => e = .returned (.bool true) ∧ Below w.heap.size w w' := by
  have ON := Lib.hid hOpen_nil
  have LI := Lib.hid lives_any
  go_enter Try.func4, Try.ntmps4
  have Z0 := Lib.hid (Blk.new w 50 #[.pointer none, .int .i64 0, .slice none 0 0, .bool false])
  have B0 := Lib.hid (below_alloc (Below.refl _ w) (.cells #[.pointer none, .int .i64 0, .slice none 0 0, .bool false] 50))
  go_wp2_with fail
  go_loopw [7, 8, 9, 10, 11, 15] (fun _ _ _ _ _ v15 wr => ∃ i : Nat, v15 = .int .i64 (i : Int) ∧ i ≤ 2 ∧ Hid (Blk wr w.heap.size 50 #[.pointer none, .int .i64 0, .slice none 0 0, .bool false]) ∧ Hid (Below w.heap.size w wr)) (fun _ _ _ _ _ v15 _ => 2 - (intOf v15).toNat)
  case atStart => exact ⟨0, rfl, by omega, Z0, B0⟩
  case round =>
    obtain ⟨i, rfl, hi, BZ, BW⟩ := hrel
    rcases i with _ | _ | _ | i
    · have i0 : ∀ W, (Instr.index 51 (.agg #[.pointer none, .pointer (some ⟨w.heap.size, 0, none⟩)]) (.int .i64 0)).run Try.prog W = .ok (.pointer none) W := fun _ => by kernel_rfl
      have UN : UnM wr none := ⟨.inl rfl⟩
      have AD := Lib.hid (unAdd wr none n n v UN)
      have UNH := Lib.hid UN
      clear UN
      go_wp2_with fail
      refine AD.out.mono ?_
      rintro e w1 ⟨rfl, hb⟩
      have B1 := Lib.hid hb
      have EX := Lib.hid (unExpire w1 none n n (UNH.out.keep hb))
      clear hb AD
      go_wp2_with fail
      refine EX.out.mono ?_
      rintro e w2 ⟨rfl, hb⟩
      have B2 := Lib.hid (below_tr B1.out hb)
      clear hb EX B1
      have DR := Lib.hid (unDrop w2 none n (UNH.out.keep B2.out))
      go_wp2_with fail
      refine DR.out.mono ?_
      rintro e w3 ⟨rfl, hb⟩
      have B3 := Lib.hid (below_tr B2.out hb)
      clear hb DR B2
      have AL := Lib.hid (unAll w3 none (UNH.out.keep B3.out))
      go_wp2_with fail
      refine AL.out.mono ?_
      rintro e w4 ⟨rfl, hb⟩
      have B4 := Lib.hid (below_tr B3.out hb)
      clear hb AL B3
      have FO := Lib.hid (unFor w4 none n (UNH.out.keep B4.out))
      go_wp2_with fail
      refine FO.out.mono ?_
      rintro e w5 ⟨rfl, hb⟩
      have B5 := Lib.hid (below_tr B4.out hb)
      clear hb FO B4
      go_wp2_with fail
      exact ⟨⟨1, by first | rfl | go_num, by omega, Lib.hid (BZ.out.below B5.out), Lib.hid (below_tr BW.out B5.out)⟩, by simp [intOf]⟩
    · have i1 : ∀ W, (Instr.index 51 (.agg #[.pointer none, .pointer (some ⟨w.heap.size, 0, none⟩)]) (.int .i64 1)).run Try.prog W = .ok (.pointer (some ⟨w.heap.size, 0, none⟩)) W := fun _ => by kernel_rfl
      have UN : UnM wr (some ⟨w.heap.size, 0, none⟩) := ⟨.inr ⟨_, rfl, BZ.out.cell 0 rfl⟩⟩
      have AD := Lib.hid (unAdd wr (some ⟨w.heap.size, 0, none⟩) n n v UN)
      have UNH := Lib.hid UN
      clear UN
      go_wp2_with fail
      refine AD.out.mono ?_
      rintro e w1 ⟨rfl, hb⟩
      have B1 := Lib.hid hb
      have EX := Lib.hid (unExpire w1 (some ⟨w.heap.size, 0, none⟩) n n (UNH.out.keep hb))
      clear hb AD
      go_wp2_with fail
      refine EX.out.mono ?_
      rintro e w2 ⟨rfl, hb⟩
      have B2 := Lib.hid (below_tr B1.out hb)
      clear hb EX B1
      have DR := Lib.hid (unDrop w2 (some ⟨w.heap.size, 0, none⟩) n (UNH.out.keep B2.out))
      go_wp2_with fail
      refine DR.out.mono ?_
      rintro e w3 ⟨rfl, hb⟩
      have B3 := Lib.hid (below_tr B2.out hb)
      clear hb DR B2
      have AL := Lib.hid (unAll w3 (some ⟨w.heap.size, 0, none⟩) (UNH.out.keep B3.out))
      go_wp2_with fail
      refine AL.out.mono ?_
      rintro e w4 ⟨rfl, hb⟩
      have B4 := Lib.hid (below_tr B3.out hb)
      clear hb AL B3
      have FO := Lib.hid (unFor w4 (some ⟨w.heap.size, 0, none⟩) n (UNH.out.keep B4.out))
      go_wp2_with fail
      refine FO.out.mono ?_
      rintro e w5 ⟨rfl, hb⟩
      have B5 := Lib.hid (below_tr B4.out hb)
      clear hb FO B4
      go_wp2_with fail
      exact ⟨⟨2, by first | rfl | go_num, by omega, Lib.hid (BZ.out.below B5.out), Lib.hid (below_tr BW.out B5.out)⟩, by simp [intOf]⟩
    · go_wp2_with fail
      refine (ON.out _).mono ?_
      rintro e w1 ⟨rfl, hb⟩
      have B1 := Lib.hid (below_tr BW.out hb)
      clear hb
      go_wp2_with fail
      refine (LI.out _).mono ?_
      rintro e w2 ⟨rfl, hb⟩
      have B2 := Lib.hid (below_tr B1.out hb)
      clear hb
      go_wp2_with fail
      go_ret
      exact ⟨rfl, B2.out⟩
    · omega
end Go.Proofs.Ytefndmjimmbhnaa
end
