/- Contracts of the disk's forget and unlink. No condition but what a disk is. -/
import Derived.Test.YtefndmjimmbhnaaZ30
import Derived.Test.YtefndmjimmbhnaaZ24
import Derived.Shelf.Abstract
section
set_option linter.unusedVariables false
set_option linter.unusedSimpArgs false
set_option maxRecDepth 50000
namespace Go.Proofs.Ytefndmjimmbhnaa
open Go.RowKit Go.Shelf

theorem own_len {α : Type} {E : El α} {w : World} {base : Nat} {v : Value} {l : List α} (h : OwnX E w base v l) : l.length ≤ 9223372036854775807 := by
  rcases h.2 with ⟨_, h0⟩ | ⟨g, cap, cur, _, _, _, h1, h2, _⟩
  · omega
  · unfold maxLen at h2; omega
theorem ptr_bin {w : World} {p q : Nat} (hp : Is w p) (hq : Is w q) : (binOp .eql 82 (ptrV p) (ptrV q)).run Try.prog w = .ok (.bool (decide (p = q))) w := by
  have h : (Op.equalIn Op.maxDepth 82 (.pointer (some ⟨p, 0, none⟩)) (ptrV q)).run Try.prog w = .ok (decide (p = q)) w := ptr_eq (d := 9999) hp hq
  simp [binOp, go_sem, Op.equal, h, Result.andThen]
theorem forget1_any (a n p box : Nat) (w : World) (hbox : w.cell? ⟨box, 0, none⟩ = some (ptrV p)) (ha : Is w a) (hp : Is w p) :
    Calls Try.prog 97 #[.agg #[ptrV a, .int .i64 (n : Int)], .pointer (some ⟨box, 0, none⟩)] w fun e w' => e = .returned (.bool (decide (a = p))) ∧ Below w.heap.size w w' := by
  have B0 := below_alloc (Below.refl _ w) (.cells #[ptrV a, .int .i64 (n : Int)] 84)
  have PE := ptr_bin (ha.below B0) (hp.below B0)
  have kb := Blk.new w 84 #[ptrV a, .int .i64 (n : Int)]
  have c0 := kb.cell 0 rfl
  have b0 := cell_keep B0 hbox
  have HB0 := Lib.hid B0
  simp only [ptrV] at *
  generalize decide (a = p) = r at *
  clear kb ha hp hbox B0
  go_enter Try.func97, Try.ntmps97
  go_wp2_with fail
  go_ret
  exact ⟨rfl, HB0.out⟩

theorem delM_row (f : Nat) (caps : Array Value) (eg : ∀ args w, (callFunc f args).run Try.prog w = .ok (.enter f args) w) (r : Option Nat) (L : List (Nat × Nat)) (b : Nat × Nat → Bool) (cap : Nat) (w : World) (GA : ∀ g, r = some g → AsksM f caps g w L b)
    (HO : OwnX eM w 0 (rowV r L.length cap) L) (hl : L.length ≤ 9223372036854775807) :
    Calls Try.prog 96 #[rowV r L.length cap, .func (.func f) #[] caps] w
      fun e w' => e = .returned (rowV r (L.filter (fun x => !b x)).length cap) ∧ OwnX eM w' 0 (rowV r (L.filter (fun x => !b x)).length cap) (L.filter (fun x => !b x)) ∧ But (fun k => r = some k) w w' := by
  cases r with
  | some g =>
    have h2 := HO.2
    rcases h2 with ⟨h, _⟩ | ⟨g', cap', cur, h, _, _, h3, h4, _, _⟩
    · cases h
    · unfold rowV at h
      simp only [Option.map_some, Value.slice.injEq, Option.some.injEq, Addr.mk.injEq, and_true] at h
      obtain ⟨rfl, _, rfl⟩ := h
      refine (delM_any f caps eg w L b g cap w (GA g rfl) HO (But.refl _ _) hl h3 (by unfold maxLen at h4; exact h4)).mono ?_
      rintro e w' ⟨rfl, h5, h6⟩
      exact ⟨rfl, h5, h6.mono (fun k _ hk => by rw [hk])⟩
  | none =>
    have h2 := HO.2
    rcases h2 with ⟨h, h0⟩ | ⟨g', cap', cur, h, _⟩
    · have hL : L = [] := List.eq_nil_of_length_eq_zero h0
      subst hL
      have hc : cap = 0 := by unfold rowV at h; simp at h; exact h
      subst hc
      have C := Lib.hid (idxM_any f caps eg 0 w [] b (.slice none 0 0) w (fun W _ x hx => by cases hx) (SlX.nil _ _ _) (But.refl _ _) (by simp))
      show Calls _ _ #[.slice none 0 0, _] _ _
      go_enter Try.func96, Try.ntmps96
      go_wp2_with fail
      refine C.out.mono ?_
      rintro e w1 ⟨r, rfl, hr, hb⟩
      obtain rfl : r = -1 := by
        rcases hr with ⟨e, _⟩ | ⟨k, hk, _⟩
        · exact e
        · simp at hk
      have HB := Lib.hid hb
      clear hr hb C
      go_wp2_with fail
      go_ret
      exact ⟨rfl, OwnX.nil _ _, But.of_below _ HB.out⟩
    · unfold rowV at h; cases h

theorem Dsk.Ok.forget {D : Dsk} (h : D.Ok) (a : Nat) : ({ D with line := forgetL D.line a } : Dsk).Ok :=
  { h with lnil := fun e => by show forgetL D.line a = []; rw [h.lnil e]; rfl, line := fun p hp => h.line p (forgetL_mem.1 hp).1, nodup := h.nodup.filter _ }
theorem forget_end {D : Dsk} {w : World} (h : DiskW w D) (f : Fil) (ops : Int) (lc : Nat) (w1 : World) (hB : But (fun k => D.lr = some k) w w1)
    (hm : Blk w1 D.d 68 #[.int .i64 D.room, .map (some D.m), rowV D.lr D.line.length lc, .bool D.dark, .int .i64 ops, .int .i64 D.plan, .int .i64 D.keep])
    (hO : OwnX eM w1 0 (rowV D.lr (forgetL D.line f.a).length lc) (forgetL D.line f.a)) :
    Mv w D (w1.setCell ⟨D.d, 2, none⟩ (rowV D.lr (forgetL D.line f.a).length lc)) { D with line := forgetL D.line f.a } := by
  have hd := h.dist
  have hS : But (fun k => k = D.d ∨ D.lr = some k) w (w1.setCell ⟨D.d, 2, none⟩ (rowV D.lr (forgetL D.line f.a).length lc)) := (hB.mono (fun k _ hk => .inr hk)).setCell (p := ⟨D.d, 2, none⟩) (.inl rfl) _
  have hB1 : But (· = D.d) w1 (w1.setCell ⟨D.d, 2, none⟩ (rowV D.lr (forgetL D.line f.a).length lc)) := (But.refl (· = D.d) w1).setCell (p := ⟨D.d, 2, none⟩) rfl _
  refine Mv.mk' hS (fun k hk => ?_) rfl ⟨ops, lc, hm.put 2 _, ownX_but hO hB1 (by rw [rowV_own]; exact fun k e e2 => hd.dl (by rw [e, e2]))⟩ ?_ (fun g hg => ?_) (h.ok.forget f.a) (fun k hk => .inl hk)
  · rcases hk with rfl | hk
    · exact .inl rfl
    · exact .inr (.inr (.inl hk))
  · exact h.mp.but hS (fun e => by
      rcases e with e | e
      · exact hd.dm e.symm
      · exact hd.ml e)
  · exact (h.pg g hg).but hS (fun e => by
      rcases e with e | e
      · exact hd.da g hg e
      · exact hd.la g hg e) (fun k e e2 => by
      rcases e2 with e2 | e2
      · exact hd.dr g hg (by rw [e, e2])
      · rcases hd.lr g hg with e3 | e3
        · rw [e3] at e; cases e
        · exact e3 (by rw [e, e2]))
set_option maxHeartbeats 1000000 in
theorem forget_any (D : Dsk) (f : Fil) (w : World) (h : DiskW w D) (hf : f ∈ D.l) :
    Calls Try.prog 88 #[ptrV D.d, ptrV f.a] w fun e w' => e = .returned (.tuple #[]) ∧ Mv w D w' { D with line := forgetL D.line f.a } := by
  have hd := h.dist
  obtain ⟨ops, lc, hm, hrow⟩ := h.main
  have hll : D.line.length ≤ 9223372036854775807 := own_len hrow
  have B0 := below_alloc (Below.refl _ w) (.cells #[ptrV f.a] 82)
  have hIs : ∀ g ∈ D.l, Is w g.a := fun g hg => by obtain ⟨c, h1, _⟩ := (h.pg g hg).ex; exact ⟨_, _, h1⟩
  have ASK : ∀ g, D.lr = some g → AsksM 97 #[.pointer (some ⟨w.heap.size, 0, none⟩)] g (w.alloc (.cells #[ptrV f.a] 82)) D.line (fun x => decide (x.1 = f.a)) := by
    intro g hg W hW x hx
    obtain ⟨y, hy, e1, e2⟩ := h.ok.line x hx
    have hgs : g < w.heap.size := by rw [hg] at hrow; exact ownX_lt hrow
    have hbox : W.cell? ⟨w.heap.size, 0, none⟩ = some (ptrV f.a) := hW.cell ((Blk.new w 82 #[ptrV f.a]).cell 0 rfl) (by show ¬ w.heap.size = g; omega)
    have ia : Is W x.1 := by rw [← e1]; exact ((hIs y hy).below B0).but hW (fun e => hd.la y hy (by rw [hg, e]))
    have ip : Is W f.a := ((hIs f hf).below B0).but hW (fun e => hd.la f hf (by rw [hg, e]))
    exact forget1_any x.1 x.2 f.a w.heap.size W hbox ia ip
  have C := Lib.hid (delM_row _ _ (enters_of Try.func97 (by kernel_rfl) rfl) D.lr D.line (fun x => decide (x.1 = f.a)) lc (w.alloc (.cells #[ptrV f.a] 82)) ASK (hrow.below B0) hll)
  have c2 := (hm.below B0).cell 2 rfl
  have HM := Lib.hid (hm.below B0); have HB0 := Lib.hid B0; have HH := Lib.hid h; have HD := Lib.hid hd
  clear ASK hm hrow h hd hll B0 hIs
  simp only [ptrV, rowV] at *
  go_enter Try.func88, Try.ntmps88
  go_wp2_with fail
  refine C.out.mono ?_
  rintro e w1 ⟨rfl, hO, hB⟩
  have B1 := Lib.hid ((But.of_below (fun k => D.lr = some k) HB0.out).trans hB)
  have M1 := Lib.hid (HM.out.but hB HD.out.dl)
  have O1 := Lib.hid hO
  have f2 := M1.out.frozen 2
  have e2 := M1.out.cell 2 rfl
  have FIN := Lib.hid (forget_end HH.out f ops lc w1 B1.out M1.out O1.out)
  clear hO hB c2 C
  simp only [rowV] at *
  go_wp2_with fail
  go_end0
  exact ⟨rfl, FIN.out⟩
end Go.Proofs.Ytefndmjimmbhnaa
end
