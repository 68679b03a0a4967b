/- Hints in memory, beside their disk; contracts of made and may. No condition but what a disk is. -/
import Derived.Test.YtefndmjimmbhnaaZ13
import Derived.Test.YtefndmjimmbhnaaZ23
import Derived.Test.YtefndmjimmbhnaaZ37
section
set_option linter.unusedVariables false
set_option linter.unusedSimpArgs false
set_option maxRecDepth 50000
namespace Go.Proofs.Ytefndmjimmbhnaa
open Go.RowKit Go.Shelf

/-- what the disk and the hints' own block did -/
structure Mh (gh : Nat) (w : World) (D : Dsk) (w' : World) (D' : Dsk) : Prop where
  but : But (fun k => D.foot k ∨ k = gh) w w'
  foot : ∀ k, D'.foot k → D.foot k ∨ w.heap.size ≤ k
  d : D'.d = D.d
theorem Mv.mh {w w' : World} {D D' : Dsk} (m : Mv w D w' D') (gh : Nat) : Mh gh w D w' D' := ⟨m.but.mono (fun k _ h => .inl h), m.foot, m.d⟩
theorem Mh.trans {gh : Nat} {w w1 w2 : World} {D D1 D2 : Dsk} (h : Mh gh w D w1 D1) (k : Mh gh w1 D1 w2 D2) : Mh gh w D w2 D2 := by
  have hs := h.but.size
  refine ⟨⟨k.but.os.trans h.but.os, k.but.tape.trans h.but.tape, k.but.output.trans h.but.output, Nat.le_trans hs k.but.size, fun i hi hn => (k.but.block i (Nat.lt_of_lt_of_le hi hs) fun h1 => ?_).trans (h.but.block i hi hn)⟩, fun i hi => ?_, k.d.trans h.d⟩
  · rcases h1 with h1 | h1
    · rcases h.foot i h1 with h2 | h2
      · exact hn (.inl h2)
      · omega
    · exact hn (.inr h1)
  · rcases k.foot i hi with h1 | h1
    · exact h.foot i h1
    · exact .inr (Nat.le_trans hs h1)
theorem Mh.put {gh : Nat} {w w1 : World} {D D1 : Dsk} (h : Mh gh w D w1 D1) (i : Nat) (u : Value) : Mh gh w D (w1.setCell ⟨gh, i, none⟩ u) D1 := ⟨h.but.setCell (p := ⟨gh, i, none⟩) (.inr rfl) u, h.foot, h.d⟩
/-- a slice that is not the disk's, nor the hints' own block -/
structure SlF {α : Type} (E : El α) (W : World) (D : Dsk) (gh : Nat) (v : Value) (l : List α) : Prop where
  sl : SlX E W.heap.size W v l
  far : ∀ ad n c, v = .slice (some ad) n c → ad.block < W.heap.size ∧ ¬ D.foot ad.block ∧ ad.block ≠ gh
section
variable {W W1 : World} {D D1 : Dsk} {gh : Nat}
theorem SlF.mh {α : Type} {E : El α} {v : Value} {l : List α} (h : SlF E W D gh v l) (m : Mh gh W D W1 D1) : SlF E W1 D1 gh v l :=
  ⟨h.sl.aside m.but (fun ad n c e hk => by
    obtain ⟨_, h2, h3⟩ := h.far ad n c e
    rcases hk with h1 | h1
    · exact h2 h1
    · exact h3 h1), fun ad n c e => by
    obtain ⟨h1, h2, h3⟩ := h.far ad n c e
    refine ⟨Nat.lt_of_lt_of_le h1 m.but.size, fun hk => ?_, h3⟩
    rcases m.foot _ hk with h4 | h4
    · exact h2 h4
    · omega⟩
theorem SlF.own {α : Type} {E : El α} {base : Nat} {v : Value} {l : List α} (h : OwnX E W1 base v l) (hd : DiskW W D) (hb : W.heap.size ≤ base) (hg : gh < base) : SlF E W1 D gh v l :=
  ⟨h.sl, fun ad n c e => by
    subst e
    have hbb := OwnX.base h ad.block rfl
    exact ⟨(World.ownsRow.lt h ad.block rfl).2, hd.fresh (Nat.le_trans hb hbb), by omega⟩⟩
/-- hints that are not the disk's -/
structure HnsF (W : World) (D : Dsk) (gh : Nat) (qs : List Hq) (l : List Hn) : Prop where
  len : qs.length = l.length
  at_ : ∀ (i : Nat) (h1 : i < qs.length) (h2 : i < l.length), qs[i].id = l[i].id ∧ qs[i].nd = l[i].nd ∧ qs[i].tm = l[i].tm ∧ SlF eC W D gh qs[i].val l[i].L
theorem HnsF.mh {qs : List Hq} {l : List Hn} (h : HnsF W D gh qs l) (m : Mh gh W D W1 D1) : HnsF W1 D1 gh qs l := ⟨h.len, fun i h1 h2 => by
  obtain ⟨a, b, c, d⟩ := h.at_ i h1 h2
  exact ⟨a, b, c, d.mh m⟩⟩
theorem HnsF.w {qs : List Hq} {l : List Hn} (h : HnsF W D gh qs l) : HnsW W qs l := ⟨h.len, fun i h1 h2 => by
  obtain ⟨a, b, c, d⟩ := h.at_ i h1 h2
  exact ⟨a, b, c, d.sl⟩⟩
theorem HnsF.own {base : Nat} {qs : List Hq} {l : List Hn} (h : HnsO W1 base qs l) (hd : DiskW W D) (hb : W.heap.size ≤ base) (hg : gh < base) : HnsF W1 D gh qs l := ⟨h.len, fun i h1 h2 => by
  obtain ⟨a, b, c, d⟩ := h.at_ i h1 h2
  exact ⟨a, b, c, SlF.own d hd hb hg⟩⟩
/-- hints, beside their disk -/
structure HW (W : World) (D : Dsk) (gh : Nat) (nx : Int) (l : List Hn) (dead : Bool) : Prop where
  dw : DiskW W D
  ex : ∃ qs a c, Blk W gh 50 #[ptrV D.d, .int .i64 nx, .slice a qs.length c, .bool dead] ∧ SlF eT W D gh (.slice a qs.length c) qs ∧ HnsF W D gh qs l
  out : ¬ D.foot gh
theorem HW.mv {nx : Int} {l : List Hn} {dead : Bool} (h : HW W D gh nx l dead) (m : Mv W D W1 D1) : HW W1 D1 gh nx l dead := by
  obtain ⟨qs, a, c, h1, h2, h3⟩ := h.ex
  refine ⟨m.dw, ⟨qs, a, c, ?_, h2.mh (m.mh gh), h3.mh (m.mh gh)⟩, fun hk => ?_⟩
  · rw [m.d]; exact h1.but m.but h.out
  · rcases m.foot _ hk with h4 | h4
    · exact h.out h4
    · have := h1.lt; omega
theorem HW.below {nx : Int} {l : List Hn} {dead : Bool} (h : HW W D gh nx l dead) (hb : Below W.heap.size W W1) : HW W1 D gh nx l dead := h.mv (Mv.refl h.dw hb)
end
theorem made_nil (w : World) : Calls Try.prog 24 #[.pointer none] w fun e w' => e = .returned (.bool false) ∧ Below w.heap.size w w' := by
  go_enter Try.func24, Try.ntmps24
  go_wp2_with fail
  go_ret
  exact ⟨rfl, Below.refl _ _⟩
theorem made_any (D : Dsk) (gh : Nat) (nx : Int) (l : List Hn) (dead : Bool) (w : World) (h : HW w D gh nx l dead) : Calls Try.prog 24 #[ptrV gh] w fun e w' => e = .returned (.bool true) ∧ Below w.heap.size w w' := by
  obtain ⟨qs, a, c, h1, _, _⟩ := h.ex
  have c0 := h1.cell 0 rfl
  clear h h1
  simp only [ptrV] at *
  go_enter Try.func24, Try.ntmps24
  go_wp2_with fail
  go_ret
  exact ⟨rfl, Below.refl _ _⟩
theorem may_any (D : Dsk) (gh : Nat) (nx : Int) (l : List Hn) (dead : Bool) (w : World) (h : HW w D gh nx l dead) : Calls Try.prog 26 #[ptrV gh] w fun e w' => e = .returned (.int .i64 (if (dead || D.dark) = true then 9 else 0)) ∧ Below w.heap.size w w' := by
  obtain ⟨R, hR⟩ : ∃ R : Int, (if (dead || D.dark) = true then 9 else 0) = R := ⟨_, rfl⟩
  rw [hR]
  have HR := Lib.hid hR
  clear hR
  have M := Lib.hid (made_any D gh nx l dead w h)
  have HH := Lib.hid h
  clear h
  simp only [ptrV] at *
  go_enter Try.func26, Try.ntmps26
  go_wp2_with fail
  refine M.out.mono ?_
  rintro e w1 ⟨rfl, hb⟩
  have HH1 := Lib.hid (HH.out.below hb); have HB := Lib.hid hb
  clear hb M HH
  obtain ⟨qs, a, c, h1, _, _⟩ := HH1.out.ex
  have c0 := h1.cell 0 rfl
  simp only [ptrV] at c0
  cases dead
  · have c3 : w1.cell? ⟨gh, 3, none⟩ = some (.bool false) := h1.cell 3 rfl
    have ON := Lib.hid (on_any D w1 HH1.out.dw)
    clear h1
    simp only [ptrV] at *
    cases hd : D.dark
    · have E := HR.out; rw [hd] at ON E
      have EE := Lib.hid E; clear E HR hd
      go_wp2_with fail
      refine ON.out.mono ?_
      rintro e w2 ⟨rfl, hb⟩
      have HB2 := Lib.hid (below_tr HB.out hb)
      clear hb ON
      go_wp2_with fail
      go_ret
      exact ⟨by rw [← EE.out]; rfl, HB2.out⟩
    · have E := HR.out; rw [hd] at ON E
      have EE := Lib.hid E; clear E HR hd
      go_wp2_with fail
      refine ON.out.mono ?_
      rintro e w2 ⟨rfl, hb⟩
      have HB2 := Lib.hid (below_tr HB.out hb)
      clear hb ON
      go_wp2_with fail
      go_ret
      exact ⟨by rw [← EE.out]; rfl, HB2.out⟩
  · have c3 : w1.cell? ⟨gh, 3, none⟩ = some (.bool true) := h1.cell 3 rfl
    clear h1
    go_wp2_with fail
    go_ret
    exact ⟨by rw [← HR.out]; rfl, HB.out⟩
end Go.Proofs.Ytefndmjimmbhnaa
end
