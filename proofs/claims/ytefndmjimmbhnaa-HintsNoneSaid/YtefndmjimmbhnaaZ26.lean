/- Words on a disk in memory: its own block, the map of names, the pages, their bytes, the line of marks; what an operation turns. No condition. -/
import Derived.Test.YtefndmjimmbhnaaZ24
import Derived.Test.YtefndmjimmbhnaaZ25
import Derived.Test.YtefndmjimmbhnaaZ47
import Derived.Test.YtefndmjimmbhnaaZ15
section
set_option linter.unusedVariables false
set_option linter.unusedSimpArgs false
set_option maxRecDepth 20000
namespace Go.Proofs.Ytefndmjimmbhnaa
open Go.RowKit

def zMark : Value := .agg #[.pointer none, .int .i64 0]
theorem infoMark : (Try.prog.info? 84).map (fun i => (i.zero, i.size, i.bytes)) = some (some zMark, 2, 16) := by kernel_rfl
def markEnc (p : Nat × Nat) : List Value := [ptrV p.1, .int .i64 (p.2 : Int)]
/-- marks -/
def eM : El (Nat × Nat) := { st := 66, t := 84, size := 2, bytes := 16, z := zMark, enc := markEnc, len := fun _ => rfl, one := fun x u hu => by simp [markEnc] at hu; rcases hu with rfl | rfl <;> rfl, info := infoMark, und := Try.underlying66, elem := by kernel_rfl, zs := by kernel_rfl, pos := by decide }
def rowV (r : Option Nat) (n c : Nat) : Value := .slice (r.map fun g => ⟨g, 0, none⟩) n c
theorem rowV_own (r : Option Nat) (n c : Nat) : (rowV r n c).ownBlock = r := by cases r <;> rfl

/-- a page -/
structure PgW (W : World) (f : Fil) : Prop where
  ex : ∃ c, Blk W f.a 86 #[rowV f.r f.b.length c, .int .i64 (f.wr : Int)] ∧ OwnB W 0 (rowV f.r f.b.length c) f.b
structure DiskW (W : World) (D : Dsk) : Prop where
  main : ∃ ops lc, Blk W D.d 68 #[.int .i64 D.room, .map (some D.m), rowV D.lr D.line.length lc, .bool D.dark, .int .i64 ops, .int .i64 D.plan, .int .i64 D.keep] ∧ OwnX eM W 0 (rowV D.lr D.line.length lc) D.line
  mp : MapS W D.m (D.l.map fun f => (f.n, f.a))
  pg : ∀ f ∈ D.l, PgW W f
  ok : D.Ok
section
variable {W W1 W2 w : World} {D D' D1 D2 : Dsk}
theorem ownX_lt {α : Type} {E : El α} {base g n c : Nat} {l : List α} (h : OwnX E W base (rowV (some g) n c) l) : g < W.heap.size := (World.ownsRow.lt h g rfl).2
theorem ownB_lt {base g n c : Nat} {l : List UInt8} (h : OwnB W base (rowV (some g) n c) l) : g < W.heap.size := (World.ownsRow.lt h g rfl).2
theorem DiskW.foot_lt (h : DiskW W D) : ∀ k, D.foot k → k < W.heap.size := by
  intro k hk
  obtain ⟨ops, lc, h1, h2⟩ := h.main
  rcases hk with rfl | rfl | hk | ⟨f, hf, rfl | hk⟩
  · exact h1.lt
  · exact h.mp.lt
  · rw [hk] at h2; exact ownX_lt h2
  · obtain ⟨c, h3, _⟩ := (h.pg f hf).ex; exact h3.lt
  · obtain ⟨c, _, h4⟩ := (h.pg f hf).ex; rw [hk] at h4; exact ownB_lt h4
theorem PgW.below {f : Fil} (h : PgW W f) (hb : Below W.heap.size W W1) : PgW W1 f := by
  obtain ⟨c, h1, h2⟩ := h.ex
  exact ⟨c, h1.below hb, h2.below hb⟩
theorem DiskW.below (h : DiskW W D) (hb : Below W.heap.size W W1) : DiskW W1 D := by
  obtain ⟨ops, lc, h1, h2⟩ := h.main
  exact ⟨⟨ops, lc, h1.below hb, h2.below hb⟩, h.mp.below hb, fun f hf => (h.pg f hf).below hb, h.ok⟩
theorem OwnB.grown {base : Nat} {v : Value} {l : List UInt8} {row : Option Nat} (h : OwnB W base v l) (hg : W.grownBy W1 row) (hne : v.ownBlock = none ∨ v.ownBlock ≠ row) : OwnB W1 base v l := World.ownsRow.kept h hg hne
theorem PgW.grown {f : Fil} {row : Option Nat} (h : PgW W f) (hg : W.grownBy W1 row) (h1 : some f.a ≠ row) (h2 : f.r = none ∨ f.r ≠ row) : PgW W1 f := by
  obtain ⟨c, h3, h4⟩ := h.ex
  exact ⟨c, h3.grown hg h1, h4.grown hg (by rw [rowV_own]; exact h2)⟩

/-! no two parts of a disk are one block -/
theorem own_blk_ne {α : Type} {E : El α} {base g n c k : Nat} {l : List α} {t : TypeId} {cs : Array Value} (h : OwnX E W base (rowV (some g) n c) l) (hb : Blk W k t cs) (ht : E.t ≠ t) : k ≠ g := by
  rintro rfl
  rcases h.2 with ⟨h', _⟩ | ⟨g', cap, cur, h', _, hh, _⟩
  · cases h'
  · have e : k = g' := by
      unfold rowV at h'
      simp only [Option.map_some, Value.slice.injEq, Option.some.injEq, Addr.mk.injEq, and_true] at h'
      exact h'.1
    subst e
    unfold Blk at hb
    rw [hb] at hh
    injection hh with hh
    injection hh with _ e2
    exact ht e2.symm
theorem own_map_ne {α : Type} {E : El α} {base g n c k : Nat} {l : List α} {m : List (ByteArray × Nat)} (h : OwnX E W base (rowV (some g) n c) l) (hb : MapS W k m) : k ≠ g := by
  rintro rfl
  obtain ⟨es, clock, h1, _⟩ := hb.ex
  rcases h.2 with ⟨h', _⟩ | ⟨g', cap, cur, h', _, hh, _⟩
  · cases h'
  · have e : k = g' := by
      unfold rowV at h'
      simp only [Option.map_some, Value.slice.injEq, Option.some.injEq, Addr.mk.injEq, and_true] at h'
      exact h'.1
    subst e
    rw [h1] at hh
    cases hh
theorem own_own_ne {α β : Type} {E : El α} {F : El β} {base base' g n c k n' c' : Nat} {l : List α} {l' : List β} (h : OwnX E W base (rowV (some g) n c) l) (h' : OwnX F W base' (rowV (some k) n' c') l') (ht : E.t ≠ F.t) : k ≠ g := by
  rintro rfl
  rcases h.2 with ⟨e1, _⟩ | ⟨g', cap, cur, e1, _, hh, _⟩
  · cases e1
  · rcases h'.2 with ⟨e2, _⟩ | ⟨g2, cap2, cur2, e2, _, hh2, _⟩
    · cases e2
    · unfold rowV at e1 e2
      simp only [Option.map_some, Value.slice.injEq, Option.some.injEq, Addr.mk.injEq, and_true] at e1 e2
      obtain ⟨rfl, -⟩ := e1
      obtain ⟨rfl, -⟩ := e2
      rw [hh] at hh2
      injection hh2 with hh2
      injection hh2 with _ e3
      exact ht e3
theorem blk_map_ne {k m : Nat} {t : TypeId} {cs : Array Value} {l : List (ByteArray × Nat)} (h : Blk W k t cs) (hm : MapS W m l) : k ≠ m := by
  rintro rfl
  obtain ⟨es, clock, h1, _⟩ := hm.ex
  unfold Blk at h
  rw [h] at h1
  cases h1
/-- all parts' blocks are apart -/
structure DistD (D : Dsk) : Prop where
  dm : D.d ≠ D.m
  dl : D.lr ≠ some D.d
  ml : D.lr ≠ some D.m
  da : ∀ f ∈ D.l, f.a ≠ D.d
  ma : ∀ f ∈ D.l, f.a ≠ D.m
  la : ∀ f ∈ D.l, D.lr ≠ some f.a
  dr : ∀ f ∈ D.l, f.r ≠ some D.d
  mr : ∀ f ∈ D.l, f.r ≠ some D.m
  lr : ∀ f ∈ D.l, f.r = none ∨ f.r ≠ D.lr
  ar : ∀ f ∈ D.l, ∀ g ∈ D.l, f.r ≠ some g.a
theorem DiskW.dist (h : DiskW W D) : DistD D := by
  obtain ⟨ops, lc, h1, h2⟩ := h.main
  have hl : ∀ g, D.lr = some g → OwnX eM W 0 (rowV (some g) D.line.length lc) D.line := fun g e => by rw [← e]; exact h2
  have hr : ∀ f ∈ D.l, ∀ g, f.r = some g → ∃ c, OwnX eB W 0 (rowV (some g) f.b.length c) f.b := fun f hf g e => by
    obtain ⟨c, _, h4⟩ := (h.pg f hf).ex
    rw [e] at h4
    exact ⟨c, own_eB.2 h4⟩
  have ha : ∀ f ∈ D.l, ∃ cs, Blk W f.a 86 cs := fun f hf => by
    obtain ⟨c, h3, _⟩ := (h.pg f hf).ex; exact ⟨_, h3⟩
  refine ⟨blk_map_ne h1 h.mp, fun e => own_blk_ne (hl _ e) h1 (by decide) rfl, fun e => own_map_ne (hl _ e) h.mp rfl, fun f hf => ?_, fun f hf => ?_, fun f hf e => ?_, fun f hf e => ?_, fun f hf e => ?_, fun f hf => ?_, fun f hf g hg e => ?_⟩
  · obtain ⟨cs, hb⟩ := ha f hf; exact hb.ne h1 (by decide)
  · obtain ⟨cs, hb⟩ := ha f hf; exact blk_map_ne hb h.mp
  · obtain ⟨cs, hb⟩ := ha f hf; exact own_blk_ne (hl _ e) hb (by decide) rfl
  · obtain ⟨c, ho⟩ := hr f hf _ e; exact own_blk_ne ho h1 (by decide) rfl
  · obtain ⟨c, ho⟩ := hr f hf _ e; exact own_map_ne ho h.mp rfl
  · cases e : f.r with
    | none => exact .inl rfl
    | some g =>
      refine .inr fun e2 => ?_
      obtain ⟨c, ho⟩ := hr f hf g e
      exact own_own_ne ho (hl g e2.symm) (by decide) rfl
  · obtain ⟨c, ho⟩ := hr f hf _ e
    obtain ⟨cs, hb⟩ := ha g hg
    exact own_blk_ne ho hb (by decide) rfl

theorem wp_forget {K : Act → World → Prop} {a : Act} {W : World} (R : World → Prop) (hR : R W) (h : ∀ w2, R w2 → K a w2) : K a W := h W hR
theorem But.of_grown {w w1 : World} {g : Nat} (h : w.grownBy w1 (some g)) : But (· = g) w w1 := ⟨h.os, h.tape, h.output, h.size, fun k hk hn => h.block k hk (fun e => hn (by injection e))⟩
theorem Blk.setCells {g : Nat} {t : TypeId} : ∀ (vs : List Value) (o : Nat) (w : World) (cs : Array Value), Blk w g t cs → ∃ cs', Blk (w.setCells g o vs) g t cs' ∧ cs'.size = cs.size ∧ (∀ j, j < o → cs'[j]? = cs[j]?) ∧ ∀ j, j < vs.length → o + vs.length ≤ cs.size → cs'[o + j]? = vs[j]?
  | [], o, w, cs, h => ⟨cs, h, rfl, fun _ _ => rfl, fun j hj => absurd hj (by simp)⟩
  | u :: vs, o, w, cs, h => by
    obtain ⟨cs', h1, h2, h3, h4⟩ := Blk.setCells vs (o + 1) (w.setCell ⟨g, o, none⟩ u) (cs.setIfInBounds o u) (h.put o u)
    refine ⟨cs', h1, by rw [h2]; simp, fun j hj => ?_, fun j hj hle => ?_⟩
    · rw [h3 j (by omega)]; exact Array.getElem?_setIfInBounds_ne (by omega)
    · simp only [List.length_cons] at hj hle
      rcases j with _ | j
      · rw [h3 (o + 0) (by omega), Nat.add_zero, Array.getElem?_setIfInBounds_self_of_lt (by omega)]; rfl
      · rw [show o + (j + 1) = o + 1 + j by omega, h4 j (by omega) (by simp; omega)]; rfl
theorem gb_cell {w w1 : World} {g : Nat} (h : w.grownBy w1 (some g)) (i : Nat) (u : Value) : w.grownBy (w1.setCell ⟨g, i, none⟩ u) (some g) :=
  ⟨h.os, h.tape, h.output, by simpa [World.setCell] using h.size, fun k hk hne => (Below.heap_setCell w1 ⟨g, i, none⟩ u k (fun e => hne (by rw [e]))).trans (h.block k hk hne)⟩
theorem gb_setCells {g : Nat} : ∀ (vs : List Value) (o : Nat) (w w1 : World), w.grownBy w1 (some g) → w.grownBy (w1.setCells g o vs) (some g)
  | [], _, _, _, h => h
  | u :: vs, o, w, w1, h => gb_setCells vs (o + 1) w _ (gb_cell h o u)
/-- what stays owned when a slice is cut, and cells behind the cut are written -/
theorem OwnX.cutTo {α : Type} {E : El α} {base g n cap i : Nat} {l : List α} (h : OwnX E w base (.slice (some ⟨g, 0, none⟩) n cap) l) (hi : i ≤ l.length) (vs : List Value) : OwnX E (w.setCells g (i * E.size) vs) base (.slice (some ⟨g, 0, none⟩) i cap) (l.take i) := by
  obtain ⟨h1, h2⟩ := h
  rcases h2 with ⟨h2, _⟩ | ⟨g', cap', cur, e, hg, hh, hn, hm, hs, ht⟩
  · cases h2
  · simp only [Value.slice.injEq, Option.some.injEq, Addr.mk.injEq, and_true] at e
    obtain ⟨rfl, hl, rfl⟩ := e
    obtain ⟨cs', k1, k2, k3, _⟩ := Blk.setCells vs (i * E.size) w cur hh
    have e1 : (l.take i).length = i := by simp; omega
    refine ⟨by rw [El.cells_len, e1], .inr ⟨g, cap, cs', by rw [e1], hg, k1, by rw [e1]; omega, hm, by rw [k2, hs], ?_⟩⟩
    rw [e1]
    refine List.ext_getElem? fun j => ?_
    by_cases hj : j < i * E.size
    · rw [List.getElem?_take_of_lt hj, Array.getElem?_toList, k3 j hj]
      have e2 : (E.cells (l.take i))[j]? = (E.cells l)[j]? := by
        conv => rhs; rw [← List.take_append_drop i l, El.cells_app]
        rw [List.getElem?_append_left (by rw [El.cells_len, e1]; exact hj)]
      rw [e2, ← ht, List.getElem?_take_of_lt (Nat.lt_of_lt_of_le hj (Nat.mul_le_mul_right _ hi)), Array.getElem?_toList]
    · rw [List.getElem?_eq_none (by simp; omega), List.getElem?_eq_none (by rw [El.cells_len, e1]; omega)]
theorem OwnX.cut {α : Type} {E : El α} {base g n cap i : Nat} {l : List α} (h : OwnX E w base (.slice (some ⟨g, 0, none⟩) n cap) l) (hi : i ≤ l.length) : OwnX E w base (.slice (some ⟨g, 0, none⟩) i cap) (l.take i) := h.cutTo hi []
/-! what an operation turns -/
/-- from w with the disk D to w' with D': all blocks but D's are as they were; what is D's then was D's, or is new. -/
structure Mv (w : World) (D : Dsk) (w' : World) (D' : Dsk) : Prop where
  dw : DiskW w' D'
  but : But D.foot w w'
  foot : ∀ k, D'.foot k → D.foot k ∨ w.heap.size ≤ k
  d : D'.d = D.d
theorem Mv.refl (h : DiskW w D) (hb : Below w.heap.size w W) : Mv w D W D := ⟨h.below hb, But.of_below _ hb, fun k hk => .inl hk, rfl⟩
theorem Mv.trans (h : Mv w D W1 D1) (k : Mv W1 D1 W2 D2) : Mv w D W2 D2 := by
  have hs := h.but.size
  refine ⟨k.dw, ⟨k.but.os.trans h.but.os, k.but.tape.trans h.but.tape, k.but.output.trans h.but.output, Nat.le_trans hs k.but.size, fun i hi hn => (k.but.block i (Nat.lt_of_lt_of_le hi hs) fun h1 => ?_).trans (h.but.block i hi hn)⟩, fun i hi => ?_, k.d.trans h.d⟩
  · rcases h.foot i h1 with h2 | h2
    · exact hn h2
    · omega
  · rcases k.foot i hi with h1 | h1
    · exact h.foot i h1
    · exact .inr (Nat.le_trans hs h1)
theorem Mv.tail (h : Mv w D W1 D1) (hb : Below W1.heap.size W1 W2) : Mv w D W2 D1 := h.trans (Mv.refl h.dw hb)
theorem Mv.head (h : DiskW w D) (hb : Below w.heap.size w W1) (k : Mv W1 D W2 D2) : Mv w D W2 D2 := (Mv.refl h hb).trans k
/-- a block that is not the disk's -/
structure Out (w : World) (D : Dsk) (k : Nat) : Prop where
  lt : k < w.heap.size
  far : ¬ D.foot k
theorem Mv.out {k : Nat} (h : Mv w D W1 D1) (o : Out w D k) : Out W1 D1 k := ⟨Nat.lt_of_lt_of_le o.lt h.but.size, fun e => by
  rcases h.foot k e with h1 | h1
  · exact o.far h1
  · have := o.lt; omega⟩
theorem Out.below {k : Nat} (o : Out w D k) (hb : Below w.heap.size w W1) : Out W1 D k := ⟨Nat.lt_of_lt_of_le o.lt hb.size, o.far⟩
theorem Mv.blk {k : Nat} {t : TypeId} {cs : Array Value} (h : Mv w D W1 D1) (hb : Blk w k t cs) (o : ¬ D.foot k) : Blk W1 k t cs := hb.but h.but o
theorem DiskW.fresh (h : DiskW w D) {k : Nat} (hk : w.heap.size ≤ k) : ¬ D.foot k := fun e => by have := h.foot_lt k e; omega

/-! parts that stay -/
theorem ownX_but {α : Type} {E : El α} {base : Nat} {v : Value} {l : List α} {S : Nat → Prop} (h : OwnX E w base v l) (hb : But S w W1) (hs : ∀ k, v.ownBlock = some k → ¬ S k) : OwnX E W1 base v l := by
  have hlt := World.ownsRow.lt h
  obtain ⟨h1, h2⟩ := h
  refine ⟨h1, ?_⟩
  rcases h2 with h2 | ⟨g, cap, cur, e, hg, hh, r⟩
  · exact .inl h2
  · subst e
    exact .inr ⟨g, cap, cur, rfl, hg, (hb.block g (hlt g rfl).2 (hs g rfl)).trans hh, r⟩
theorem ownB_but {base : Nat} {v : Value} {l : List UInt8} {S : Nat → Prop} (h : OwnB w base v l) (hb : But S w W1) (hs : ∀ k, v.ownBlock = some k → ¬ S k) : OwnB W1 base v l := own_eB.1 (ownX_but (own_eB.2 h) hb hs)
theorem PgW.but {f : Fil} {S : Nat → Prop} (h : PgW w f) (hb : But S w W1) (h1 : ¬ S f.a) (h2 : ∀ k, f.r = some k → ¬ S k) : PgW W1 f := by
  obtain ⟨c, h3, h4⟩ := h.ex
  exact ⟨c, h3.but hb h1, ownB_but h4 hb (by rw [rowV_own]; exact h2)⟩
def MainW (W : World) (D : Dsk) : Prop := ∃ ops lc, Blk W D.d 68 #[.int .i64 D.room, .map (some D.m), rowV D.lr D.line.length lc, .bool D.dark, .int .i64 ops, .int .i64 D.plan, .int .i64 D.keep] ∧ OwnX eM W 0 (rowV D.lr D.line.length lc) D.line
theorem MainW.but {S : Nat → Prop} (h : MainW w D) (hb : But S w W1) (h1 : ¬ S D.d) (h2 : ∀ k, D.lr = some k → ¬ S k) : MainW W1 D := by
  obtain ⟨ops, lc, h3, h4⟩ := h
  exact ⟨ops, lc, h3.but hb h1, ownX_but h4 hb (by rw [rowV_own]; exact h2)⟩
theorem Mv.mk' {S : Nat → Prop} (hB : But S w W1) (hS : ∀ k, S k → D.foot k) (h0 : D'.d = D.d) (main : MainW W1 D') (mp : MapS W1 D'.m (D'.l.map fun f => (f.n, f.a))) (pg : ∀ f ∈ D'.l, PgW W1 f) (ok : D'.Ok)
    (foot : ∀ k, D'.foot k → D.foot k ∨ w.heap.size ≤ k) : Mv w D W1 D' := ⟨⟨main, mp, pg, ok⟩, hB.mono (fun k _ h => hS k h), foot, h0⟩
/-- only cells of the disk's own block are written -/
theorem Mv.main (h : DiskW w D) (hB : But (· = D.d) w W1) (D' : Dsk) (h0 : D'.d = D.d) (h1 : D'.m = D.m) (h2 : D'.l = D.l) (hlr : D'.lr = D.lr ∨ D'.lr = none) (main : MainW W1 D') (ok : D'.Ok) : Mv w D W1 D' := by
  have hd := h.dist
  refine Mv.mk' hB (fun k hk => .inl hk) h0 main ?_ (fun f hf => ?_) ok (fun k hk => .inl ?_)
  · rw [h1, h2]; exact h.mp.but hB (fun e => hd.dm e.symm)
  · rw [h2] at hf
    exact (h.pg f hf).but hB (hd.da f hf) (fun k e e2 => hd.dr f hf (by rw [e, e2]))
  · rcases hk with hk | hk | hk | ⟨f, hf, hk⟩
    · exact .inl (hk.trans h0)
    · exact .inr (.inl (hk.trans h1))
    · rcases hlr with e | e
      · exact .inr (.inr (.inl (e ▸ hk)))
      · rw [e] at hk; cases hk
    · exact .inr (.inr (.inr ⟨f, h2 ▸ hf, hk⟩))
end
end Go.Proofs.Ytefndmjimmbhnaa
end
