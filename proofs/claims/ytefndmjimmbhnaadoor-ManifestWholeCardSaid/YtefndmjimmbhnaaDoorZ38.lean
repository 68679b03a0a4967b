/- The law ManifestWhole, walked: it returns true. Conditions: numbers are of int64; what came in takes at most the form's reach. -/
import Derived.Test.YtefndmjimmbhnaaDoorZ37
import Derived.Test.YtefndmjimmbhnaaDoorZ32
section
set_option linter.unusedVariables false
set_option linter.unusedSimpArgs false
set_option maxRecDepth 50000
namespace Go.Proofs.YtefndmjimmbhnaaDoor
open Go.RowKit Go.Shelf

/-- the law's memory: its disk, and its variables a, b, x, was, is -/
structure LW (w : World) (ga gb gx gw gi : Nat) (ca cb cx cw ci : Array Value) (W : World) (D : Dsk) : Prop where
  below : Below w.heap.size w W
  dw : DiskW W D
  fresh : ∀ k, D.foot k → w.heap.size ≤ k
  ba : Blk W ga 24 ca
  bb : Blk W gb 24 cb
  bx : Blk W gx 26 cx
  bw : Blk W gw 30 cw
  bi : Blk W gi 30 ci
  na : ¬ D.foot ga
  nb : ¬ D.foot gb
  nx : ¬ D.foot gx
  nw : ¬ D.foot gw
  ni : ¬ D.foot gi
section
variable {w W W1 : World} {ga gb gx gw gi : Nat} {ca cb cx cw ci : Array Value} {D E : Dsk}
theorem Mv.stays {k : Nat} {t : TypeId} {cs : Array Value} (m : Mv W D W1 E) (hb : Blk W k t cs) (hn : ¬ D.foot k) : Blk W1 k t cs ∧ ¬ E.foot k :=
  ⟨hb.but m.but hn, fun e => by
    rcases m.foot k e with h | h
    · exact hn h
    · have := hb.lt; omega⟩
theorem LW.mv (h : LW w ga gb gx gw gi ca cb cx cw ci W D) (m : Mv W D W1 E) : LW w ga gb gx gw gi ca cb cx cw ci W1 E := by
  obtain ⟨a1, a2⟩ := m.stays h.ba h.na
  obtain ⟨b1, b2⟩ := m.stays h.bb h.nb
  obtain ⟨x1, x2⟩ := m.stays h.bx h.nx
  obtain ⟨w1, w2⟩ := m.stays h.bw h.nw
  obtain ⟨i1, i2⟩ := m.stays h.bi h.ni
  exact ⟨h.below.trans (m.but.below (B := w.heap.size) h.below.size (fun k hk => h.fresh k hk)), m.dw, fun k hk => by
    rcases m.foot k hk with h1 | h1
    · exact h.fresh k h1
    · exact Nat.le_trans h.below.size h1, a1, b1, x1, w1, i1, a2, b2, x2, w2, i2⟩
theorem LW.tail (h : LW w ga gb gx gw gi ca cb cx cw ci W D) (hb : Below W.heap.size W W1) : LW w ga gb gx gw gi ca cb cx cw ci W1 D := h.mv (Mv.refl h.dw hb)
theorem LW.setw {u0 u1 u2 x0 x1 x2 : Value} (h : LW w ga gb gx gw gi ca cb cx #[x0, x1, x2] ci W D) (h1 : w.heap.size ≤ gw) (e1 : ga ≠ gw) (e2 : gb ≠ gw) (e3 : gx ≠ gw) (e4 : gi ≠ gw) : LW w ga gb gx gw gi ca cb cx #[u0, u1, u2] ci (((W.setCell ⟨gw, 0, none⟩ u0).setCell ⟨gw, 1, none⟩ u1).setCell ⟨gw, 2, none⟩ u2) D := by
  have hB : But (· = gw) W (((W.setCell ⟨gw, 0, none⟩ u0).setCell ⟨gw, 1, none⟩ u1).setCell ⟨gw, 2, none⟩ u2) := ((But.put W gw 0 u0).trans (But.put _ gw 1 u1)).trans (But.put _ gw 2 u2)
  exact ⟨h.below.trans (hB.below (B := w.heap.size) h.below.size (fun k hk => hk ▸ h1)), h.dw.but hB (fun k hk e => h.nw (e ▸ hk)), h.fresh, h.ba.but hB e1, h.bb.but hB e2, h.bx.but hB e3, ((h.bw.put 0 u0).put 1 u1).put 2 u2, h.bi.but hB e4, h.na, h.nb, h.nx, h.nw, h.ni⟩
end
/-- what Store did to a disk that does not fail -/
def OA (l : List Int) (nx fr : Int) : Option (List Int × Int × Int) := if goodM l nx fr = true then some (l, nx, fr) else none
theorem store_first (D : Dsk) (v : Value) (l : List Int) (nx fr k : Int) (o : Option (List UInt8)) (w : World) (h : DiskW w D) (hs : Stg D (⟨#[109, 97, 110, 105, 102, 101, 115, 116]⟩ : ByteArray) (⟨#[109, 97, 110, 105, 102, 101, 115, 116, 46, 110, 101, 119]⟩ : ByteArray) 1008 100000 0 k false none) (hv : SlI w v l) (hl : l.length ≤ 140737488351232) :
    Calls Tryd.prog 8 #[ptrV D.d, .agg #[v, .int .i64 nx, .int .i64 fr]] w fun e w' => ∃ c E, e = .returned (.int .i64 c) ∧ (c == 0) = goodM l nx fr ∧ Mv w D w' E ∧ Stg E (⟨#[109, 97, 110, 105, 102, 101, 115, 116]⟩ : ByteArray) (⟨#[109, 97, 110, 105, 102, 101, 115, 116, 46, 110, 101, 119]⟩ : ByteArray) 1008 100000 0 k false (manB (OA l nx fr)) := by
  cases hg : goodM l nx fr with
  | false =>
    refine (mStore_bad D v l nx fr 0 k none w h hs hv hl hg).mono ?_
    rintro e w' ⟨rfl, hb⟩
    refine ⟨_, D, rfl, rfl, Mv.refl h hb, ?_⟩
    rw [show OA l nx fr = none by unfold OA; rw [hg]; rfl]
    exact hs
  | true =>
    refine (mStore_good D v l nx fr 0 k none w h hs hv hg).mono ?_
    rintro e w' (⟨rfl, hI⟩ | ⟨rfl, hI⟩)
    · obtain ⟨E, h1, h2, _⟩ := hI.ex
      refine ⟨_, E, rfl, rfl, h1, ?_⟩
      rw [show OA l nx fr = some (l, nx, fr) by unfold OA; rw [hg]; rfl]
      rw [lessN_zero, if_pos rfl] at h2
      exact h2
    · exact absurd hI.pos (by decide)
theorem OA_good (l : List Int) (nx fr : Int) : manG (OA l nx fr) := by
  intro r hr
  unfold OA at hr
  split at hr
  · rename_i h
    injection hr with hr
    subst hr
    exact h
  · cases hr
theorem store_second (D : Dsk) (v : Value) (l : List Int) (nx fr p k : Int) (oa : Option (List Int × Int × Int)) (w : World) (h : DiskW w D) (hs : Stg D (⟨#[109, 97, 110, 105, 102, 101, 115, 116]⟩ : ByteArray) (⟨#[109, 97, 110, 105, 102, 101, 115, 116, 46, 110, 101, 119]⟩ : ByteArray) 1008 100000 p k false (manB oa)) (hG : manG oa) (hv : SlI w v l) (hl : l.length ≤ 140737488351232) :
    Calls Tryd.prog 8 #[ptrV D.d, .agg #[v, .int .i64 nx, .int .i64 fr]] w fun e w' => ∃ c E dk ob p', e = .returned (.int .i64 c) ∧ Mv w D w' E ∧ Stg E (⟨#[109, 97, 110, 105, 102, 101, 115, 116]⟩ : ByteArray) (⟨#[109, 97, 110, 105, 102, 101, 115, 116, 46, 110, 101, 119]⟩ : ByteArray) 1008 100000 p' k dk (manB ob) ∧ manG ob ∧ ((c = 0 ∧ ob = some (l, nx, fr)) ∨ (c = 9 ∧ ob = oa) ∨ (c = 2 ∧ ob = oa ∧ goodM l nx fr = false)) := by
  cases hg : goodM l nx fr with
  | false =>
    refine (mStore_bad D v l nx fr p k (manB oa) w h hs hv hl hg).mono ?_
    rintro e w' ⟨rfl, hb⟩
    exact ⟨_, D, false, oa, p, rfl, Mv.refl h hb, hs, hG, .inr (.inr ⟨rfl, rfl, rfl⟩)⟩
  | true =>
    refine (mStore_good D v l nx fr p k (manB oa) w h hs hv hg).mono ?_
    rintro e w' (⟨rfl, hI⟩ | ⟨rfl, hI⟩)
    · obtain ⟨E, h1, h2, _⟩ := hI.ex
      rw [if_pos rfl] at h2
      exact ⟨_, E, false, some (l, nx, fr), _, rfl, h1, h2, fun r hr => by injection hr with hr; subst hr; exact hg, .inl ⟨rfl, rfl⟩⟩
    · obtain ⟨E, p', h1, h2⟩ := hI.ex
      exact ⟨_, E, true, oa, p', rfl, h1, h2, hG, .inr (.inl ⟨rfl, rfl⟩)⟩
theorem mLoad_any (D : Dsk) (p k : Int) (ob : Option (List Int × Int × Int)) (w : World) (h : DiskW w D) (hs : Stg D (⟨#[109, 97, 110, 105, 102, 101, 115, 116]⟩ : ByteArray) (⟨#[109, 97, 110, 105, 102, 101, 115, 116, 46, 110, 101, 119]⟩ : ByteArray) 1008 100000 p k false (manB ob)) (hG : manG ob) :
    Calls Tryd.prog 14 #[ptrV D.d] w (MLoadPost w (manV ob)) := by
  have hb := hs.h.b
  cases ob with
  | none =>
    refine mLoad_none D w h hs.dark ?_
    cases hf : D.get (⟨#[109, 97, 110, 105, 102, 101, 115, 116]⟩ : ByteArray) with
    | none => rfl
    | some f => rw [hf] at hb; cases hb
  | some r =>
    cases hf : D.get (⟨#[109, 97, 110, 105, 102, 101, 115, 116]⟩ : ByteArray) with
    | none => rw [hf] at hb; cases hb
    | some f =>
      rw [hf] at hb
      injection hb with hb
      exact mLoad_some D f r.1 r.2.1 r.2.2 w h hs.dark hf (hG r rfl) hb
theorem and7 (N : Int) : 0 ≤ Go.bits .and .i64 N 7 ∧ Go.bits .and .i64 N 7 ≤ 7 := by
  have e : Go.bits .and .i64 N 7 = IntKind.i64.wrap ((BitVec.ofInt 64 N &&& BitVec.ofInt 64 7).toNat : Int) := rfl
  rw [e, BitVec.toNat_and]
  have h : (BitVec.ofInt 64 N).toNat &&& (BitVec.ofInt 64 7).toNat ≤ 7 := Nat.and_le_right
  generalize (BitVec.ofInt 64 N).toNat &&& (BitVec.ofInt 64 7).toNat = q at *
  rw [IntKind.wrap_i64]
  omega
/-- a new manifest, all zero -/
def ZM (W : World) (g : Nat) : Prop := Blk W g 30 #[.slice none 0 0, .int .i64 0, .int .i64 0]
theorem ZM.new1 {w W : World} (h : Below (w.alloc (.cells #[.slice none 0 0, .int .i64 0, .int .i64 0] 30)).heap.size (w.alloc (.cells #[.slice none 0 0, .int .i64 0, .int .i64 0] 30)) W) : ZM W w.heap.size := (Blk.new w _ _).below h
theorem ZM.new1' {w W : World} {o : Obj} (h : Below ((w.alloc o).alloc (.cells #[.slice none 0 0, .int .i64 0, .int .i64 0] 30)).heap.size ((w.alloc o).alloc (.cells #[.slice none 0 0, .int .i64 0, .int .i64 0] 30)) W) : ZM W (w.heap.size + 1) := by
  have := ZM.new1 h
  rwa [World.size_alloc] at this
theorem ZM.new2 {w W : World} {o : Obj} (h : Below ((w.alloc (.cells #[.slice none 0 0, .int .i64 0, .int .i64 0] 30)).alloc o).heap.size ((w.alloc (.cells #[.slice none 0 0, .int .i64 0, .int .i64 0] 30)).alloc o) W) : ZM W w.heap.size := ((Blk.new w _ _).alloc o).below h
theorem ZM.newd {w W : World} (h : Below (w.alloc (.cells #[.slice none 0 0, .int .i64 0, .int .i64 0] 30)).drew.heap.size (w.alloc (.cells #[.slice none 0 0, .int .i64 0, .int .i64 0] 30)).drew W) : ZM W w.heap.size := (Blk.new w _ _).drew.below h
theorem ZM.newd2 {w W : World} {o : Obj} (h : Below ((w.alloc (.cells #[.slice none 0 0, .int .i64 0, .int .i64 0] 30)).alloc o).drew.heap.size ((w.alloc (.cells #[.slice none 0 0, .int .i64 0, .int .i64 0] 30)).alloc o).drew W) : ZM W w.heap.size := ((Blk.new w _ _).alloc o).drew.below h
theorem ZM.newd' {w W : World} {o : Obj} (h : Below ((w.alloc o).alloc (.cells #[.slice none 0 0, .int .i64 0, .int .i64 0] 30)).drew.heap.size ((w.alloc o).alloc (.cells #[.slice none 0 0, .int .i64 0, .int .i64 0] 30)).drew W) : ZM W (w.heap.size + 1) := by
  have := ZM.newd h
  rwa [World.size_alloc] at this
theorem ZM.tr0 {W W1 : World} {g : Nat} (h : ZM W g) (hb : Below W.heap.size W W1) : ZM W1 g := Blk.below h hb
theorem ZM.tr1 {W W1 : World} {o : Obj} {g : Nat} (h : ZM W g) (hb : Below (W.alloc o).heap.size (W.alloc o) W1) : ZM W1 g := (Blk.alloc h o).below hb
theorem ZM.tr2 {W W1 : World} {o o2 : Obj} {g : Nat} (h : ZM W g) (hb : Below ((W.alloc o).alloc o2).heap.size ((W.alloc o).alloc o2) W1) : ZM W1 g := ((Blk.alloc h o).alloc o2).below hb
theorem InW.setM {W w : World} (h : InW W w) {k : Nat} (hk : W.heap.size ≤ k) (i : Nat) (u : Value) : InW W (w.setCell ⟨k, i, none⟩ u) := Below.setCell (p := ⟨k, i, none⟩) h hk u
theorem ZM.c {W : World} {g : Nat} (h : ZM W g) : W.cell? ⟨g, 0, none⟩ = some (.slice none 0 0) ∧ W.cell? ⟨g, 1, none⟩ = some (.int .i64 0) ∧ W.cell? ⟨g, 2, none⟩ = some (.int .i64 0) ∧ W.frozen? ⟨g, 0, none⟩ = false ∧ W.frozen? ⟨g, 1, none⟩ = false ∧ W.frozen? ⟨g, 2, none⟩ = false ∧
    (∀ o, (W.alloc o).cell? ⟨g, 0, none⟩ = some (.slice none 0 0)) ∧ (∀ o, (W.alloc o).cell? ⟨g, 1, none⟩ = some (.int .i64 0)) ∧ (∀ o, (W.alloc o).cell? ⟨g, 2, none⟩ = some (.int .i64 0)) ∧ (∀ o, (W.alloc o).frozen? ⟨g, 0, none⟩ = false) ∧ (∀ o, (W.alloc o).frozen? ⟨g, 1, none⟩ = false) ∧ (∀ o, (W.alloc o).frozen? ⟨g, 2, none⟩ = false) ∧ ¬ g = W.heap.size ∧ ¬ W.heap.size = g :=
  ⟨Blk.cell h 0 rfl, Blk.cell h 1 rfl, Blk.cell h 2 rfl, Blk.frozen h 0, Blk.frozen h 1, Blk.frozen h 2, fun o => Blk.cell (Blk.alloc h o) 0 rfl, fun o => Blk.cell (Blk.alloc h o) 1 rfl, fun o => Blk.cell (Blk.alloc h o) 2 rfl, fun o => Blk.frozen (Blk.alloc h o) 0, fun o => Blk.frozen (Blk.alloc h o) 1, fun o => Blk.frozen (Blk.alloc h o) 2, by have := Blk.lt h; omega, by have := Blk.lt h; omega⟩
/-- two new manifests -/
structure TwoM (w1 : World) (gw gi : Nat) (cw ci : Array Value) (W : World) : Prop where
  iw : InW w1 W
  bw : Blk W gw 30 cw
  bi : Blk W gi 30 ci
  lw : w1.heap.size ≤ gw
  li : w1.heap.size ≤ gi
  ne : gi ≠ gw
section
variable {w1 W : World} {g h : Nat} {u0 u1 u2 v0 v1 v2 x0 x1 x2 : Value} {t : TypeId}
theorem Blk.set3 (hb : Blk W g t #[x0, x1, x2]) : Blk (((W.setCell ⟨g, 0, none⟩ u0).setCell ⟨g, 1, none⟩ u1).setCell ⟨g, 2, none⟩ u2) g t #[u0, u1, u2] := ((hb.put 0 u0).put 1 u1).put 2 u2
theorem Blk.far3 {cs : Array Value} (hb : Blk W h t cs) (hn : ¬ h = g) : Blk (((W.setCell ⟨g, 0, none⟩ u0).setCell ⟨g, 1, none⟩ u1).setCell ⟨g, 2, none⟩ u2) h t cs := ((hb.far (p := ⟨g, 0, none⟩) hn u0).far (p := ⟨g, 1, none⟩) hn u1).far (p := ⟨g, 2, none⟩) hn u2
theorem TwoM.f1 (k : InW w1 ((W.alloc (.cells #[u0, u1, u2] 30)).alloc (.cells #[v0, v1, v2] 30))) (hl : w1.heap.size ≤ W.heap.size) : TwoM w1 W.heap.size (W.heap.size + 1) #[u0, u1, u2] #[v0, v1, v2] ((W.alloc (.cells #[u0, u1, u2] 30)).alloc (.cells #[v0, v1, v2] 30)) := by
  have := Blk.new (W.alloc (.cells #[u0, u1, u2] 30)) 30 #[v0, v1, v2]
  rw [World.size_alloc] at this
  exact ⟨k, (Blk.new _ _ _).alloc _, this, hl, by omega, by omega⟩
theorem TwoM.f2 (k : InW w1 ((W.alloc (.cells #[v0, v1, v2] 30)).alloc (.cells #[u0, u1, u2] 30))) (hl : w1.heap.size ≤ W.heap.size) : TwoM w1 (W.heap.size + 1) W.heap.size #[u0, u1, u2] #[v0, v1, v2] ((W.alloc (.cells #[v0, v1, v2] 30)).alloc (.cells #[u0, u1, u2] 30)) := by
  have := TwoM.f1 k hl
  exact ⟨k, this.bi, this.bw, this.li, this.lw, fun e => this.ne e.symm⟩
theorem TwoM.f3 (k : InW w1 (((((((W.alloc (.cells #[.slice none 0 0, .int .i64 0, .int .i64 0] 30)).setCell ⟨g, 0, none⟩ u0).setCell ⟨g, 1, none⟩ u1).setCell ⟨g, 2, none⟩ u2).setCell ⟨W.heap.size, 0, none⟩ v0).setCell ⟨W.heap.size, 1, none⟩ v1).setCell ⟨W.heap.size, 2, none⟩ v2)) (hz : ZM W g) (hl : w1.heap.size ≤ W.heap.size) (hg : w1.heap.size ≤ g) :
    TwoM w1 g W.heap.size #[u0, u1, u2] #[v0, v1, v2] (((((((W.alloc (.cells #[.slice none 0 0, .int .i64 0, .int .i64 0] 30)).setCell ⟨g, 0, none⟩ u0).setCell ⟨g, 1, none⟩ u1).setCell ⟨g, 2, none⟩ u2).setCell ⟨W.heap.size, 0, none⟩ v0).setCell ⟨W.heap.size, 1, none⟩ v1).setCell ⟨W.heap.size, 2, none⟩ v2) := by
  have hlt := Blk.lt hz
  exact ⟨k, (Blk.set3 (Blk.alloc hz _)).far3 (by omega), Blk.set3 ((Blk.new W _ _).far3 (by omega)), hg, hl, by omega⟩
theorem TwoM.f4 (k : InW w1 ((((W.alloc (.cells #[u0, u1, u2] 30)).setCell ⟨g, 0, none⟩ v0).setCell ⟨g, 1, none⟩ v1).setCell ⟨g, 2, none⟩ v2)) (hz : ZM W g) (hl : w1.heap.size ≤ W.heap.size) (hg : w1.heap.size ≤ g) :
    TwoM w1 W.heap.size g #[u0, u1, u2] #[v0, v1, v2] ((((W.alloc (.cells #[u0, u1, u2] 30)).setCell ⟨g, 0, none⟩ v0).setCell ⟨g, 1, none⟩ v1).setCell ⟨g, 2, none⟩ v2) := by
  have hlt := Blk.lt hz
  exact ⟨k, (Blk.new W _ _).far3 (by omega), Blk.set3 (Blk.alloc hz _), hl, hg, by omega⟩
theorem TwoM.f5 (k : InW w1 ((((((W.setCell ⟨g, 0, none⟩ u0).setCell ⟨g, 1, none⟩ u1).setCell ⟨g, 2, none⟩ u2).setCell ⟨h, 0, none⟩ v0).setCell ⟨h, 1, none⟩ v1).setCell ⟨h, 2, none⟩ v2)) (hz : ZM W g) (hy : ZM W h) (hne : ¬ g = h) (hg : w1.heap.size ≤ g) (hh : w1.heap.size ≤ h) :
    TwoM w1 g h #[u0, u1, u2] #[v0, v1, v2] ((((((W.setCell ⟨g, 0, none⟩ u0).setCell ⟨g, 1, none⟩ u1).setCell ⟨g, 2, none⟩ u2).setCell ⟨h, 0, none⟩ v0).setCell ⟨h, 1, none⟩ v1).setCell ⟨h, 2, none⟩ v2) :=
  ⟨k, (Blk.set3 hz).far3 hne, Blk.set3 (Blk.far3 hy (fun e => hne e.symm)), hg, hh, fun e => hne e.symm⟩
end
set_option maxHeartbeats 4000000 in
theorem ManifestWhole_walk (va : Value) (la : List Int) (nxa fra : Int) (vb : Value) (lb : List Int) (nxb frb : Int) (N k : Int) (w : World) (he : Env w) (ha : SlI w va la) (hla : la.length ≤ 140737488351232) (hb : SlI w vb lb) (hlb : lb.length ≤ 140737488351232) (k0 : -9223372036854775808 ≤ k) (k1 : k ≤ 9223372036854775807) :
    Calls Tryd.prog 3 #[.agg #[va, .int .i64 nxa, .int .i64 fra], .agg #[vb, .int .i64 nxb, .int .i64 frb], .agg #[.int .i64 N, .int .i64 k]] w fun e w' => e = .returned (.bool true) ∧ Below w.heap.size w w' := by
  have NW := Lib.hid (fun W => new_any 100000 W (by omega) (by omega))
  obtain ⟨aa, ac, rfl, hac, _⟩ := ha.ex
  obtain ⟨ba, bc, rfl, hbc, _⟩ := hb.ex
  have HA := Lib.hid ha; have HB := Lib.hid hb
  clear ha hb
  obtain ⟨oA, hoA⟩ : ∃ o, Obj.cells #[.slice aa la.length ac, .int .i64 nxa, .int .i64 fra] 24 = o := ⟨_, rfl⟩
  obtain ⟨oB, hoB⟩ : ∃ o, Obj.cells #[.slice ba lb.length bc, .int .i64 nxb, .int .i64 frb] 24 = o := ⟨_, rfl⟩
  obtain ⟨oX, hoX⟩ : ∃ o, Obj.cells #[.int .i64 N, .int .i64 k] 26 = o := ⟨_, rfl⟩
  have HOA := Lib.hid hoA; have HOB := Lib.hid hoB; have HOX := Lib.hid hoX
  clear hoA hoB hoX
  go_enter Tryd.func3, Tryd.ntmps3
  go_wp2_with fail
  rw [HOA.out, HOB.out, HOX.out]
  refine (NW.out _).mono ?_
  rintro e w1 ⟨d, m, rfl, hdw, hd, hm, hbw⟩
  rw [show (((w.alloc oA).alloc oB).alloc oX).heap.size = w.heap.size + 3 by simp] at hd hm
  have KA : Blk w1 w.heap.size 24 #[.slice aa la.length ac, .int .i64 nxa, .int .i64 fra] := by
    have := ((Blk.new w 24 #[.slice aa la.length ac, .int .i64 nxa, .int .i64 fra]).alloc oB).alloc oX
    rw [HOA.out] at this
    exact this.below hbw
  have KB : Blk w1 (w.heap.size + 1) 24 #[.slice ba lb.length bc, .int .i64 nxb, .int .i64 frb] := by
    have := (Blk.new (w.alloc oA) 24 #[.slice ba lb.length bc, .int .i64 nxb, .int .i64 frb]).alloc oX
    rw [HOB.out, show (w.alloc oA).heap.size = w.heap.size + 1 by simp] at this
    exact this.below hbw
  have KX : Blk w1 (w.heap.size + 1 + 1) 26 #[.int .i64 N, .int .i64 k] := by
    have := Blk.new ((w.alloc oA).alloc oB) 26 #[.int .i64 N, .int .i64 k]
    rw [HOX.out, show ((w.alloc oA).alloc oB).heap.size = w.heap.size + 1 + 1 by simp] at this
    exact this.below hbw
  have HB1 := Lib.hid (below_tr (below_alloc (below_alloc (below_alloc (Below.refl _ w) oA) oB) oX) hbw)
  have ca0 := KA.cell 0 rfl; have ca1 := KA.cell 1 rfl; have ca2 := KA.cell 2 rfl
  have cb0 := KB.cell 0 rfl; have cb1 := KB.cell 1 rfl; have cb2 := KB.cell 2 rfl
  have HKA := Lib.hid KA; have HKB := Lib.hid KB; have HKX := Lib.hid KX
  have HDW := Lib.hid hdw; have HDd := Lib.hid hd; have HDm := Lib.hid hm
  clear KA KB KX hbw hdw hd hm HOA HOB HOX NW
  simp only [ptrV] at *
  have hq : wrap64 ((la.length : Int) + (lb.length : Int)) = (la.length : Int) + (lb.length : Int) := by unfold wrap64; omega
  have LV := Lib.hid (fun W (h : Below w.heap.size w W) => lives13 W (he.below h))
  by_cases h1000 : (1000 : Int) < (la.length : Int) + (lb.length : Int)
  · go_wp2_with fail
    refine (LV.out _ HB1.out).mono ?_
    rintro e w2 ⟨rfl, hb⟩
    go_wp2_with fail
    go_ret
    exact ⟨rfl, below_tr HB1.out hb⟩
  · go_upto_region 4 with (fail)
    clear ca0 ca1 ca2 hq
    have HS := Lib.hid (fun W' (h : InW w1 W') => show InW w1 W' ∧ W'.cell? ⟨w.heap.size + 1, 0, none⟩ = some (.slice ba lb.length bc) ∧ W'.cell? ⟨w.heap.size + 1, 1, none⟩ = some (.int .i64 nxb) ∧ W'.cell? ⟨w.heap.size + 1, 2, none⟩ = some (.int .i64 frb) from ⟨h, cell_keep h cb0, cell_keep h cb1, cell_keep h cb2⟩)
    have BG := Lib.hid (fun W => Begin_any W)
    have PL1 := Lib.hid (fun W => plain_any none 0 0 1 1 W)
    have PL2 := Lib.hid (fun W => plain_any ba lb.length bc nxb frb W)
    clear cb0 cb1 cb2
    go_cut [8, 9] (fun s8 s9 wx => ∃ gw gi : Nat, s8 = .pointer (some ⟨gw, 0, none⟩) ∧ s9 = .pointer (some ⟨gi, 0, none⟩) ∧ TwoM w1 gw gi #[.slice none 0 0, .int .i64 1, .int .i64 1] #[.slice ba lb.length bc, .int .i64 nxb, .int .i64 frb] wx)
    case first =>
      go_region_held3 (fun W' => InW w1 W' ∧ W'.cell? ⟨w.heap.size + 1, 0, none⟩ = some (.slice ba lb.length bc) ∧ W'.cell? ⟨w.heap.size + 1, 1, none⟩ = some (.int .i64 nxb) ∧ W'.cell? ⟨w.heap.size + 1, 2, none⟩ = some (.int .i64 frb))
        (first
          | with_reducible assumption
          | (with_reducible refine HS.out _ ?_; (repeat (first | with_reducible exact InW.refl _ | with_reducible exact And.left (by with_reducible assumption) | with_reducible refine InW.setM ?_ (by first | exact Nat.le_refl _ | exact leA | exact leB | exact leC | exact Nat.le_succ _ | exact Nat.le_succ_of_le leA | exact Nat.le_succ_of_le leB | exact Nat.le_succ_of_le leC) _ _ | with_reducible refine InW.drew ?_ | with_reducible refine InW.al ?_ _ | with_reducible refine InW.tr ?_ (by with_reducible assumption)))))
        (first
          | (go_at_call 7; with_reducible refine (BG.out _).mono ?_; rintro e wA ⟨rfl, hbA⟩; (first | (with_reducible have n1 := ZM.newd' hbA) | (with_reducible have n1 := ZM.newd hbA) | (with_reducible have n1 := ZM.new1' hbA; try simp only [World.size_drew] at n1) | (with_reducible have n1 := ZM.new1 hbA; try simp only [World.size_drew] at n1) | skip); (first | (with_reducible have n2 := ZM.newd2 hbA) | (with_reducible have n2 := ZM.new2 hbA; try simp only [World.size_drew] at n2) | skip))
          | (go_at_call 6; with_reducible refine (PL1.out _).mono ?_; rintro e wB ⟨rfl, hbB⟩; (first | (with_reducible have n1 := ZM.tr0 n1 hbB) | (with_reducible have n1 := ZM.tr1 n1 hbB) | (with_reducible have n1 := ZM.tr2 n1 hbB) | skip); (first | (with_reducible have n2 := ZM.tr0 n2 hbB) | (with_reducible have n2 := ZM.tr1 n2 hbB) | (with_reducible have n2 := ZM.tr2 n2 hbB) | skip); (first | (with_reducible have n3 := ZM.new1' hbB) | (with_reducible have n3 := ZM.new1 hbB) | skip); (first | (with_reducible have n4 := ZM.new2 hbB) | skip))
          | (go_at_call 6; with_reducible refine (PL2.out _).mono ?_; rintro e wC ⟨rfl, hbC⟩; (first | (with_reducible have n1 := ZM.tr0 n1 hbC) | (with_reducible have n1 := ZM.tr1 n1 hbC) | (with_reducible have n1 := ZM.tr2 n1 hbC) | skip); (first | (with_reducible have n2 := ZM.tr0 n2 hbC) | (with_reducible have n2 := ZM.tr1 n2 hbC) | (with_reducible have n2 := ZM.tr2 n2 hbC) | skip); (first | (with_reducible have n3 := ZM.tr0 n3 hbC) | (with_reducible have n3 := ZM.tr1 n3 hbC) | (with_reducible have n3 := ZM.tr2 n3 hbC) | skip); (first | (with_reducible have n4 := ZM.tr0 n4 hbC) | (with_reducible have n4 := ZM.tr1 n4 hbC) | (with_reducible have n4 := ZM.tr2 n4 hbC) | skip); (first | (with_reducible have n5 := ZM.new1' hbC) | (with_reducible have n5 := ZM.new1 hbC) | skip); (first | (with_reducible have n6 := ZM.new2 hbC) | skip); have szA := hbA.size; have szB := hbB.size; have szC := hbC.size; (first | simp only [World.size_drew, World.size_alloc] at szA szB szC | skip); have leA : w1.heap.size ≤ wA.heap.size := (by omega); have leB : w1.heap.size ≤ wB.heap.size := (by omega); have leC : w1.heap.size ≤ wC.heap.size := (by omega); (first | (have ne1 : ¬ w1.heap.size = wA.heap.size := by omega) | skip); (first | (have ne1' : ¬ wA.heap.size = w1.heap.size := by omega) | skip); (first | (have ne2 : ¬ w1.heap.size = wB.heap.size := by omega) | skip); (first | (have ne2' : ¬ wB.heap.size = w1.heap.size := by omega) | skip); (first | (have ne3 : ¬ wA.heap.size = wB.heap.size := by omega) | skip); (first | (have ne3' : ¬ wB.heap.size = wA.heap.size := by omega) | skip); clear szA szB szC; (first | (have c1 := ZM.c n1; obtain ⟨c10, c11, c12, c13, c14, c15, c16, c17, c18, c19, c1a, c1b, c1c, c1d⟩ := c1) | skip); (first | (have c2 := ZM.c n2; obtain ⟨c20, c21, c22, c23, c24, c25, c26, c27, c28, c29, c2a, c2b, c2c, c2d⟩ := c2) | skip); (first | (have c3 := ZM.c n3; obtain ⟨c30, c31, c32, c33, c34, c35, c36, c37, c38, c39, c3a, c3b, c3c, c3d⟩ := c3) | skip); (first | (have c4 := ZM.c n4; obtain ⟨c40, c41, c42, c43, c44, c45, c46, c47, c48, c49, c4a, c4b, c4c, c4d⟩ := c4) | skip); (first | (have c5 := ZM.c n5; obtain ⟨c50, c51, c52, c53, c54, c55, c56, c57, c58, c59, c5a, c5b, c5c, c5d⟩ := c5) | skip); (first | (have c6 := ZM.c n6; obtain ⟨c60, c61, c62, c63, c64, c65, c66, c67, c68, c69, c6a, c6b, c6c, c6d⟩ := c6) | skip))
          | fail)
      all_goals go_wp2_with fail
      all_goals go_meet
      all_goals (
        rename_i hh
        have iw := And.left hh
        clear hh
        refine ⟨_, _, rfl, rfl, ?_⟩)
      · with_reducible exact TwoM.f1 iw (by first | exact Nat.le_refl _ | exact leA | exact leB | exact leC | exact Nat.le_succ _ | exact Nat.le_succ_of_le leA | exact Nat.le_succ_of_le leB | exact Nat.le_succ_of_le leC)
      · with_reducible exact TwoM.f2 iw (by first | exact Nat.le_refl _ | exact leA | exact leB | exact leC | exact Nat.le_succ _ | exact Nat.le_succ_of_le leA | exact Nat.le_succ_of_le leB | exact Nat.le_succ_of_le leC)
      · with_reducible exact TwoM.f3 iw (by with_reducible assumption) (by first | exact Nat.le_refl _ | exact leA | exact leB | exact leC | exact Nat.le_succ _ | exact Nat.le_succ_of_le leA | exact Nat.le_succ_of_le leB | exact Nat.le_succ_of_le leC) (by first | exact Nat.le_refl _ | exact leA | exact leB | exact leC | exact Nat.le_succ _ | exact Nat.le_succ_of_le leA | exact Nat.le_succ_of_le leB | exact Nat.le_succ_of_le leC)
      · with_reducible exact TwoM.f5 iw (by with_reducible assumption) (by with_reducible assumption) (by first | with_reducible assumption | exact Nat.ne_of_lt (Nat.lt_succ_self _) | exact Nat.ne_of_gt (Nat.lt_succ_self _)) (by first | exact Nat.le_refl _ | exact leA | exact leB | exact leC | exact Nat.le_succ _ | exact Nat.le_succ_of_le leA | exact Nat.le_succ_of_le leB | exact Nat.le_succ_of_le leC) (by first | exact Nat.le_refl _ | exact leA | exact leB | exact leC | exact Nat.le_succ _ | exact Nat.le_succ_of_le leA | exact Nat.le_succ_of_le leB | exact Nat.le_succ_of_le leC)
      · with_reducible exact TwoM.f4 iw (by with_reducible assumption) (by first | exact Nat.le_refl _ | exact leA | exact leB | exact leC | exact Nat.le_succ _ | exact Nat.le_succ_of_le leA | exact Nat.le_succ_of_le leB | exact Nat.le_succ_of_le leC) (by first | exact Nat.le_refl _ | exact leA | exact leB | exact leC | exact Nat.le_succ _ | exact Nat.le_succ_of_le leA | exact Nat.le_succ_of_le leB | exact Nat.le_succ_of_le leC)
      · with_reducible exact TwoM.f5 iw (by with_reducible assumption) (by with_reducible assumption) (by first | with_reducible assumption | exact Nat.ne_of_lt (Nat.lt_succ_self _) | exact Nat.ne_of_gt (Nat.lt_succ_self _)) (by first | exact Nat.le_refl _ | exact leA | exact leB | exact leC | exact Nat.le_succ _ | exact Nat.le_succ_of_le leA | exact Nat.le_succ_of_le leB | exact Nat.le_succ_of_le leC) (by first | exact Nat.le_refl _ | exact leA | exact leB | exact leC | exact Nat.le_succ _ | exact Nat.le_succ_of_le leA | exact Nat.le_succ_of_le leB | exact Nat.le_succ_of_le leC)
      · with_reducible exact TwoM.f3 iw (by with_reducible assumption) (by first | exact Nat.le_refl _ | exact leA | exact leB | exact leC | exact Nat.le_succ _ | exact Nat.le_succ_of_le leA | exact Nat.le_succ_of_le leB | exact Nat.le_succ_of_le leC) (by first | exact Nat.le_refl _ | exact leA | exact leB | exact leC | exact Nat.le_succ _ | exact Nat.le_succ_of_le leA | exact Nat.le_succ_of_le leB | exact Nat.le_succ_of_le leC)
      · with_reducible exact TwoM.f5 iw (by with_reducible assumption) (by with_reducible assumption) (by first | with_reducible assumption | exact Nat.ne_of_lt (Nat.lt_succ_self _) | exact Nat.ne_of_gt (Nat.lt_succ_self _)) (by first | exact Nat.le_refl _ | exact leA | exact leB | exact leC | exact Nat.le_succ _ | exact Nat.le_succ_of_le leA | exact Nat.le_succ_of_le leB | exact Nat.le_succ_of_le leC) (by first | exact Nat.le_refl _ | exact leA | exact leB | exact leC | exact Nat.le_succ _ | exact Nat.le_succ_of_le leA | exact Nat.le_succ_of_le leB | exact Nat.le_succ_of_le leC)
      · with_reducible exact TwoM.f5 iw (by with_reducible assumption) (by with_reducible assumption) (by first | with_reducible assumption | exact Nat.ne_of_lt (Nat.lt_succ_self _) | exact Nat.ne_of_gt (Nat.lt_succ_self _)) (by first | exact Nat.le_refl _ | exact leA | exact leB | exact leC | exact Nat.le_succ _ | exact Nat.le_succ_of_le leA | exact Nat.le_succ_of_le leB | exact Nat.le_succ_of_le leC) (by first | exact Nat.le_refl _ | exact leA | exact leB | exact leC | exact Nat.le_succ _ | exact Nat.le_succ_of_le leA | exact Nat.le_succ_of_le leB | exact Nat.le_succ_of_le leC)
      · with_reducible exact TwoM.f4 iw (by with_reducible assumption) (by first | exact Nat.le_refl _ | exact leA | exact leB | exact leC | exact Nat.le_succ _ | exact Nat.le_succ_of_le leA | exact Nat.le_succ_of_le leB | exact Nat.le_succ_of_le leC) (by first | exact Nat.le_refl _ | exact leA | exact leB | exact leC | exact Nat.le_succ _ | exact Nat.le_succ_of_le leA | exact Nat.le_succ_of_le leB | exact Nat.le_succ_of_le leC)
      · with_reducible exact TwoM.f5 iw (by with_reducible assumption) (by with_reducible assumption) (by first | with_reducible assumption | exact Nat.ne_of_lt (Nat.lt_succ_self _) | exact Nat.ne_of_gt (Nat.lt_succ_self _)) (by first | exact Nat.le_refl _ | exact leA | exact leB | exact leC | exact Nat.le_succ _ | exact Nat.le_succ_of_le leA | exact Nat.le_succ_of_le leB | exact Nat.le_succ_of_le leC) (by first | exact Nat.le_refl _ | exact leA | exact leB | exact leC | exact Nat.le_succ _ | exact Nat.le_succ_of_le leA | exact Nat.le_succ_of_le leB | exact Nat.le_succ_of_le leC)
      · with_reducible exact TwoM.f5 iw (by with_reducible assumption) (by with_reducible assumption) (by first | with_reducible assumption | exact Nat.ne_of_lt (Nat.lt_succ_self _) | exact Nat.ne_of_gt (Nat.lt_succ_self _)) (by first | exact Nat.le_refl _ | exact leA | exact leB | exact leC | exact Nat.le_succ _ | exact Nat.le_succ_of_le leA | exact Nat.le_succ_of_le leB | exact Nat.le_succ_of_le leC) (by first | exact Nat.le_refl _ | exact leA | exact leB | exact leC | exact Nat.le_succ _ | exact Nat.le_succ_of_le leA | exact Nat.le_succ_of_le leB | exact Nat.le_succ_of_le leC)
      · with_reducible exact TwoM.f3 iw (by with_reducible assumption) (by first | exact Nat.le_refl _ | exact leA | exact leB | exact leC | exact Nat.le_succ _ | exact Nat.le_succ_of_le leA | exact Nat.le_succ_of_le leB | exact Nat.le_succ_of_le leC) (by first | exact Nat.le_refl _ | exact leA | exact leB | exact leC | exact Nat.le_succ _ | exact Nat.le_succ_of_le leA | exact Nat.le_succ_of_le leB | exact Nat.le_succ_of_le leC)
      · with_reducible exact TwoM.f5 iw (by with_reducible assumption) (by with_reducible assumption) (by first | with_reducible assumption | exact Nat.ne_of_lt (Nat.lt_succ_self _) | exact Nat.ne_of_gt (Nat.lt_succ_self _)) (by first | exact Nat.le_refl _ | exact leA | exact leB | exact leC | exact Nat.le_succ _ | exact Nat.le_succ_of_le leA | exact Nat.le_succ_of_le leB | exact Nat.le_succ_of_le leC) (by first | exact Nat.le_refl _ | exact leA | exact leB | exact leC | exact Nat.le_succ _ | exact Nat.le_succ_of_le leA | exact Nat.le_succ_of_le leB | exact Nat.le_succ_of_le leC)
      · with_reducible exact TwoM.f5 iw (by with_reducible assumption) (by with_reducible assumption) (by first | with_reducible assumption | exact Nat.ne_of_lt (Nat.lt_succ_self _) | exact Nat.ne_of_gt (Nat.lt_succ_self _)) (by first | exact Nat.le_refl _ | exact leA | exact leB | exact leC | exact Nat.le_succ _ | exact Nat.le_succ_of_le leA | exact Nat.le_succ_of_le leB | exact Nat.le_succ_of_le leC) (by first | exact Nat.le_refl _ | exact leA | exact leB | exact leC | exact Nat.le_succ _ | exact Nat.le_succ_of_le leA | exact Nat.le_succ_of_le leB | exact Nat.le_succ_of_le leC)
      · with_reducible exact TwoM.f5 iw (by with_reducible assumption) (by with_reducible assumption) (by first | with_reducible assumption | exact Nat.ne_of_lt (Nat.lt_succ_self _) | exact Nat.ne_of_gt (Nat.lt_succ_self _)) (by first | exact Nat.le_refl _ | exact leA | exact leB | exact leC | exact Nat.le_succ _ | exact Nat.le_succ_of_le leA | exact Nat.le_succ_of_le leB | exact Nat.le_succ_of_le leC) (by first | exact Nat.le_refl _ | exact leA | exact leB | exact leC | exact Nat.le_succ _ | exact Nat.le_succ_of_le leA | exact Nat.le_succ_of_le leB | exact Nat.le_succ_of_le leC)
      · with_reducible exact TwoM.f4 iw (by with_reducible assumption) (by first | exact Nat.le_refl _ | exact leA | exact leB | exact leC | exact Nat.le_succ _ | exact Nat.le_succ_of_le leA | exact Nat.le_succ_of_le leB | exact Nat.le_succ_of_le leC) (by first | exact Nat.le_refl _ | exact leA | exact leB | exact leC | exact Nat.le_succ _ | exact Nat.le_succ_of_le leA | exact Nat.le_succ_of_le leB | exact Nat.le_succ_of_le leC)
      · with_reducible exact TwoM.f5 iw (by with_reducible assumption) (by with_reducible assumption) (by first | with_reducible assumption | exact Nat.ne_of_lt (Nat.lt_succ_self _) | exact Nat.ne_of_gt (Nat.lt_succ_self _)) (by first | exact Nat.le_refl _ | exact leA | exact leB | exact leC | exact Nat.le_succ _ | exact Nat.le_succ_of_le leA | exact Nat.le_succ_of_le leB | exact Nat.le_succ_of_le leC) (by first | exact Nat.le_refl _ | exact leA | exact leB | exact leC | exact Nat.le_succ _ | exact Nat.le_succ_of_le leA | exact Nat.le_succ_of_le leB | exact Nat.le_succ_of_le leC)
      · with_reducible exact TwoM.f5 iw (by with_reducible assumption) (by with_reducible assumption) (by first | with_reducible assumption | exact Nat.ne_of_lt (Nat.lt_succ_self _) | exact Nat.ne_of_gt (Nat.lt_succ_self _)) (by first | exact Nat.le_refl _ | exact leA | exact leB | exact leC | exact Nat.le_succ _ | exact Nat.le_succ_of_le leA | exact Nat.le_succ_of_le leB | exact Nat.le_succ_of_le leC) (by first | exact Nat.le_refl _ | exact leA | exact leB | exact leC | exact Nat.le_succ _ | exact Nat.le_succ_of_le leA | exact Nat.le_succ_of_le leB | exact Nat.le_succ_of_le leC)
      · with_reducible exact TwoM.f5 iw (by with_reducible assumption) (by with_reducible assumption) (by first | with_reducible assumption | exact Nat.ne_of_lt (Nat.lt_succ_self _) | exact Nat.ne_of_gt (Nat.lt_succ_self _)) (by first | exact Nat.le_refl _ | exact leA | exact leB | exact leC | exact Nat.le_succ _ | exact Nat.le_succ_of_le leA | exact Nat.le_succ_of_le leB | exact Nat.le_succ_of_le leC) (by first | exact Nat.le_refl _ | exact leA | exact leB | exact leC | exact Nat.le_succ _ | exact Nat.le_succ_of_le leA | exact Nat.le_succ_of_le leB | exact Nat.le_succ_of_le leC)
    case rest =>
      obtain ⟨gw, gi, rfl, rfl, hm2⟩ := hcut
      have LW0 : LW w w.heap.size (w.heap.size + 1) (w.heap.size + 1 + 1) gw gi #[.slice aa la.length ac, .int .i64 nxa, .int .i64 fra] #[.slice ba lb.length bc, .int .i64 nxb, .int .i64 frb] #[.int .i64 N, .int .i64 k] #[.slice none 0 0, .int .i64 1, .int .i64 1] #[.slice ba lb.length bc, .int .i64 nxb, .int .i64 frb] wc (emptyD d m 100000) := by
        have lt1 := HDW.out.foot_lt
        have ft : ∀ k, (emptyD d m 100000).foot k → k = d ∨ k = m := fun k hk => by
          rcases hk with h | h | h | ⟨f, hf, _⟩
          · exact .inl h
          · exact .inr h
          · cases h
          · cases hf
        have hd0 := HDd.out; have hm0 := HDm.out; have hlw := hm2.lw; have hli := hm2.li
        refine ⟨below_tr HB1.out hm2.iw, HDW.out.below hm2.iw, fun k hk => ?_, HKA.out.below hm2.iw, HKB.out.below hm2.iw, HKX.out.below hm2.iw, hm2.bw, hm2.bi, fun hk => ?_, fun hk => ?_, fun hk => ?_, fun hk => ?_, fun hk => ?_⟩
        · rcases ft k hk with e | e <;> omega
        · rcases ft _ hk with e | e <;> omega
        · rcases ft _ hk with e | e <;> omega
        · rcases ft _ hk with e | e <;> omega
        · have := lt1 _ hk; omega
        · have := lt1 _ hk; omega
      have NE := Lib.hid (show w.heap.size ≤ gw ∧ w.heap.size ≠ gw ∧ w.heap.size + 1 ≠ gw ∧ w.heap.size + 1 + 1 ≠ gw ∧ gi ≠ gw from by
        have h1 := HDd.out; have h2 := HDW.out.foot_lt d (.inl rfl); have h3 := hm2.lw
        exact ⟨by omega, by omega, by omega, by omega, hm2.ne⟩)
      have HL0 := Lib.hid LW0
      have ST0 : Stg (emptyD d m 100000) (⟨#[109, 97, 110, 105, 102, 101, 115, 116]⟩ : ByteArray) (⟨#[109, 97, 110, 105, 102, 101, 115, 116, 46, 110, 101, 119]⟩ : ByteArray) 1008 100000 0 0 false none := ⟨⟨fun f hf => (by cases hf), fun f hf => (by cases hf)⟩, rfl, rfl, rfl, rfl, ⟨rfl, fun f hf => (by cases hf)⟩⟩
      have SF0 := store_first _ _ la nxa fra 0 none wc LW0.dw ST0 (HA.out.below LW0.below) hla
      rw [show (emptyD d m 100000).d = d from rfl] at SF0
      have SF := Lib.hid SF0
      have a0 := LW0.ba.cell 0 rfl; have a1 := LW0.ba.cell 1 rfl; have a2 := LW0.ba.cell 2 rfl
      clear hm2 LW0 ST0 SF0 HS BG PL1 PL2 HKA HKB HKX HDW HDd HDm HB1
      simp only [ptrV] at *
      go_wp2_with fail
      refine SF.out.mono ?_
      rintro e w2 ⟨c, E, rfl, hc0, hmv, hst⟩
      have HL1 := Lib.hid (HL0.out.mv hmv); have EST := Lib.hid hst; have EDD := Lib.hid (show E.d = d from hmv.d)
      clear SF a0 a1 a2 hmv hst HL0
      have a0 := HL1.out.ba.cell 0 rfl; have a1 := HL1.out.ba.cell 1 rfl; have a2 := HL1.out.ba.cell 2 rfl
      have w0 := HL1.out.bw.cell 0 rfl; have wf0 := HL1.out.bw.frozen 0; have w1' := HL1.out.bw.cell 1 rfl; have wf1 := HL1.out.bw.frozen 1; have w2' := HL1.out.bw.cell 2 rfl; have wf2 := HL1.out.bw.frozen 2
      cases hg : goodM la nxa fra
      case' false =>
        rw [hg] at hc0
        have MG := mGood_any _ la nxa fra w2 (HA.out.below HL1.out.below) hla
        rw [hg] at MG
        have MGH := Lib.hid MG; clear MG
        go_wp2_with fail
        refine MGH.out.mono ?_
        rintro e W3 ⟨rfl, hb⟩
        have HL2 := Lib.hid (HL1.out.tail hb)
        clear MGH a0 a1 a2 w0 wf0 w1' wf1 w2' wf2 hc0 hb HL1
        obtain ⟨xa, xc, wl, wn, wf, HL3, HSW, HMV, HWL⟩ : ∃ xa xc wl wn wf, Hid (LW w w.heap.size (w.heap.size + 1) (w.heap.size + 1 + 1) gw gi #[.slice aa la.length ac, .int .i64 nxa, .int .i64 fra] #[.slice ba lb.length bc, .int .i64 nxb, .int .i64 frb] #[.int .i64 N, .int .i64 k] #[.slice xa wl.length xc, .int .i64 wn, .int .i64 wf] #[.slice ba lb.length bc, .int .i64 nxb, .int .i64 frb] W3 E) ∧ Hid (SlI w (.slice xa wl.length xc) wl) ∧ Hid (manV (OA la nxa fra) = (wl, wn, wf)) ∧ Hid (wl.length ≤ 140737488351232) :=
          ⟨none, 0, [], 1, 1, Lib.hid HL2.out, Lib.hid ⟨none, 0, rfl, by simp, fun h => absurd h (by simp)⟩, Lib.hid (by unfold OA; rw [hg]; rfl), Lib.hid (by simp)⟩
        clear HL2
        go_upto_region 9 with (fail)
      case' true =>
        rw [hg] at hc0
        have PA := Lib.hid (plain_any aa la.length ac nxa fra w2)
        go_wp2_with fail
        refine PA.out.mono ?_
        rintro e w3 ⟨rfl, hb⟩
        have HLb := Lib.hid (HL1.out.tail hb)
        have HL2 := Lib.hid (HLb.out.setw (u0 := .slice aa la.length ac) (u1 := .int .i64 nxa) (u2 := .int .i64 fra) NE.out.1 NE.out.2.1 NE.out.2.2.1 NE.out.2.2.2.1 NE.out.2.2.2.2)
        clear PA a0 a1 a2 w0 wf0 w1' wf1 w2' wf2 hc0 hb HL1
        have w0 := HLb.out.bw.cell 0 rfl; have wf0 := HLb.out.bw.frozen 0; have w1' := HLb.out.bw.cell 1 rfl; have wf1 := HLb.out.bw.frozen 1; have w2' := HLb.out.bw.cell 2 rfl; have wf2 := HLb.out.bw.frozen 2
        go_upto_region 9 with (fail)
        clear w0 wf0 w1' wf1 w2' wf2 HLb
        generalize ((w3.setCell ⟨gw, 0, none⟩ (.slice aa la.length ac)).setCell ⟨gw, 1, none⟩ (.int .i64 nxa)).setCell ⟨gw, 2, none⟩ (.int .i64 fra) = W3 at *
        obtain ⟨xa, xc, wl, wn, wf, HL3, HSW, HMV, HWL⟩ : ∃ xa xc wl wn wf, Hid (LW w w.heap.size (w.heap.size + 1) (w.heap.size + 1 + 1) gw gi #[.slice aa la.length ac, .int .i64 nxa, .int .i64 fra] #[.slice ba lb.length bc, .int .i64 nxb, .int .i64 frb] #[.int .i64 N, .int .i64 k] #[.slice xa wl.length xc, .int .i64 wn, .int .i64 wf] #[.slice ba lb.length bc, .int .i64 nxb, .int .i64 frb] W3 E) ∧ Hid (SlI w (.slice xa wl.length xc) wl) ∧ Hid (manV (OA la nxa fra) = (wl, wn, wf)) ∧ Hid (wl.length ≤ 140737488351232) :=
          ⟨aa, ac, la, nxa, fra, Lib.hid HL2.out, Lib.hid HA.out, Lib.hid (by unfold OA; rw [hg]; rfl), Lib.hid hla⟩
        clear HL2
      all_goals (
        have x0 := HL3.out.bx.cell 0 rfl; have x1 := HL3.out.bx.cell 1 rfl
        obtain ⟨hq0, hq7⟩ := and7 N
        obtain ⟨q, hq⟩ : ∃ q, Go.bits .and .i64 N 7 = q := ⟨_, rfl⟩
        rw [hq] at hq0 hq7
        have hw7 : wrap64 (1 + q) = 1 + q := by unfold wrap64; omega
        have AR0 := arm_any E (1 + q) k W3 HL3.out.dw EST.out.dark (by omega) (by omega) k0 k1
        rw [show ptrV E.d = ptrV d by rw [EDD.out]] at AR0
        have AR := Lib.hid AR0
        clear AR0
        simp only [ptrV] at *
        go_wp2_with fail
        refine AR.out.mono ?_
        rintro e w4 ⟨rfl, hmv⟩
        obtain ⟨E4, HL4, EST4, ED4⟩ : ∃ E4, Hid (LW w w.heap.size (w.heap.size + 1) (w.heap.size + 1 + 1) gw gi #[.slice aa la.length ac, .int .i64 nxa, .int .i64 fra] #[.slice ba lb.length bc, .int .i64 nxb, .int .i64 frb] #[.int .i64 N, .int .i64 k] #[.slice xa wl.length xc, .int .i64 wn, .int .i64 wf] #[.slice ba lb.length bc, .int .i64 nxb, .int .i64 frb] w4 E4) ∧ Hid (Stg E4 (⟨#[109, 97, 110, 105, 102, 101, 115, 116]⟩ : ByteArray) (⟨#[109, 97, 110, 105, 102, 101, 115, 116, 46, 110, 101, 119]⟩ : ByteArray) 1008 100000 (1 + q) k false (manB (OA la nxa fra))) ∧ Hid (E4.d = d) := ⟨_, Lib.hid (HL3.out.mv hmv), Lib.hid (EST.out.arm (1 + q) k), Lib.hid (hmv.d.trans EDD.out)⟩
        clear AR hmv HL3 EST x0 x1 hw7 EDD
        have b0 := HL4.out.bb.cell 0 rfl; have b1 := HL4.out.bb.cell 1 rfl; have b2 := HL4.out.bb.cell 2 rfl
        have S20 := store_second _ _ lb nxb frb (1 + q) k (OA la nxa fra) w4 HL4.out.dw EST4.out (OA_good la nxa fra) (HB.out.below HL4.out.below) hlb
        rw [show ptrV E4.d = ptrV d by rw [ED4.out]] at S20
        have S2 := Lib.hid S20
        clear S20
        simp only [ptrV] at *
        go_wp2_with fail
        refine S2.out.mono ?_
        rintro e w5 ⟨ce, E5, dk, ob, p5, rfl, hmv, hst, hG, hcase⟩
        have HL5 := Lib.hid (HL4.out.mv hmv); have EST5 := Lib.hid hst; have HCASE := Lib.hid hcase; have HGG := Lib.hid hG
        have ED5 := Lib.hid (show E5.d = d from hmv.d.trans ED4.out)
        have ON0 := on_any E5 w5 HL5.out.dw
        rw [show ptrV E5.d = ptrV d by rw [ED5.out], EST5.out.dark] at ON0
        have ON := Lib.hid ON0
        clear ON0 S2 hmv hst hcase hG HL4 EST4 b0 b1 b2 ED4
        simp only [ptrV] at *
        go_wp2_with fail
        refine ON.out.mono ?_
        rintro e w6 ⟨rfl, hb6⟩
        have HL6 := Lib.hid (HL5.out.tail hb6)
        clear ON hb6 HL5
        have x1 := HL6.out.bx.cell 1 rfl
        cases dk
        case' false =>
          have CR0 := crash_any E5 k w6 HL6.out.dw EST5.out.dark
          rw [show ptrV E5.d = ptrV d by rw [ED5.out]] at CR0
          have CR := Lib.hid CR0
          clear CR0
          simp only [ptrV] at *
          go_wp2_with fail
          refine CR.out.mono ?_
          rintro e w7 ⟨rfl, hmv⟩
          obtain ⟨E7, HL7, EST7, ED7⟩ : ∃ E7, Hid (LW w w.heap.size (w.heap.size + 1) (w.heap.size + 1 + 1) gw gi #[.slice aa la.length ac, .int .i64 nxa, .int .i64 fra] #[.slice ba lb.length bc, .int .i64 nxb, .int .i64 frb] #[.int .i64 N, .int .i64 k] #[.slice xa wl.length xc, .int .i64 wn, .int .i64 wf] #[.slice ba lb.length bc, .int .i64 nxb, .int .i64 frb] w7 E7) ∧ Hid (Stg E7 (⟨#[109, 97, 110, 105, 102, 101, 115, 116]⟩ : ByteArray) (⟨#[109, 97, 110, 105, 102, 101, 115, 116, 46, 110, 101, 119]⟩ : ByteArray) 1008 100000 p5 k true (manB ob)) ∧ Hid (E7.d = d) := ⟨_, Lib.hid (HL6.out.mv hmv), Lib.hid (EST5.out.crash k), Lib.hid (hmv.d.trans ED5.out)⟩
          clear CR hmv x1 HL6 EST5 ED5
          go_upto_region 13 with (fail)
        case' true =>
          obtain ⟨w7, hw7⟩ : ∃ x, w6 = x := ⟨_, rfl⟩
          obtain ⟨E7, HL7, EST7, ED7⟩ : ∃ E7, Hid (LW w w.heap.size (w.heap.size + 1) (w.heap.size + 1 + 1) gw gi #[.slice aa la.length ac, .int .i64 nxa, .int .i64 fra] #[.slice ba lb.length bc, .int .i64 nxb, .int .i64 frb] #[.int .i64 N, .int .i64 k] #[.slice xa wl.length xc, .int .i64 wn, .int .i64 wf] #[.slice ba lb.length bc, .int .i64 nxb, .int .i64 frb] w6 E7) ∧ Hid (Stg E7 (⟨#[109, 97, 110, 105, 102, 101, 115, 116]⟩ : ByteArray) (⟨#[109, 97, 110, 105, 102, 101, 115, 116, 46, 110, 101, 119]⟩ : ByteArray) 1008 100000 p5 k true (manB ob)) ∧ Hid (E7.d = d) := ⟨_, HL6, EST5, ED5⟩
          rw [hw7] at HL7
          clear x1 HL6 EST5 ED5
          go_upto_region 13 with (fail)
          subst hw7
        all_goals (
          have SS0 := start_any E7 _ HL7.out.dw
          rw [show ptrV E7.d = ptrV d by rw [ED7.out]] at SS0
          have SS := Lib.hid SS0
          clear SS0
          simp only [ptrV] at *
          go_wp2_with fail
          refine SS.out.mono ?_
          rintro e w8 ⟨rfl, hmv⟩
          obtain ⟨E8, HL8, EST8, ED8⟩ : ∃ E8, Hid (LW w w.heap.size (w.heap.size + 1) (w.heap.size + 1 + 1) gw gi #[.slice aa la.length ac, .int .i64 nxa, .int .i64 fra] #[.slice ba lb.length bc, .int .i64 nxb, .int .i64 frb] #[.int .i64 N, .int .i64 k] #[.slice xa wl.length xc, .int .i64 wn, .int .i64 wf] #[.slice ba lb.length bc, .int .i64 nxb, .int .i64 frb] w8 E8) ∧ Hid (Stg E8 (⟨#[109, 97, 110, 105, 102, 101, 115, 116]⟩ : ByteArray) (⟨#[109, 97, 110, 105, 102, 101, 115, 116, 46, 110, 101, 119]⟩ : ByteArray) 1008 100000 0 k false (manB ob)) ∧ Hid (E8.d = d) := ⟨_, Lib.hid (HL7.out.mv hmv), Lib.hid EST7.out.start, Lib.hid (hmv.d.trans ED7.out)⟩
          have LD0 := mLoad_any E8 0 k ob w8 HL8.out.dw EST8.out HGG.out
          rw [show ptrV E8.d = ptrV d by rw [ED8.out]] at LD0
          have LD := Lib.hid LD0
          clear LD0 SS hmv HL7 EST7 ED7
          simp only [ptrV] at *
          go_wp2_with fail
          refine LD.out.mono ?_
          rintro e w9 ⟨ma, mc, rfl, hms, hb9⟩
          have HL9 := Lib.hid (HL8.out.tail hb9)
          have HMS := Lib.hid hms
          have i0 := fun o => (HL9.out.bi.alloc o).cell 0 rfl; have i1 := fun o => (HL9.out.bi.alloc o).cell 1 rfl; have i2 := fun o => (HL9.out.bi.alloc o).cell 2 rfl
          have s0 := fun o => (HL9.out.bw.alloc o).cell 0 rfl; have s1 := fun o => (HL9.out.bw.alloc o).cell 1 rfl; have s2 := fun o => (HL9.out.bw.alloc o).cell 2 rfl
          have MB := Lib.hid (fun o => below_alloc HL9.out.below o)
          clear LD HL8 hb9 hms
          rcases HCASE.out with ⟨rfl, hob⟩ | ⟨rfl, hob⟩ | ⟨rfl, hob, hgb⟩
          · have e1 : manV ob = (lb, nxb, frb) := by rw [hob]; rfl
            rw [e1] at HMS ⊢
            have SY := Lib.hid (fun o => same_yes (.slice ma lb.length mc) (.slice ba lb.length bc) lb nxb frb (w9.alloc o) (HMS.out.below (below_alloc (Below.refl _ _) o)) (HB.out.below (MB.out o)) hlb)
            clear s0 s1 s2 e1 hob
            go_wp2_with fail
            refine (SY.out _).mono ?_
            rintro e w10 ⟨rfl, hb⟩
            have HB10 := Lib.hid (below_tr (MB.out _) hb)
            clear SY hb i0 i1 i2
            go_wp2_with fail
            refine (LV.out _ HB10.out).mono ?_
            rintro e w11 ⟨rfl, hb⟩
            have HB11 := Lib.hid (below_tr HB10.out hb)
            clear hb
            go_wp2_with fail
            go_ret
            exact ⟨rfl, HB11.out⟩
          · have e1 : manV ob = (wl, wn, wf) := by rw [hob]; exact HMV.out
            rw [e1] at HMS ⊢
            have SY := Lib.hid (fun o => same_yes (.slice ma wl.length mc) (.slice xa wl.length xc) wl wn wf (w9.alloc o) (HMS.out.below (below_alloc (Below.refl _ _) o)) (HSW.out.below (MB.out o)) HWL.out)
            clear i0 i1 i2 e1 hob
            go_wp2_with fail
            refine (SY.out _).mono ?_
            rintro e w10 ⟨rfl, hb⟩
            have HB10 := Lib.hid (below_tr (MB.out _) hb)
            clear SY hb s0 s1 s2
            go_wp2_with fail
            refine (LV.out _ HB10.out).mono ?_
            rintro e w11 ⟨rfl, hb⟩
            have HB11 := Lib.hid (below_tr HB10.out hb)
            clear hb
            go_wp2_with fail
            go_ret
            exact ⟨rfl, HB11.out⟩
          · have e1 : manV ob = (wl, wn, wf) := by rw [hob]; exact HMV.out
            rw [e1] at HMS ⊢
            have SY := Lib.hid (fun o => same_yes (.slice ma wl.length mc) (.slice xa wl.length xc) wl wn wf (w9.alloc o) (HMS.out.below (below_alloc (Below.refl _ _) o)) (HSW.out.below (MB.out o)) HWL.out)
            have MG := fun W (h : Below w.heap.size w W) => mGood_any (.slice ba lb.length bc) lb nxb frb W (HB.out.below h) hlb
            rw [hgb] at MG
            have MGH := Lib.hid MG
            have HL10 := Lib.hid (fun o => HL9.out.tail (below_alloc (Below.refl _ _) o))
            clear i0 i1 i2 e1 hob MG hgb
            go_wp2_with fail
            refine (SY.out _).mono ?_
            rintro e w10 ⟨rfl, hb⟩
            have HB10 := Lib.hid (below_tr (MB.out _) hb)
            have HL11 := (HL10.out _).tail hb
            have b0 := HL11.bb.cell 0 rfl; have b1 := HL11.bb.cell 1 rfl; have b2 := HL11.bb.cell 2 rfl
            clear SY hb s0 s1 s2 HL11
            go_wp2_with fail
            refine (MGH.out _ HB10.out).mono ?_
            rintro e w11 ⟨rfl, hb⟩
            have HB11 := Lib.hid (below_tr HB10.out hb)
            clear hb b0 b1 b2 MGH
            go_wp2_with fail
            refine (LV.out _ HB11.out).mono ?_
            rintro e w12 ⟨rfl, hb⟩
            have HB12 := Lib.hid (below_tr HB11.out hb)
            clear hb
            go_wp2_with fail
            go_ret
            exact ⟨rfl, HB12.out⟩))
end Go.Proofs.YtefndmjimmbhnaaDoor
end
