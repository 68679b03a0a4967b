/- A file that is written beside another one, and then takes its place: the four operations of the disk, from stage to stage, wherever the power fails. Names are good, there is room. -/
import Derived.Test.YtefndmjimmbhnaaZ24
import Derived.Test.YtefndmjimmbhnaaZ36
section
set_option linter.unusedVariables false
set_option linter.unusedSimpArgs false
set_option maxRecDepth 50000
namespace Go.Proofs.Ytefndmjimmbhnaa
open Go.RowKit Go.Shelf
def lessN : Nat → Int → Int
  | 0, p => p
  | n + 1, p => less (lessN n p)
theorem lessN_le (n : Nat) (p : Int) (h : lessN n p = 1) : 0 < p := by
  induction n with
  | zero => unfold lessN at h; omega
  | succ n ih =>
    unfold lessN less at h
    rcases Int.lt_or_le 0 p with h1 | h1
    · exact h1
    · exfalso
      have : ∀ m, lessN m p = p := fun m => by
        induction m with
        | zero => rfl
        | succ m ih2 => unfold lessN less; rw [ih2, if_neg (by omega)]
      rw [this, if_neg (by omega)] at h
      omega
theorem lessN_zero (n : Nat) : lessN n 0 = 0 := by
  induction n with
  | zero => rfl
  | succ n ih => unfold lessN; rw [ih]; rfl
/-- what stands under the new name at each stage -/
def Ext (fr : ByteArray) (x : List UInt8) : Nat → Dsk → Prop
  | 1, E => ∃ f, E.get fr = some f ∧ f.b = []
  | 2, E => ∃ f, E.get fr = some f ∧ f.b = x
  | 3, E => Holds E fr (some x)
  | _, _ => True
/-- what the names and the sizes are -/
structure Plan (tn fr : ByteArray) (K : Nat) (R : Int) (x : List UInt8) : Prop where
  gt : diskNameB tn = true
  gf : diskNameB fr = true
  ne : tn ≠ fr
  x : x.length ≤ K
  room : 3 * (sect K : Int) + 3 ≤ R
/-- stage n -/
structure SI (n : Nat) (w0 : World) (D0 : Dsk) (tn fr : ByteArray) (K : Nat) (R p k : Int) (o : Option (List UInt8)) (x : List UInt8) (W : World) : Prop where
  ex : ∃ E, Mv w0 D0 W E ∧ Stg E tn fr K R (lessN n p) k false (if n = 4 then some x else o) ∧ Ext fr x n E
/-- the power has failed -/
structure SBad (w0 : World) (D0 : Dsk) (tn fr : ByteArray) (K : Nat) (R p k : Int) (o : Option (List UInt8)) (W : World) : Prop where
  ex : ∃ E p', Mv w0 D0 W E ∧ Stg E tn fr K R p' k true o
  pos : 0 < p
def SPost (n : Nat) (w0 : World) (D0 : Dsk) (tn fr : ByteArray) (K : Nat) (R p k : Int) (o : Option (List UInt8)) (x : List UInt8) (e : Ending) (W : World) : Prop :=
  (e = .returned (.int .i64 0) ∧ SI n w0 D0 tn fr K R p k o x W) ∨ (e = .returned (.int .i64 9) ∧ SBad w0 D0 tn fr K R p k o W)
section
variable {w0 W W1 : World} {D0 : Dsk} {tn fr : ByteArray} {K n : Nat} {R p k : Int} {o : Option (List UInt8)} {x : List UInt8}
theorem SI.tail (h : SI n w0 D0 tn fr K R p k o x W) (hb : Below W.heap.size W W1) : SI n w0 D0 tn fr K R p k o x W1 := by
  obtain ⟨E, h1, h2⟩ := h.ex
  exact ⟨E, h1.tail hb, h2⟩
theorem SI.but (h : SI n w0 D0 tn fr K R p k o x W) : But D0.foot w0 W := by obtain ⟨E, h1, h2⟩ := h.ex; exact h1.but
theorem SBad.but (h : SBad w0 D0 tn fr K R p k o W) : But D0.foot w0 W := by obtain ⟨E, p', h1, h2⟩ := h.ex; exact h1.but
theorem SBad.tail (h : SBad w0 D0 tn fr K R p k o W) (hb : Below W.heap.size W W1) : SBad w0 D0 tn fr K R p k o W1 := by
  obtain ⟨E, p', h1, h2⟩ := h.ex
  exact ⟨⟨E, p', h1.tail hb, h2⟩, h.pos⟩
theorem SI.start {D : Dsk} (h : DiskW w0 D) (hs : Stg D tn fr K R p k false o) (hb : Below w0.heap.size w0 W) : SI 0 w0 D tn fr K R p k o x W := ⟨D, Mv.refl h hb, hs, trivial⟩
theorem step1 (pl : Plan tn fr K R x) (h : SI 0 w0 D0 tn fr K R p k o x W) : Calls Try.prog 53 #[ptrV D0.d, .string fr] W (SPost 1 w0 D0 tn fr K R p k o x) := by
  obtain ⟨E, h1, h2, _⟩ := h.ex
  obtain ⟨c1, c2⟩ := h2.pair.count h1.dw.ok
  have hroom := pl.room
  have C := create_any E fr W h1.dw h2.dark pl.gf (fun _ => ⟨by omega, by rw [h2.room]; omega⟩)
  rw [h1.d] at C
  have okt := h1.dw.ok.tick
  refine C.mono ?_
  rintro e w' (⟨hp, rfl, hm⟩ | ⟨hp, rfl, a, hm⟩)
  · exact .inr ⟨rfl, ⟨_, _, h1.trans hm, h2.tick.crash _⟩, lessN_le 0 p (h2.plan.symm.trans hp)⟩
  · exact .inl ⟨rfl, _, h1.trans hm, h2.tick.create okt pl.ne a, _, get_create_same a, rfl⟩
theorem step2 (pl : Plan tn fr K R x) {xv : Value} (hv : SlX eB W.heap.size W xv x) (ho : ∀ ad n c, xv = .slice (some ad) n c → ¬ D0.foot ad.block ∧ ad.block < w0.heap.size) (h : SI 1 w0 D0 tn fr K R p k o x W) : Calls Try.prog 55 #[ptrV D0.d, .string fr, xv] W (SPost 2 w0 D0 tn fr K R p k o x) := by
  obtain ⟨E, h1, h2, f, hf, hfb⟩ := h.ex
  obtain ⟨c1, c2⟩ := h2.pair.count h1.dw.ok
  have hroom := pl.room
  have hx := sect_mono pl.x
  have e0 : f.b.length = 0 := by rw [hfb]; rfl
  have C := append_any E fr f x xv W h1.dw h2.dark pl.gf hf hv (fun ad n c e hk => by
      obtain ⟨h3, h4⟩ := ho ad n c e
      rcases h1.foot _ hk with h5 | h5
      · exact h3 h5
      · omega) (by
      have hx0 : f.b.length + x.length = x.length := by omega
      rw [hx0, e0, h2.room]
      have : sect 0 = 0 := rfl
      omega)
  rw [h1.d] at C
  have okt := h1.dw.ok.tick
  have hft : E.tick.get fr = some f := hf
  have hfx : f.b ++ x = x := by rw [hfb]; rfl
  have st := fun r lr => h2.tick.append okt pl.ne hft (x := x) (by rw [e0]; have := pl.x; omega) r lr
  refine C.mono ?_
  rintro e w' (⟨hp, rfl, r, lr, hm⟩ | ⟨hp, rfl, r, lr, hm⟩)
  · exact .inr ⟨rfl, ⟨_, _, h1.trans hm, (st r lr).crash _⟩, lessN_le 1 p (h2.plan.symm.trans hp)⟩
  · exact .inl ⟨rfl, _, h1.trans hm, st r lr, _, get_append_same x r lr hft, hfx⟩
theorem step3 (pl : Plan tn fr K R x) (h : SI 2 w0 D0 tn fr K R p k o x W) : Calls Try.prog 57 #[ptrV D0.d, .string fr] W (SPost 3 w0 D0 tn fr K R p k o x) := by
  obtain ⟨E, h1, h2, f, hf, hfb⟩ := h.ex
  have C := sync_any E fr f W h1.dw h2.dark pl.gf hf
  rw [h1.d] at C
  have hft : E.tick.get fr = some f := hf
  refine C.mono ?_
  rintro e w' (⟨hp, rfl, hm⟩ | ⟨hp, rfl, hm⟩)
  · exact .inr ⟨rfl, ⟨_, _, h1.trans hm, h2.tick.crash _⟩, lessN_le 2 p (h2.plan.symm.trans hp)⟩
  · have hh := Holds.synced hft
    rw [hfb] at hh
    exact .inl ⟨rfl, _, h1.trans hm, h2.tick.sync pl.ne, hh⟩
theorem step4 (pl : Plan tn fr K R x) (h : SI 3 w0 D0 tn fr K R p k o x W) : Calls Try.prog 59 #[ptrV D0.d, .string fr, .string tn] W (SPost 4 w0 D0 tn fr K R p k o x) := by
  obtain ⟨E, h1, h2, hh⟩ := h.ex
  have hh : Holds E fr (some x) := hh
  obtain ⟨f, hf⟩ : ∃ f, E.get fr = some f := by
    cases hg : E.get fr with
    | none => have := hh.b; rw [hg] at this; cases this
    | some f => exact ⟨f, rfl⟩
  have C := rename_any E fr tn f W h1.dw h2.dark pl.gf pl.gt hf
  rw [h1.d] at C
  have okt := h1.dw.ok.tick
  refine C.mono ?_
  rintro e w' (⟨hp, rfl, hm⟩ | ⟨hp, rfl, hm⟩)
  · exact .inr ⟨rfl, ⟨_, _, h1.trans hm, h2.tick.crash _⟩, lessN_le 3 p (h2.plan.symm.trans hp)⟩
  · exact .inl ⟨rfl, _, h1.trans hm, h2.tick.rename okt pl.ne hh.tick, trivial⟩
end
end Go.Proofs.Ytefndmjimmbhnaa
end
