/- Contract of manifest's Read. Condition: at most a million bytes. -/
import Derived.Test.YtefndmjimmbhnaaDoorZ33
import Derived.Deep.AppendLies
section
set_option linter.unusedVariables false
set_option linter.unusedSimpArgs false
set_option maxRecDepth 50000
namespace Go.Proofs.YtefndmjimmbhnaaDoor
open Go.RowKit

theorem NS.drew {B gc gk : Nat} {W : World} {c : List UInt8} {ok : Bool} (h : NS B gc gk W c ok) : NS B gc gk W.drew c ok := ⟨h.ex.imp fun a h => h.imp fun n h => h.imp fun cp h => ⟨h.1, h.2.below (Below.drew (Below.refl _ _))⟩, h.k0, h.fc, h.fk, h.hne, h.hb⟩
theorem NS.below {B gc gk : Nat} {W W1 : World} {c : List UInt8} {ok : Bool} (h : NS B gc gk W c ok) (hb : Below W.heap.size W W1) : NS B gc gk W1 c ok := by
  obtain ⟨⟨a, n, cp, c0, hv⟩, k0, fc, fk, hne, hb1, hb2⟩ := h
  have l1 := World.block_lt_of_cell? W _ c0
  have l2 := World.block_lt_of_cell? W _ k0
  exact ⟨⟨a, n, cp, cell_keep hb c0, hv.below (hb.mono (by have : gc < W.heap.size := l1; omega))⟩, cell_keep hb k0, (hb.frozen (p := ⟨gc, 0, none⟩) l1).trans fc, (hb.frozen (p := ⟨gk, 0, none⟩) l2).trans fk, hne, hb1, hb2⟩
/-- .. and stores to other blocks from B on -/
theorem NS.but {B gc gk g : Nat} {W W1 : World} {c : List UInt8} {ok : Bool} (h : NS B gc gk W c ok) (hb : But (fun k => k = g) W W1) (h1 : gc ≠ g) (h2 : gk ≠ g) (h3 : B ≤ g) : NS B gc gk W1 c ok := by
  obtain ⟨⟨a, n, cp, c0, hv⟩, k0, fc, fk, hne, hb1, hb2⟩ := h
  have l1 := World.block_lt_of_cell? W _ c0
  have l2 := World.block_lt_of_cell? W _ k0
  exact ⟨⟨a, n, cp, hb.cell c0 h1, hv.below (hb.below (by have : gc < W.heap.size := l1; omega) (fun k hk => by omega))⟩, hb.cell k0 h2, (hb.frozen (p := ⟨gc, 0, none⟩) l1 h1).trans fc, (hb.frozen (p := ⟨gk, 0, none⟩) l2 h2).trans fk, hne, hb1, hb2⟩
theorem NS.grown {B gc gk : Nat} {W W1 : World} {c : List UInt8} {ok : Bool} (h : NS B gc gk W c ok) {v : Value} (hg : W.grownBy W1 v.ownBlock) (hv : ∀ k, v.ownBlock = some k → gc < k ∧ gk < k ∧ B ≤ k) : NS B gc gk W1 c ok := by
  cases ho : v.ownBlock with
  | none =>
    rw [ho] at hg
    exact h.below ⟨hg.os, hg.tape, hg.output, hg.size, fun k hk => hg.block k hk (by simp)⟩
  | some r =>
    rw [ho] at hg
    obtain ⟨a1, a2, a3⟩ := hv r ho
    exact h.but (g := r) ⟨hg.os, hg.tape, hg.output, hg.size, fun k hk hn => hg.block k hk (fun e => hn (by injection e))⟩ (by omega) (by omega) a3

theorem NS.new (w1 : World) (a1 : Option Addr) (c1 : Nat) (c : List UInt8) (ok : Bool) (hs : SlB w1.heap.size w1 (.slice a1 c.length c1) c) :
    NS w1.heap.size w1.heap.size (w1.heap.size + 1) ((w1.alloc (.cells #[.slice a1 c.length c1] 46)).alloc (.cells #[.bool ok] 4)) c ok := by
  have hb : Below w1.heap.size w1 ((w1.alloc (.cells #[.slice a1 c.length c1] 46)).alloc (.cells #[.bool ok] 4)) := below_alloc (below_alloc (Below.refl _ _) _) _
  have b1 := (Blk.new w1 46 #[.slice a1 c.length c1]).alloc (.cells #[.bool ok] 4)
  have b2 := Blk.new (w1.alloc (.cells #[.slice a1 c.length c1] 46)) 4 #[.bool ok]
  have hsz : (w1.alloc (.cells #[.slice a1 c.length c1] 46)).heap.size = w1.heap.size + 1 := by simp
  rw [hsz] at b2
  exact ⟨⟨a1, c.length, c1, b1.cell 0 rfl, hs.below hb⟩, b2.cell 0 rfl, b1.frozen 0, b2.frozen 0, by omega, Nat.le_refl _, by omega⟩
theorem nextM_len (ok : Bool) (c : List UInt8) : (nextM ok c).2.2.length ≤ c.length := by
  unfold nextM
  split
  · exact Nat.le_refl _
  · simp only [List.length_drop]; omega
def readA (x1 x2 : Int) (ok : Bool) (c : List UInt8) : (List Int × Int × Int) × Int := endM x1 x2 (loopM (nextM ok c).1.toNat (nextM ok c).2.1 (nextM ok c).2.2 [])
def readB (x1 : Int) (ok : Bool) (c : List UInt8) : (List Int × Int × Int) × Int := readA x1 (nextM ok c).1 (nextM ok c).2.1 (nextM ok c).2.2
theorem readM'_B (ok : Bool) (c : List UInt8) : readM' ok c = readB (nextM ok c).1 (nextM ok c).2.1 (nextM ok c).2.2 := rfl
theorem readB_A (x1 : Int) (ok : Bool) (c : List UInt8) : readB x1 ok c = readA x1 (nextM ok c).1 (nextM ok c).2.1 (nextM ok c).2.2 := rfl
theorem split_M {R : (List Int × Int × Int) × Int} {ok : Bool} {c : List UInt8} (h : R = readM' ok c) : ∃ x k cc, nextM ok c = (x, k, cc) ∧ R = readB x k cc ∧ cc.length ≤ c.length := ⟨_, _, _, rfl, h, nextM_len ok c⟩
theorem split_B {R : (List Int × Int × Int) × Int} {x1 : Int} {ok : Bool} {c : List UInt8} (h : R = readB x1 ok c) : ∃ x k cc, nextM ok c = (x, k, cc) ∧ R = readA x1 x k cc ∧ cc.length ≤ c.length := ⟨_, _, _, rfl, h, nextM_len ok c⟩
theorem nextM_range (ok : Bool) (c : List UInt8) : -9223372036854775808 ≤ (nextM ok c).1 ∧ (nextM ok c).1 ≤ 9223372036854775807 := by
  unfold nextM
  split
  · exact ⟨by simp, by simp⟩
  · simp only; unfold wrap64; omega
theorem nextM_less {ok : Bool} {c : List UInt8} (h : (nextM ok c).2.1 = true) : (nextM ok c).2.2.length + 1 ≤ c.length := by
  rcases hg : getL 0 0 c with _ | ⟨u, k⟩
  · rw [nextM_none hg] at h; cases h
  · have := getL0_pos hg
    rw [nextM_some hg]; simp only [List.length_drop]; omega
theorem split_A {R : (List Int × Int × Int) × Int} {x1 x2 : Int} {ok : Bool} {c : List UInt8} (h : R = readA x1 x2 ok c) : ∃ x k cc, nextM ok c = (x, k, cc) ∧ R = endM x1 x2 (loopM x.toNat k cc []) ∧ cc.length ≤ c.length ∧ -9223372036854775808 ≤ x ∧ x ≤ 9223372036854775807 := ⟨_, _, _, rfl, h, nextM_len ok c, nextM_range ok c⟩
theorem next_at {ok : Bool} {c : List UInt8} {r : Int × Bool × List UInt8} (hn : nextM ok c = r) {B gc gk : Nat} {w : World} (h : NS B gc gk w c ok) (hl : c.length ≤ 1000000) :
    Calls Tryd.prog 53 #[.pointer (some ⟨gc, 0, none⟩), .pointer (some ⟨gk, 0, none⟩)] w (NextPost B gc gk w r) := by subst hn; exact next_any B gc gk c ok w h hl
def MReadPost (w : World) (r : (List Int × Int × Int) × Int) (e : Ending) (w' : World) : Prop :=
  ∃ a c, e = .returned (.tuple #[.agg #[.slice a r.1.1.length c, .int .i64 r.1.2.1, .int .i64 r.1.2.2], .int .i64 r.2]) ∧ SlI w' (.slice a r.1.1.length c) r.1.1 ∧ Below w.heap.size w w'

/-- Read's memory in its loop. -/
structure RM (w : World) (gc gk gm : Nat) (W : World) (c : List UInt8) (ok : Bool) (nx fr : Int) (ts : List Int) : Prop where
  below : Below w.heap.size w W
  ns : NS gc gc gk W c ok
  res : Blk W w.heap.size 24 #[.slice none 0 0, .int .i64 0, .int .i64 0]
  ex : ∃ a cp, Blk W gm 24 #[.slice a ts.length cp, .int .i64 nx, .int .i64 fr] ∧ OwnX eI W (gm + 1) (.slice a ts.length cp) ts
  o1 : w.heap.size < gc
  o2 : gc < gk
  o3 : gk < gm

theorem cell_but {gc gm : Nat} {w w1 : World} {v : Value} (hb : But (Two gc (gc + 1)) w w1) (ho : gc + 1 < gm) (h : w.cell? ⟨gm, 0, none⟩ = some v ∧ w.frozen? ⟨gm, 0, none⟩ = false) : w1.cell? ⟨gm, 0, none⟩ = some v ∧ w1.frozen? ⟨gm, 0, none⟩ = false :=
  ⟨hb.cell h.1 (by unfold Two; show ¬ (gm = gc ∨ gm = gc + 1); omega), (hb.frozen (p := ⟨gm, 0, none⟩) (World.block_lt_of_cell? w _ h.1) (by unfold Two; show ¬ (gm = gc ∨ gm = gc + 1); omega)).trans h.2⟩
theorem cell_own {gm : Nat} {w w1 : World} {v u : Value} (hg : w.grownBy w1 u.ownBlock) (ho : ∀ k, u.ownBlock = some k → gm < k) (h : w.cell? ⟨gm, 0, none⟩ = some v ∧ w.frozen? ⟨gm, 0, none⟩ = false) : w1.cell? ⟨gm, 0, none⟩ = some v ∧ w1.frozen? ⟨gm, 0, none⟩ = false := by
  have hn : some gm ≠ u.ownBlock := fun e => by have := ho gm e.symm; omega
  exact ⟨hg.cell h.1 hn, (hg.frozen_far ⟨gm, 0, none⟩ (World.block_lt_of_cell? w _ h.1) hn).trans h.2⟩

theorem RM.next {w wr w5 w6 : World} {gc gm : Nat} {c c2 : List UInt8} {ok ok2 : Bool} {nx fr y : Int} {ts : List Int} {a : Option Addr} {ct gx cx : Nat} {o : Obj} (rm : RM w gc (gc + 1) gm wr c ok nx fr ts)
    (hb : Blk wr gm 24 #[.slice a ts.length ct, .int .i64 nx, .int .i64 fr]) (hO : OwnX eI wr (gm + 1) (.slice a ts.length ct) ts)
    (ns5 : NS gc gc (gc + 1) w5 c2 ok2) (bt5 : But (Two gc (gc + 1)) wr.drew w5) (hg6 : (w5.alloc o).grownBy w6 (Value.slice a ts.length ct).ownBlock)
    (hO6 : OwnX eI w6 (gm + 1) (.slice (some ⟨gx, 0, none⟩) (ts.length + 1) cx) (ts ++ [y])) :
    RM w gc (gc + 1) gm (w6.setCell ⟨gm, 0, none⟩ (.slice (some ⟨gx, 0, none⟩) (ts.length + 1) cx)) c2 ok2 nx fr (ts ++ [y]) := by
  obtain ⟨m0, _, res0, _, o1, o2, o3⟩ := rm
  have own := fun k hk => OwnX.base hO k hk
  have hz : w.heap.size ≤ wr.heap.size := m0.size
  have b5 : Below w.heap.size w w5 := m0.drew.trans (bt5.below (B := w.heap.size) hz (by unfold Two; omega))
  have b5a : Below w.heap.size w (w5.alloc o) := below_al b5 o b5.size
  have b6 : Below w.heap.size w w6 := b5a.grown hg6 b5a.size (fun k hk => by have := own k hk; omega)
  have hn : ∀ g, g ≤ gm → some g ≠ (Value.slice a ts.length ct).ownBlock := fun g hgle e => by have := own g e.symm; omega
  have hb6 : Blk w6 gm 24 #[.slice a ts.length ct, .int .i64 nx, .int .i64 fr] := ((hb.drew.but bt5 (by unfold Two; omega)).alloc o).grown hg6 (hn gm (Nat.le_refl _))
  have hr6 := (((res0.drew.but bt5 (by unfold Two; omega)).alloc o).grown hg6 (hn w.heap.size (by omega)))
  refine ⟨b6.setCell (p := ⟨gm, 0, none⟩) (by show w.heap.size ≤ gm; omega) _, ?_, hr6.far (p := ⟨gm, 0, none⟩) (by show w.heap.size ≠ gm; omega) _, ⟨some ⟨gx, 0, none⟩, cx, ?_, ?_⟩, o1, o2, o3⟩
  · have n6 := (ns5.below (below_alloc (Below.refl _ w5) o)).grown hg6 (fun k hk => by have := own k hk; omega)
    exact n6.but (g := gm) (But.setCell (S := fun k => k = gm) (But.refl _ w6) (p := ⟨gm, 0, none⟩) rfl _) (by omega) (by omega) (by omega)
  · have := hb6.put 0 (.slice (some ⟨gx, 0, none⟩) (ts.length + 1) cx)
    rw [List.length_append]
    exact this
  · have := hO6.but (But.setCell (S := fun k => k = gm) (But.refl _ w6) (p := ⟨gm, 0, none⟩) rfl (.slice (some ⟨gx, 0, none⟩) (ts.length + 1) cx)) (fun k hk => by omega)
    rw [List.length_append]
    exact this

theorem MReadPost.bad {w w' : World} {r : (List Int × Int × Int) × Int} (h : r = badM) (hb : Below w.heap.size w w') : MReadPost w r (.returned (.tuple #[.agg #[.slice none 0 0, .int .i64 0, .int .i64 0], .int .i64 8])) w' := by
  subst h
  exact ⟨none, 0, rfl, ⟨none, 0, rfl, by simp [badM], fun h => absurd h (by simp [badM])⟩, hb⟩
theorem MReadPost.good {w w' : World} {r : (List Int × Int × Int) × Int} {a : Option Addr} {ct : Nat} {ts : List Int} {nx fr : Int} (h : r = ((ts, nx, fr), 0)) (hs : SlI w' (.slice a ts.length ct) ts) (hb : Below w.heap.size w w') : MReadPost w r (.returned (.tuple #[.agg #[.slice a ts.length ct, .int .i64 nx, .int .i64 fr], .int .i64 0])) w' := by
  subst h
  exact ⟨a, ct, rfl, hs, hb⟩
theorem below_put3 {w W : World} {a b c : Value} (h : Below w.heap.size w W) : Below w.heap.size w (((W.setCell ⟨w.heap.size, 0, none⟩ a).setCell ⟨w.heap.size, 1, none⟩ b).setCell ⟨w.heap.size, 2, none⟩ c) :=
  ((h.setCell (p := ⟨w.heap.size, 0, none⟩) (Nat.le_refl _) a).setCell (p := ⟨w.heap.size, 1, none⟩) (Nat.le_refl _) b).setCell (p := ⟨w.heap.size, 2, none⟩) (Nat.le_refl _) c
theorem but_put3 {g : Nat} {W : World} {a b c : Value} : But (fun k => k = g) W (((W.setCell ⟨g, 0, none⟩ a).setCell ⟨g, 1, none⟩ b).setCell ⟨g, 2, none⟩ c) :=
  But.setCell (S := fun k => k = g) (But.setCell (S := fun k => k = g) (But.setCell (S := fun k => k = g) (But.refl _ _) (p := ⟨g, 0, none⟩) rfl a) (p := ⟨g, 1, none⟩) rfl b) (p := ⟨g, 2, none⟩) rfl c
theorem SlX.but {α : Type} {E : El α} {B : Nat} {w w1 : World} {v : Value} {l : List α} {S : Nat → Prop} (h : OwnX E w B v l) (hb : But S w w1) (hs : ∀ k, B ≤ k → ¬ S k) : SlX E w1.heap.size w1 v l := (OwnX.but h hb hs).sl

set_option maxHeartbeats 4000000 in
theorem mRead_any (v : Value) (l : List UInt8) (w : World) (hv : SlB w.heap.size w v l) (hl : l.length ≤ 100000) :
    Calls Tryd.prog 31 #[v] w (MReadPost w (readM l)) := by
  have HV := Lib.hid hv
  obtain ⟨a, cp, rfl, hcp, hx⟩ := hv.ex
  clear hv hx
  have hb0 := Lib.hid (below_alloc (Below.refl _ w) (.cells #[.slice none 0 0, .int .i64 0, .int .i64 0] 24))
  have r0 := Lib.hid (Blk.new w 24 #[.slice none 0 0, .int .i64 0, .int .i64 0])
  have hdef : readM l = readM' ((unframeL l).2.2 == 0 && (((unframeL l).2.1 : Int) == (l.length : Int))) (unframeL l).1 := rfl
  have hcl : (unframeL l).1.length ≤ l.length := by
    unfold unframeL
    repeat' split
    all_goals first | (simp; done) | (simp only [List.length_take, List.length_drop]; omega)
  have U := Lib.hid (fun W (h : Below w.heap.size w W) => Unframe_any (.slice a l.length cp) l W (HV.out.keep h) (by omega))
  generalize unframeL l = uf at *
  obtain ⟨c, n, e⟩ := uf
  simp only at hdef hcl
  have HDEF := Lib.hid hdef; clear hdef
  have three : (∃ ok0 : Bool, ((e == 0) = false ∧ ok0 = false) ∨ ((e == 0) = true ∧ ((n : Int) == (l.length : Int)) = ok0)) := by
    rcases h : (e == 0) with _ | _
    · exact ⟨false, .inl ⟨rfl, rfl⟩⟩
    · exact ⟨_, .inr ⟨rfl, rfl⟩⟩
  obtain ⟨ok0, hok⟩ := three
  have hd2 : readM l = readM' ok0 c := by
    rw [HDEF.out]
    rcases hok with ⟨h1, rfl⟩ | ⟨h1, h2⟩
    · rw [h1, Bool.false_and]
    · rw [h1, h2, Bool.true_and]
  have HD := Lib.hid hd2; clear hd2 HDEF
  go_enter Tryd.func31, Tryd.ntmps31
  go_wp2_with fail
  generalize hW : w.alloc (.cells #[.slice none 0 0, .int .i64 0, .int .i64 0] 24) = W0 at *
  clear hW
  refine (U.out _ hb0.out).mono ?_
  rintro e1 w1 ⟨v1, rfl, hO1, hb1⟩
  have hs1 := hO1.slB
  obtain ⟨a1, c1, rfl, _, _⟩ := hs1.ex
  have HS1 := Lib.hid hs1
  have HB1 := Lib.hid (below_tr hb0.out hb1)
  have HR1 := Lib.hid (r0.out.below hb1)
  clear hO1 hb1 hs1 hb0 r0 U HV
  rcases hok with ⟨q1, rfl⟩ | ⟨q1, q2⟩
  all_goals (
    obtain ⟨x1, k1, cc1, hn, hD1, hl1⟩ := split_M HD.out
    have N1 := next_at hn (NS.new w1 a1 c1 c _ HS1.out) (by omega)
    have HN1 := Lib.hid N1; have HD1 := Lib.hid hD1
    clear N1 hn hD1 HD
    go_wp2_with fail
    refine HN1.out.mono ?_
    rintro e2 w2 ⟨rfl, ns2, bt2⟩
    have HR2 := Lib.hid (((HR1.out.alloc _).alloc _).but bt2 (by have := HB1.out.size; have := HR1.out.lt; unfold Two; omega))
    have HB2 := Lib.hid (HB1.out.trans (((below_alloc (below_alloc (Below.refl _ w1) _) _).mono HB1.out.size).trans (bt2.below (B := w.heap.size) (by have := HB1.out.size; simp; omega) (by have := HB1.out.size; unfold Two; omega))))
    have HLT := Lib.hid HR1.out.lt
    have NS2 := Lib.hid ns2
    clear ns2 bt2 HR1 HS1 HB1 HN1
    generalize w1.heap.size = gc at *
    simp only at NS2
    obtain ⟨x2, k2, cc2, hn, hD2, hl2⟩ := split_B HD1.out
    have N2 := next_at hn NS2.out (by omega)
    have HN2 := Lib.hid N2; have HD2 := Lib.hid hD2
    clear N2 hn hD2 HD1
    go_wp2_with fail
    refine HN2.out.mono ?_
    rintro e3 w3 ⟨rfl, ns3, bt3⟩
    have HR3 := Lib.hid (HR2.out.but bt3 (by have := HLT.out; unfold Two; omega))
    have HB3 := Lib.hid (HB2.out.trans (bt3.below (B := w.heap.size) HB2.out.size (by have := HLT.out; unfold Two; omega)))
    have hgk := NS2.out.hne
    have hlk : gc + 1 < w3.heap.size := World.block_lt_of_cell? w3 _ ns3.k0
    simp only at ns3
    have NS3 := Lib.hid ns3
    clear ns3 bt3 HR2 HB2 NS2 HN2 hgk
    obtain ⟨x3, k3, cc3, hn, hD3, hl3, b1, b2⟩ := split_A HD2.out
    have N3 := next_at hn (NS3.out.below (below_alloc (Below.refl _ w3) (.cells #[.slice none 0 0, .int .i64 x1, .int .i64 x2] 24))) (by omega)
    have HN3 := Lib.hid N3; have HD3 := Lib.hid hD3
    clear N3 hn hD3 HD2
    go_wp2_with fail
    refine HN3.out.mono ?_
    rintro e4 w4 ⟨rfl, ns4, bt4⟩
    have RM4 := Lib.hid (RM.mk (w := w) (gc := gc) (gk := gc + 1) (gm := w3.heap.size) (W := w4) (c := cc3) (ok := k3) (nx := x1) (fr := x2) (ts := [])
      (HB3.out.trans (((below_alloc (Below.refl _ w3) _).mono HB3.out.size).trans (bt4.below (B := w.heap.size) (by have := HB3.out.size; simp; omega) (by have := HLT.out; unfold Two; omega))))
      ns4 ((HR3.out.alloc _).but bt4 (by have := HLT.out; unfold Two; omega))
      ⟨none, 0, (Blk.new w3 _ _).but bt4 (by unfold Two; omega), OwnX.nil _ _⟩ HLT.out (by omega) hlk)
    clear ns4 bt4 HR3 HB3 NS3 HN3
    generalize w3.heap.size = gm at *
    simp only
    go_wp2_with fail
    have HLC := Lib.hid (show cc3.length ≤ 100000 by omega)
    go_loopw [10] (fun kk wr => ∃ (z : Int) (c' : List UInt8) (ok : Bool) (ts : List Int), kk = .int .i64 z ∧ -9223372036854775808 ≤ z ∧ z ≤ 9223372036854775807 ∧ RM w gc (gc + 1) gm wr c' ok x1 x2 ts ∧ readM l = endM x1 x2 (loopM z.toNat ok c' ts) ∧ c'.length ≤ 100000 ∧ ts.length ≤ 100001 ∧ (ok = true → ts.length + c'.length ≤ 100000)) (fun kk _ => (intOf kk).toNat)
    case atStart => exact ⟨x3, cc3, k3, [], rfl, b1, b2, RM4.out, HD3.out, HLC.out, by simp, fun _ => by have := HLC.out; simp; omega⟩
    case round =>
      clear RM4 HD3 HLC b1 b2 hl1 hl2 hl3 hcl
      obtain ⟨z, c', ok, ts, rfl, z0, z1, rm, hd, hc1, ht1, ht2⟩ := hrel
      have HDZ := Lib.hid hd; clear hd
      have k0 := rm.ns.k0
      have RMZ := Lib.hid rm; clear rm
      rcases ok with _ | _
      · -- it was none: out of the loop
        have HE := Lib.hid (HDZ.out.trans (endM_bad (fun h => by have := h.1; rw [loopM_false] at this; cases this)))
        have r0 := RMZ.out.res.cell 0 rfl; have r1 := RMZ.out.res.cell 1 rfl; have r2 := RMZ.out.res.cell 2 rfl
        have f0 := RMZ.out.res.frozen 0; have f1 := RMZ.out.res.frozen 1; have f2 := RMZ.out.res.frozen 2
        go_wp2_with fail
        refine bodyPost_ret (v := .tuple #[.agg #[.slice none 0 0, .int .i64 0, .int .i64 0], .int .i64 8]) (by simp [results, Tryd.results31, go_sem, r0, r1, r2]) rfl ?_
        exact MReadPost.bad HE.out (below_put3 RMZ.out.below)
      · by_cases hz : 0 < z
        · obtain ⟨m0, ns0, res0, ⟨at', ct, hblk, hown⟩, o1, o2, o3⟩ := RMZ.out
          obtain ⟨y, ok2, c2, hn, hlen2, hlt2⟩ : ∃ y ok2 c2, nextM true c' = (y, ok2, c2) ∧ c2.length ≤ c'.length ∧ (ok2 = true → c2.length + 1 ≤ c'.length) := ⟨_, _, _, rfl, nextM_len _ _, nextM_less⟩
          have HNX := Lib.hid (show readM l = endM x1 x2 (loopM (z - 1).toNat ok2 c2 (ts ++ [y])) by rw [HDZ.out, show z.toNat = (z - 1).toNat + 1 by omega, loopM, hn])
          have ht3 := ht2 rfl
          clear ht2
          have NX := Lib.hid (fun W (h : NS gc gc (gc + 1) W c' true) => next_at hn h (by omega))
          have m0' := hblk.cell 0 rfl; have f0' := hblk.frozen 0
          have HOO := Lib.hid o3
          have HO := Lib.hid hown; have HNS := Lib.hid ns0; have HBK := Lib.hid hblk
          clear hown ns0 hblk res0 m0
          go_wp2_with fail
          have HM := Lib.hid (And.intro m0' f0')
          have HLN := Lib.hid ht3
          have hlx : ts.length + [y].length ≤ 9223372036854775807 := by simp; omega
          have hly : (ts.length + [y].length) * 8 ≤ 140737488355328 := by simp; omega
          go_region_law (first
            | (go_simp; go_at_call 53; refine (NX.out _ (by first | exact HNS.out | exact HNS.out.drew)).mono ?_; rintro e5 w5 ⟨rfl, ns5, bt5⟩; have HO5 := Lib.hid (HO.out.drew.but bt5 (by unfold Two; omega)); obtain ⟨m5, f5⟩ := cell_but bt5 HOO.out (show wr.drew.cell? ⟨gm, 0, none⟩ = _ ∧ wr.drew.frozen? ⟨gm, 0, none⟩ = false from HM.out); obtain ⟨m5a, f5a⟩ := cell_but (But.of_below _ (below_alloc (Below.refl _ w5) (.cells #[.int .i64 y] 3))) HOO.out ⟨m5, f5⟩; have HZ5 := Lib.hid (show gm < w5.heap.size from World.block_lt_of_cell? w5 _ m5))
            | (refine st_x (E := eI) (by rfl) (.tmp 41) (.tmp 44) (by rfl) (gm + 1) (.slice at' ts.length ct) ts _ _ [y] (by rfl) (by rfl) (SlX.lit (E := eI) w5 #[.int .i64 y] [y] 1 1 rfl (by simp) (by simp [eI_cells])) (HO5.out.alloc _) (by have := HZ5.out; simp; omega) hlx hly ?_; intro v6 w6 hO6 hg6 hw6; obtain ⟨gx, cx, rfl, hcx, hgx, hgx2, hcellx⟩ := OwnX.formN hO6 (ts.length + 1) (by simp) (by omega); obtain ⟨m6, f6⟩ := cell_own hg6 (fun k hk => HO5.out.base k hk) (cell_but (But.of_below _ (below_alloc (Below.refl _ w5) _)) HOO.out ⟨m5, f5⟩)))
          all_goals (
            have RM6 := Lib.hid (RM.next RMZ.out HBK.out HO.out ns5 bt5 hg6 hO6)
            clear ns5 bt5 hg6 hO6 m5 f5 m5a f5a m6 f6 hcellx)
          all_goals (go_wp2_with fail)
          all_goals (
            go_roundw
            case rel => exact ⟨z - 1, c2, ok2, ts ++ [y], rfl, by omega, by omega, RM6.out, HNX.out, by omega, by simp; omega, fun h => by have := hlt2 h; simp; omega⟩
            case measure => (first | (simp [intOf]; done) | (simp [intOf]; omega)))
        · have hz0 : z.toNat = 0 := by omega
          have HE := Lib.hid (show readM l = endM x1 x2 (true, c', ts) by rw [HDZ.out, hz0]; rfl)
          clear hz0 ht2
          obtain ⟨m0, ns0, res0, ⟨at', ct, hblk, hown⟩, o1, o2, o3⟩ := RMZ.out
          obtain ⟨⟨ac, nc, cpc, c0, hvc⟩, _, _, _, _, _⟩ := ns0
          obtain ⟨_, _, he, _, _⟩ := hvc.ex
          injection he with e1 e2 e3
          subst e1 e2 e3
          have r0 := res0.cell 0 rfl; have r1 := res0.cell 1 rfl; have r2 := res0.cell 2 rfl
          have f0 := res0.frozen 0; have f1 := res0.frozen 1; have f2 := res0.frozen 2
          have HR := Lib.hid res0; have HO := Lib.hid hown; have HBK := Lib.hid hblk; have HM0 := Lib.hid m0; have HOO := Lib.hid (And.intro o1 (And.intro o2 o3))
          clear hvc hown hblk res0 m0 o1 o2 o3
          by_cases hce : 0 < c'.length
          · have HF := Lib.hid (HE.out.trans (endM_bad (fun h => by have := h.2; simp only at this; rw [this] at hce; simp at hce)))
            go_wp2_with fail
            refine bodyPost_ret (v := .tuple #[.agg #[.slice none 0 0, .int .i64 0, .int .i64 0], .int .i64 8]) (by simp [results, Tryd.results31, go_sem, r0, r1, r2]) rfl ?_
            exact MReadPost.bad HF.out (below_put3 HM0.out)
          · have hcn : c' = [] := List.eq_nil_of_length_eq_zero (by omega)
            have HCN := Lib.hid hcn; clear hcn
            have G := Lib.hid (mGood_any (.slice at' ts.length ct) ts x1 x2 wr (SlX.ints HO.out.sl) (by omega))
            have m0 := HBK.out.cell 0 rfl; have m1 := HBK.out.cell 1 rfl; have m2 := HBK.out.cell 2 rfl
            rcases hgd : goodM ts x1 x2 with _ | _
            · have HF := Lib.hid (HE.out.trans (show endM x1 x2 (true, c', ts) = badM by unfold endM; rw [if_neg]; rintro ⟨_, _, h⟩; simp only at h; rw [hgd] at h; cases h))
              rw [hgd] at G
              clear hgd
              go_wp2_with fail
              refine G.out.mono ?_
              rintro e7 w7 ⟨rfl, hb7⟩
              have r0 := cell_keep hb7 r0; have r1 := cell_keep hb7 r1; have r2 := cell_keep hb7 r2
              have f0 := (HR.out.below hb7).frozen 0; have f1 := (HR.out.below hb7).frozen 1; have f2 := (HR.out.below hb7).frozen 2
              have HB7 := Lib.hid (below_tr HM0.out hb7); clear hb7
              go_wp2_with fail
              refine bodyPost_ret (v := .tuple #[.agg #[.slice none 0 0, .int .i64 0, .int .i64 0], .int .i64 8]) (by simp [results, Tryd.results31, go_sem, r0, r1, r2]) rfl ?_
              exact MReadPost.bad HF.out (below_put3 HB7.out)
            · have HF := Lib.hid (HE.out.trans (show endM x1 x2 (true, c', ts) = ((ts, x1, x2), 0) by unfold endM; rw [if_pos ⟨rfl, HCN.out, hgd⟩]))
              rw [hgd] at G
              clear hgd
              go_wp2_with fail
              refine G.out.mono ?_
              rintro e7 w7 ⟨rfl, hb7⟩
              have r0 := cell_keep hb7 r0; have r1 := cell_keep hb7 r1; have r2 := cell_keep hb7 r2
              have m0 := cell_keep hb7 m0; have m1 := cell_keep hb7 m1; have m2 := cell_keep hb7 m2
              have f0 := (HR.out.below hb7).frozen 0; have f1 := (HR.out.below hb7).frozen 1; have f2 := (HR.out.below hb7).frozen 2
              have HB7 := Lib.hid (below_tr HM0.out hb7); have HO7 := Lib.hid (HO.out.below hb7); clear hb7
              go_wp2_with fail
              refine bodyPost_ret (v := .tuple #[.agg #[.slice at' ts.length ct, .int .i64 x1, .int .i64 x2], .int .i64 0]) (by simp [results, Tryd.results31, go_sem, r0, r1, r2]) rfl ?_
              exact MReadPost.good HF.out (SlX.ints (SlX.but HO7.out (but_put3 (g := w.heap.size)) (fun k hk => by have := HOO.out; omega))) (below_put3 HB7.out))
end Go.Proofs.YtefndmjimmbhnaaDoor
end
