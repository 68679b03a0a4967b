/- Contracts of slices.IndexFunc and DeleteFunc at one cell, of purge.without, Cells and Table there. -/
import Derived.Test.YtmjeifbadjdnfaaDoorHe
import Derived.Test.YtmjeifbadjdnfaaDoorSt
import Derived.Lib.LazyBuf
set_option linter.unusedVariables false
set_option linter.unusedSimpArgs false
set_option maxRecDepth 50000
namespace Go.Proofs.YtmjeifbadjdnfaaDoor
open Go.RowKit Go.Sort

theorem idxC1_any (g o c : Nat) (x : Cel) (p1 p2 p3 : Value) (b : Bool) (w : World) (HV : SlX eC w.heap.size w (.slice (some ⟨g, o, none⟩) 1 c) [x])
    (GC : ∀ W, Below w.heap.size w W → Calls Tryd.prog 61 #[.agg (celEnc x).toArray, p1, p2, p3] W fun e w' => e = .returned (.bool b) ∧ Below W.heap.size W w') :
    Calls Tryd.prog 42 #[.slice (some ⟨g, o, none⟩) 1 c, .func (.func 61) #[] #[p1, p2, p3]] w
      fun e w' => e = .returned (.int .i64 (if b then 0 else -1)) ∧ Below w.heap.size w w' := by
  have ten := Ten.of HV 0 (by simp)
  simp only [List.getElem_cons_zero, Nat.zero_mul, Nat.add_zero] at ten
  have TEN := Lib.hid ten
  obtain ⟨⟨t, p, r, q⟩, ⟨tm, dd, lc, kd, nn, ss⟩⟩ := x
  simp only [celEnc] at GC
  have GC' := Lib.hid GC
  clear HV ten GC
  go_enter Tryd.func42, Tryd.ntmps42
  go_wp2_with fail
  go_loopw [5, 8] (fun _ v8 wr => (v8 = .int .i64 0 ∧ w = wr) ∨ (v8 = .int .i64 1 ∧ b = false ∧ Below w.heap.size w wr)) (fun _ v8 _ => 1 - (intOf v8).toNat)
  case atStart => exact .inl ⟨rfl, rfl⟩
  case round =>
    rcases hrel with ⟨rfl, rfl⟩ | ⟨rfl, rfl, hB⟩
    · obtain ⟨c0, c1, c2, c3, c4, c5, c6, c7, c8, c9⟩ := TEN.out
      simp only at *
      go_wp2_with fail
      refine (GC'.out _ (Below.refl _ _)).mono ?_
      rintro e w1 ⟨rfl, hb⟩
      have HB := Lib.hid hb; clear hb
      cases b with
      | true =>
        go_wp2_with fail
        go_ret
        exact ⟨rfl, HB.out⟩
      | false =>
        go_wp2_with fail
        exact ⟨.inr ⟨rfl, by trivial, HB.out⟩, by simp [intOf]⟩
    · have HB := Lib.hid hB; clear hB
      go_wp2_with fail
      go_ret
      exact ⟨rfl, HB.out⟩

theorem clearC (w : World) (g c base : Nat) (x : Cel) (ty : TypeId) (HO : OwnX eC w base (.slice (some ⟨g, 0, none⟩) 1 c) [x]) :
    ∃ w', (Builtin.clear_ #[22] ty #[.slice (some ⟨g, 0, none⟩) 1 c]).run Tryd.prog w = .ok (.tuple #[]) w' ∧ Below base w w' := by
  have hz : (zeroValue 35).run Tryd.prog w = .ok zCel w := by unfold zCel; go_simp
  have hzc : (Builtin.zeroCells zCel.cells 1).toList = [.string ⟨#[]⟩, .string ⟨#[]⟩, .int .i64 0, .string ⟨#[]⟩, .int .i64 0, .bool false, .int .i64 0, .int .i64 0, .int .i64 0, .string ⟨#[]⟩] := by kernel_rfl
  have hcell : ∀ j, j < 10 → (w.cell? ⟨g, 0 + 0 + j, none⟩).isSome = true := fun j hj => by
    have h10 : (celEnc x).length = 10 := rfl
    have := HO.cell 0 j (by simp) (u := (celEnc x)[j]'(by rw [h10]; exact hj)) (List.getElem?_eq_getElem (show j < (celEnc x).length by rw [h10]; exact hj))
    rw [show 0 * eC.size + j = 0 + 0 + j by simp] at this
    rw [this]; rfl
  have hst := run_storeCells_cells (P := Tryd.prog) g 0 [.string ⟨#[]⟩, .string ⟨#[]⟩, .int .i64 0, .string ⟨#[]⟩, .int .i64 0, .bool false, .int .i64 0, .int .i64 0, .int .i64 0, .string ⟨#[]⟩] 0 w (fun j hj => hcell j (by simpa using hj)) (fun j hj => HO.frozen _) (by intro v hv; simp at hv; rcases hv with rfl | rfl | rfl | rfl | rfl | rfl | rfl | rfl | rfl | rfl <;> rfl)
  refine ⟨w.setCells g 0 [.string ⟨#[]⟩, .string ⟨#[]⟩, .int .i64 0, .string ⟨#[]⟩, .int .i64 0, .bool false, .int .i64 0, .int .i64 0, .int .i64 0, .string ⟨#[]⟩], ?_, ?_⟩
  · unfold Builtin.clear_
    simp [run_underlying Tryd.underlying22, hz, hzc, hst, Result.andThen]
  · exact below_setCells (HO.base g rfl) _ 0 w (Below.refl _ _)

theorem delC1_any (g c base : Nat) (x : Cel) (p1 p2 p3 : Value) (b : Bool) (w : World) (HO : OwnX eC w base (.slice (some ⟨g, 0, none⟩) 1 c) [x]) (hc : 1 ≤ c) (hbase : base ≤ w.heap.size)
    (GC : ∀ W, Below w.heap.size w W → Calls Tryd.prog 61 #[.agg (celEnc x).toArray, p1, p2, p3] W fun e w' => e = .returned (.bool b) ∧ Below W.heap.size W w') :
    Calls Tryd.prog 64 #[.slice (some ⟨g, 0, none⟩) 1 c, .func (.func 61) #[] #[p1, p2, p3]] w
      fun e w' => e = .returned (.slice (some ⟨g, 0, none⟩) (if b then 0 else 1) c) ∧ Below base w w' := by
  have C := Lib.hid (idxC1_any g 0 c x p1 p2 p3 b w HO.sl GC)
  have HO' := Lib.hid HO
  clear GC HO
  have hc0 : (0 : Int) ≤ (c : Int) := by omega
  have hc1 : (1 : Int) ≤ (c : Int) := by omega
  go_enter Tryd.func64, Tryd.ntmps64
  go_wp2_with fail
  refine C.out.mono ?_
  rintro e w1 ⟨rfl, hb⟩
  have HO1 := Lib.hid (HO'.out.below hb)
  have HB1 := Lib.hid (Below.mono hb hbase); clear hb
  cases b with
  | false =>
    go_wp2_with fail
    go_ret
    exact ⟨rfl, HB1.out⟩
  | true =>
    have hcl := fun ty => clearC w1 g c base x ty HO1.out
    obtain ⟨w2, hr, hb2⟩ := hcl 0
    have HB2 := Lib.hid (Below.trans HB1.out hb2); clear hb2 hcl
    go_wp2_with fail
    go_loopw [5, 6, 7] (fun v5 v6 _ wr => v5 = .int .i64 0 ∧ v6 = .int .i64 1 ∧ w1 = wr) (fun _ _ _ _ => 0)
    case atStart => exact ⟨rfl, rfl, rfl⟩
    case round =>
      obtain ⟨rfl, rfl, rfl⟩ := hrel
      go_wp2_with fail
      go_ret
      exact ⟨rfl, HB2.out⟩

theorem without1_any (g o c : Nat) (x : Cel) (now gr : Int) (val : Value) (asks : List Ask) (w : World) (HV : SlX eC w.heap.size w (.slice (some ⟨g, o, none⟩) 1 c) [x])
    (hv : SlX eF w.heap.size w val asks) (ha : ∀ a ∈ asks, AskOk w a) (hk : KyOk x.k) (i1 : In64 x.v.loc) (i2 : In64 now) (i3 : In64 gr) (hl : asks.length ≤ 6000000000000) :
    Calls Tryd.prog 39 #[.slice (some ⟨g, o, none⟩) 1 c, .int .i64 now, .int .i64 gr, val] w
      fun e w' => ∃ a c', e = .returned (.slice a (if goneB now gr asks x then 0 else 1) c') ∧ Below w.heap.size w w' := by
  obtain ⟨av, cv, rfl, _⟩ := hv.ex
  have b3 : Below w.heap.size w (((w.alloc (.cells #[.int .i64 now] 3)).alloc (.cells #[.int .i64 gr] 3)).alloc (.cells #[.slice av asks.length cv] 78)) := by (repeat (first | exact Below.refl _ _ | assumption | refine below_alloc ?_ _ | refine Below.drew ?_ | refine below_drewN ?_ _ | refine below_tr ?_ (by assumption)))
  have k1 : Blk (((w.alloc (.cells #[.int .i64 now] 3)).alloc (.cells #[.int .i64 gr] 3)).alloc (.cells #[.slice av asks.length cv] 78)) w.heap.size 3 #[.int .i64 now] := ((Blk.new w _ _).alloc _).alloc _
  have k2 : Blk (((w.alloc (.cells #[.int .i64 now] 3)).alloc (.cells #[.int .i64 gr] 3)).alloc (.cells #[.slice av asks.length cv] 78)) (w.heap.size + 1) 3 #[.int .i64 gr] := by
    have := (Blk.new (w.alloc (.cells #[.int .i64 now] 3)) 3 #[.int .i64 gr]).alloc (.cells #[.slice av asks.length cv] 78)
    rwa [show (w.alloc (.cells #[.int .i64 now] 3)).heap.size = w.heap.size + 1 by simp] at this
  have k3 : Blk (((w.alloc (.cells #[.int .i64 now] 3)).alloc (.cells #[.int .i64 gr] 3)).alloc (.cells #[.slice av asks.length cv] 78)) (w.heap.size + 2) 78 #[.slice av asks.length cv] := by
    have := (Blk.new ((w.alloc (.cells #[.int .i64 now] 3)).alloc (.cells #[.int .i64 gr] 3)) 78 #[.slice av asks.length cv])
    rwa [show ((w.alloc (.cells #[.int .i64 now] 3)).alloc (.cells #[.int .i64 gr] 3)).heap.size = w.heap.size + 2 by simp] at this
  have B3 := Lib.hid b3
  have C1 := Lib.hid (norm1_any g o c x _ (HV.keep b3))
  have GC := Lib.hid (fun W (hb : Below (((w.alloc (.cells #[.int .i64 now] 3)).alloc (.cells #[.int .i64 gr] 3)).alloc (.cells #[.slice av asks.length cv] 78)).heap.size (((w.alloc (.cells #[.int .i64 now] 3)).alloc (.cells #[.int .i64 gr] 3)).alloc (.cells #[.slice av asks.length cv] 78)) W) =>
    gone_any x now gr w.heap.size (w.heap.size + 1) (w.heap.size + 2) _ asks W ((k1.below hb).cell 0 rfl) ((k2.below hb).cell 0 rfl) ((k3.below hb).cell 0 rfl) (hv.keep (below_tr b3 hb)) (fun a h => (ha a h).below (below_tr b3 hb)) hk i1 i2 i3 hl)
  clear HV hv ha hk i1 i2 i3 b3 k1 k2 k3
  generalize goneB now gr asks x = b at *
  go_enter Tryd.func39, Tryd.ntmps39
  go_wp2_with fail
  generalize ((w.alloc (.cells #[.int .i64 now] 3)).alloc (.cells #[.int .i64 gr] 3)).alloc (.cells #[.slice av asks.length cv] 78) = W0 at *
  refine C1.out.mono ?_
  rintro e w1 ⟨v, rfl, hO, hb⟩
  obtain ⟨gx, cx, rfl, hcx, _⟩ := OwnX.formN hO 1 rfl (by omega)
  have hs := B3.out.size
  have C2 := Lib.hid (delC1_any gx cx w.heap.size x _ _ _ b w1 (OwnX.weaken hO hs) hcx (Nat.le_trans hs hb.size) (fun W h => GC.out W (below_tr hb h)))
  have HB1 := Lib.hid (below_tr B3.out hb)
  clear hO hb hs
  go_wp2_with fail
  refine (C2.out).mono ?_
  rintro e w2 ⟨rfl, hb2⟩
  have HB2 := Lib.hid (Below.trans HB1.out hb2); clear hb2
  cases b with
  | true =>
    go_wp2_with fail
    go_ret
    first | exact ⟨_, _, rfl, HB2.out⟩ | exact ⟨⟨_, _, rfl⟩, HB2.out⟩
  | false =>
    go_wp2_with fail
    go_ret
    first | exact ⟨_, _, rfl, HB2.out⟩ | exact ⟨⟨_, _, rfl⟩, HB2.out⟩
end Go.Proofs.YtmjeifbadjdnfaaDoor
