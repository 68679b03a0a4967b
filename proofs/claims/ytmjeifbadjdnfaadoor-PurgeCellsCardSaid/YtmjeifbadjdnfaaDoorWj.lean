/- Contract of cell.Find. Condition: the row's own bounds. -/
import Derived.Test.YtmjeifbadjdnfaaDoorWi
set_option linter.unusedVariables false
set_option linter.unusedSimpArgs false
set_option maxRecDepth 50000
namespace Go.Proofs.YtmjeifbadjdnfaaDoor
open Go.RowKit Go.Sort
open Go.Lib hiding intOf

def findC (L : List Cel) (k : Ky) : Option Vr := (L.find? fun c => decide (c.k = k)).map (·.v)
def zVr : Vr := ⟨0, false, 0, 0, 0, ⟨#[]⟩⟩
def findV (L : List Cel) (k : Ky) : Vr := (findC L k).getD zVr
theorem findC_none {L : List Cel} {k : Ky} (h : ∀ x ∈ L, decide (x.k = k) = false) : findC L k = none := by
  unfold findC
  rw [List.find?_eq_none.2 (fun x hx => by simp [h x hx])]; rfl
theorem findC_at {L : List Cel} {k : Ky} {i : Nat} (h : i < L.length) (hb : decide (L[i].k = k) = true) (hn : ∀ x ∈ L.take i, decide (x.k = k) = false) : findC L k = some L[i].v := by
  unfold findC
  have e : L = L.take i ++ L[i] :: L.drop (i + 1) := by rw [← List.drop_eq_getElem_cons h, List.take_append_drop]
  have : L.find? (fun c => decide (c.k = k)) = some L[i] := by
    conv => lhs; rw [e]
    rw [List.find?_append, List.find?_eq_none.2 (fun x hx => by simp [hn x hx]), List.find?_cons_of_pos (p := fun c : Cel => decide (c.k = k)) hb]; rfl
  rw [this]; rfl
theorem findClo_any (c : Cel) (k : Ky) (gk : Nat) (w : World) (h0 : w.cell? ⟨gk, 0, none⟩ = some (.string k.t)) (h1 : w.cell? ⟨gk, 1, none⟩ = some (.string k.p)) (h2 : w.cell? ⟨gk, 2, none⟩ = some (.int .i64 k.r)) (h3 : w.cell? ⟨gk, 3, none⟩ = some (.string k.c)) :
    Calls Tryd.prog 43 #[.agg (celEnc c).toArray, .pointer (some ⟨gk, 0, none⟩)] w fun e w' => e = .returned (.bool (decide (c.k = k))) ∧ Below w.heap.size w w' := by
  have hb0 := below_alloc (Below.refl _ w) (.cells (celEnc c).toArray 35)
  have h0' := cell_keep hb0 h0; have h1' := cell_keep hb0 h1; have h2' := cell_keep hb0 h2; have h3' := cell_keep hb0 h3
  have hlt := World.block_lt_of_cell? w _ h0
  have HB0 := Lib.hid hb0
  have q := fun w => key_eql w c.k.t c.k.p c.k.c k.t k.p k.c c.k.r k.r
  rw [keyEq_dec] at q
  generalize decide (c.k = k) = R at *
  obtain ⟨⟨t, p, r, cc⟩, ⟨x1, x2, x3, x4, x5, x6⟩⟩ := c
  obtain ⟨t', p', r', c'⟩ := k
  simp only [celEnc] at *
  clear hb0
  go_enter Tryd.func43, Tryd.ntmps43
  go_wp2_with fail
  go_ret
  exact ⟨rfl, HB0.out⟩

set_option maxHeartbeats 2000000 in
theorem find_any (v : Value) (L : List Cel) (k : Ky) (w : World) (hv : SlX eC w.heap.size w v L) (hl : Room L.length) :
    Calls Tryd.prog 18 #[v, kyVal k] w fun e w' => e = .returned (.tuple #[.agg (vrEnc (findV L k)).toArray, .bool (findC L k).isSome]) ∧ Below w.heap.size w w' := by
  have b1 := (Blk.new w 29 #[.string k.t, .string k.p, .int .i64 k.r, .string k.c]).alloc (.cells #[.int .i64 0, .bool false, .int .i64 0, .int .i64 0, .int .i64 0, .string ⟨#[]⟩] 33)
  have b2 := Blk.new (w.alloc (.cells #[.string k.t, .string k.p, .int .i64 k.r, .string k.c] 29)) 33 #[.int .i64 0, .bool false, .int .i64 0, .int .i64 0, .int .i64 0, .string ⟨#[]⟩]
  have B0 := below_alloc (below_alloc (Below.refl _ w) (.cells #[.string k.t, .string k.p, .int .i64 k.r, .string k.c] 29)) (.cells #[.int .i64 0, .bool false, .int .i64 0, .int .i64 0, .int .i64 0, .string ⟨#[]⟩] 33)
  rw [show (w.alloc (.cells #[.string k.t, .string k.p, .int .i64 k.r, .string k.c] 29)).heap.size = w.heap.size + 1 by simp] at b2
  have eg : ∀ args w, (callFunc 43 args).run Tryd.prog w = .ok (.enter 43 args) w := enters_of Tryd.func43 (by kernel_rfl) rfl
  have IDX := Lib.hid (idxG_any 43 #[.pointer (some ⟨w.heap.size, 0, none⟩)] eg _ _ L (fun c => decide (c.k = k)) v _ (fun W hb x _ => findClo_any x k w.heap.size W ((b1.below hb).cell 0 rfl) ((b1.below hb).cell 1 rfl) ((b1.below hb).cell 2 rfl) ((b1.below hb).cell 3 rfl)) (hv.keep B0) (Below.refl _ _) (Nat.le_refl _) hl)
  have HV := Lib.hid (hv.keep B0)
  obtain ⟨a, cap, rfl, _, hx⟩ := hv.ex
  have HX := Lib.hid hx
  have HB0 := Lib.hid B0; have B2 := Lib.hid b2
  obtain ⟨RV, hRV⟩ : ∃ R, findV L k = R := ⟨_, rfl⟩
  obtain ⟨RB, hRB⟩ : ∃ R, (findC L k).isSome = R := ⟨_, rfl⟩
  rw [hRV, hRB]
  have HRV := Lib.hid hRV; have HRB := Lib.hid hRB
  unfold Room at hl
  clear b1 b2 B0 hv hx hRV hRB eg
  unfold kyVal
  go_enter Tryd.func18, Tryd.ntmps18
  go_wp2_with fail
  generalize (w.alloc (.cells #[.string k.t, .string k.p, .int .i64 k.r, .string k.c] 29)).alloc (.cells #[.int .i64 0, .bool false, .int .i64 0, .int .i64 0, .int .i64 0, .string ⟨#[]⟩] 33) = W0 at *
  refine IDX.out.mono ?_
  rintro e w1 ⟨r, rfl, hr, hb⟩
  have HB1 := Lib.hid (below_tr HB0.out hb)
  have z := B2.out.below hb
  have z0 := z.cell 0 rfl; have z1 := z.cell 1 rfl; have z2 := z.cell 2 rfl; have z3 := z.cell 3 rfl; have z4 := z.cell 4 rfl; have z5 := z.cell 5 rfl
  have fz := z.frozen
  have Z := Lib.hid z
  have HV1 := Lib.hid (HV.out.keep hb)
  clear z hb IDX
  rcases hr with ⟨rfl, hall⟩ | ⟨i, hi, rfl, hbk, hno⟩
  · have fc := findC_none hall
    have F1 := Lib.hid (show RV = zVr by rw [← HRV.out]; unfold findV; rw [fc]; rfl)
    have F2 := Lib.hid (show RB = false by rw [← HRB.out, fc]; rfl)
    clear hall fc
    go_wp2_with fail
    refine ret_gen (fun w2 => Blk w2 (w.heap.size + 1) 33 #[.int .i64 0, .bool false, .int .i64 0, .int .i64 0, .int .i64 0, .string ⟨#[]⟩] ∧ Below w.heap.size w w2) ⟨Z.out.put6 _ _ _ _ _ _, by repeat (first | with_reducible exact HB1.out | refine Below.setCell ?_ (by simp) _)⟩ ?_
    rintro w2 ⟨bk, hb2⟩
    exact bodyPost_ret (v := .tuple #[.agg #[.int .i64 0, .bool false, .int .i64 0, .int .i64 0, .int .i64 0, .string ⟨#[]⟩], .bool false]) (by simp [results, Tryd.results18, go_sem, bk.cell 0 rfl, bk.cell 1 rfl, bk.cell 2 rfl, bk.cell 3 rfl, bk.cell 4 rfl, bk.cell 5 rfl]) rfl ⟨by rw [F1.out, F2.out]; rfl, hb2⟩
  · have fc := findC_at hi hbk hno
    have F1 := Lib.hid (show RV = L[i].v by rw [← HRV.out]; unfold findV; rw [fc]; rfl)
    have F2 := Lib.hid (show RB = true by rw [← HRB.out, fc]; rfl)
    obtain ⟨gl, o, rfl, hgl2, _⟩ := HX.out (by omega)
    have ten := Ten.of HV1.out i hi
    have hz : (i : Int) < (L.length : Int) := by omega
    have hz2 : ¬ (i : Int) < 0 := by omega
    clear hbk hno fc
    generalize L[i] = x at *
    obtain ⟨c0, c1, c2, c3, c4, c5, c6, c7, c8, c9⟩ := ten
    obtain ⟨⟨t, p, r, q⟩, ⟨tm, dd, lc, kd, nn, ss⟩⟩ := x
    simp only at *
    go_wp2_with fail
    refine ret_gen (fun w2 => Blk w2 (w.heap.size + 1) 33 #[.int .i64 tm, .bool dd, .int .i64 lc, .int .i64 kd, .int .i64 nn, .string ss] ∧ Below w.heap.size w w2) ⟨Z.out.put6 _ _ _ _ _ _, by repeat (first | with_reducible exact HB1.out | refine Below.setCell ?_ (by simp) _)⟩ ?_
    rintro w2 ⟨bk, hb2⟩
    exact bodyPost_ret (v := .tuple #[.agg #[.int .i64 tm, .bool dd, .int .i64 lc, .int .i64 kd, .int .i64 nn, .string ss], .bool true]) (by simp [results, Tryd.results18, go_sem, bk.cell 0 rfl, bk.cell 1 rfl, bk.cell 2 rfl, bk.cell 3 rfl, bk.cell 4 rfl, bk.cell 5 rfl]) rfl ⟨by rw [F1.out, F2.out]; rfl, hb2⟩
end Go.Proofs.YtmjeifbadjdnfaaDoor
