/- What all rows of this seat share: opening a key that came in, the library's variables at the row's first world. No condition. Opening keys, asks and slices of cells that came in, with what they weigh. No condition. -/
import Derived.Test.YtplghaoflmaadaaGreatDoorZ00
import Derived.Test.YtplghaoflmaadaaGreatDoorRows
import Derived.ProofKit
import Derived.OpenShut
import Derived.ShutString
import Derived.ChangeOld
import Derived.SizedLaws
import Derived.LaidMore
import Derived.Lay
import Derived.LaidSub
import Derived.Lib.LaidTab
import Derived.Shelf.Vars
import Derived.SevenTiedAt
import Derived.Stop.Joined
import Derived.Test.YtplghaoflmaadaaGreatDoorZ35
import Derived.Deep.Slices
section
set_option linter.unusedVariables false
set_option linter.unusedSimpArgs false
set_option maxRecDepth 100000
namespace Go.Proofs.YtplghaoflmaadaaGreatDoor
open Go.ChangeShapes Go.WideShapes Go.ChangeAt Go.RowKit Go.Joins

theorem own : ownKnob Tryz.prog.godebug = none := by kernel_rfl
theorem laidOut : laidOutB Tryz.prog = true := by kernel_rfl

/-- The wrap, the world's shape kept, and what the row lists. -/
theorem returns_laid {H : Type} {enc : TypeId × Value → H} {a : Assume} {C : Checked} {os : Os} {f : FuncId} {fn : Func} {s : ChangeSpec} {conds : List PathCond} {apart fresh handsOn again : Bool} {X : World → Array Value → Prop}
    (hX : ∀ (w w' : World) (args : Array Value), w.heap = w'.heap → X w args → X w' args)
    (own : ownKnob C.prog.godebug = none) (started : os.Started) (noInit : C.prog.inits.idxOf? f = none) (hfn : C.prog.funcs[f]? = some fn)
    (witness : ∃ (w : World) (tape : Tape) (i : Input), w.os = os ∧ (w.forCall tape i).Shaped C.prog ∧ i.vars = [] ∧ Input.okWide C.prog (w.forCall tape i) .any w.heap.size f i ∧
      ((s.pre enc C.prog fn conds apart (w.forCall tape i).memory i.args ∧ X (w.forCall tape i).memory i.args) ∧ sizedMet enc C.prog fn (OpenSpec.ofChange s) apart (w.forCall tape i).memory i.args) ∧ a.holds C.prog (lone (Frame.enter C.prog f i.args .normal) [] (w.forCall tape i)))
    (contract : ∀ (W : World) (base : Nat) (args : Array Value) (ds gs : List (DataW H)) (before : List MemPlace),
      (∀ (j : Nat) t v, fn.params[j]? = some t → args[j]? = some v → Value.okWide C.prog W .any base t v) →
      DataW.Whole enc C.prog fn.params.toList s.vars apart W args.toList ds gs before →
      conds.all (PathCond.test C.prog ⟨fn.params.toList, ds, s.plain.varTypes C.prog, gs⟩) = true →
      (DataW.weightsEach C.prog (fn.params.toList ++ s.plain.varTypes C.prog) (ds ++ gs)).all (· ≤ reachBytes) = true → X W args → W.ShapedOpen C.prog →
      Calls C.prog f args W fun e W' => ∃ v, e = .returned v ∧ s.post enc C.prog fn apart fresh handsOn again W args v W') :
    ReturnsInHanded a C os f .any (fun w args => (s.pre enc C.prog fn conds apart w args ∧ X w args) ∧ sizedMet enc C.prog fn (OpenSpec.ofChange s) apart w args) (s.post enc C.prog fn apart fresh handsOn again) := by
  refine returnsInHanded_of_calls own started noInit witness ?_
  intro w tape i _ hsh _ hok hpre _
  obtain ⟨_, _, _, fn', hfn', _, _, _, _, hval⟩ := hok
  have e : fn' = fn := Option.some.inj (hfn'.symm.trans hfn)
  subst e
  obtain ⟨⟨⟨ds, gs, before, hw, hc⟩, hx⟩, hz⟩ := hpre
  refine (contract (w.forCall tape i) w.heap.size i.args ds gs before hval (DataW.Whole.of_heap (w' := w.forCall tape i) (by rfl) hw) hc (hz.weights hw) (hX _ _ _ (by rfl) hx) hsh).mono fun e W' ⟨v, he, hp⟩ => ?_
  subst he
  exact ChangeSpec.post_blind hp

theorem maxLen_of_shape {W : World} (h : W.ShapedOpen Tryz.prog) : ∃ m, W.cell? ⟨0, 0, none⟩ = some (.int .i64 m) :=
  cell_of_shapedOpen_int (t := 3) (zero := #[.int .i64 0]) h (of_decide_eq_true (by kernel_rfl)) (by kernel_rfl) rfl (by kernel_rfl) (by kernel_rfl) Tryz.underlying3

theorem cellsKey : Tryz.prog.cellsOf 24 = 4 := by kernel_rfl
/-- A key that came in: its four parts; each text takes at most the form's reach. -/
theorem open_key {H : Type} {enc : TypeId × Value → H} {W : World} {base b0 : Nat} {sp : Nat → Bool} {held : Bool} {v : Value} {d : DataW H} {p : List MemPlace} (hv : Value.okWide Tryz.prog W .any b0 24 v)
    (h : DataW.Trod enc Tryz.prog W base sp held 24 v d p) (hw : (d.weights Tryz.prog 24).all (· ≤ reachBytes) = true) :
    ∃ (t q c : ByteArray) (r : Int), v = .agg #[.string t, .string q, .int .i64 r, .string c] ∧ t.size ≤ reachBytes ∧ q.size ≤ reachBytes ∧ c.size ≤ reachBytes ∧ -9223372036854775808 ≤ r ∧ r ≤ 9223372036854775807 := by
  obtain ⟨v0, v1, v2, v3, y0, y1, y2, y3, n, rfl, rfl, rfl, h0, h1, h2, h3⟩ := open_agg4 Tryz.underlying24 (by kernel_rfl) cellsKey hv h
  obtain ⟨s0, e0, rfl, w0⟩ := DataW.trod_string Tryz.underlying9 h0
  obtain ⟨s1, e1, rfl, w1⟩ := DataW.trod_string Tryz.underlying9 h1
  obtain ⟨r2, e2, rfl, w2⟩ := DataW.trod_int Tryz.underlying3 h2
  obtain ⟨s3, e3, rfl, w3⟩ := DataW.trod_string Tryz.underlying9 h3
  simp only [List.cons.injEq, and_true] at e0 e1 e2 e3
  subst e0 e1 e2 e3
  have hb := bounds_i64 w2
  simp only [DataW.weights, Tryz.underlying24, DataW.weightsEach, List.map_cons, List.map_nil, List.append_nil, List.nil_append, List.cons_append, List.all_cons, List.all_nil, Bool.and_true, Bool.and_eq_true, decide_eq_true_eq, Array.length_toList] at hw
  exact ⟨s0, s1, s3, r2, rfl, hw.1, hw.2.1, hw.2.2, by omega, by omega⟩
/-- A text that came in: it takes at most the form's reach. -/
theorem open_str {H : Type} {enc : TypeId × Value → H} {W : World} {base b0 : Nat} {sp : Nat → Bool} {held : Bool} {v : Value} {d : DataW H} {p : List MemPlace} (hv : Value.okWide Tryz.prog W .any b0 9 v)
    (h : DataW.Trod enc Tryz.prog W base sp held 9 v d p) (hw : (d.weights Tryz.prog 9).all (· ≤ reachBytes) = true) : ∃ s, v = .string s ∧ s.size ≤ reachBytes := by
  obtain ⟨s, rfl, rfl, rfl, _⟩ := Go.ChangeMaps.open_string Tryz.underlying9 hv h
  simp only [DataW.weights, List.all_cons, List.all_nil, Bool.and_true, decide_eq_true_eq, Array.length_toList] at hw
  exact ⟨s, rfl, hw⟩
end Go.Proofs.YtplghaoflmaadaaGreatDoor
end

section
set_option linter.unusedVariables false
set_option linter.unusedSimpArgs false
set_option maxRecDepth 100000
namespace Go.Proofs.YtplghaoflmaadaaGreatDoor
open Go.ChangeShapes Go.WideShapes Go.ChangeAt Go.RowKit Go.Joins Go.Deep

section
variable {H : Type} {enc : TypeId × Value → H} {W : World} {b0 : Nat} {sp : Nat → Bool} {held : Bool}
def strD (s : ByteArray) : DataW H := .lit (.string s.data.toList)
def keyD (k : Ky) : DataW H := .agg [strD k.t, strD k.p, .lit (.int .i64 k.r), strD k.c]
def verD (v : Vr) : DataW H := .agg [.lit (.int .i64 v.time), .lit (.bool v.dead), .lit (.int .i64 v.loc), .agg [.lit (.int .i64 v.kind), .lit (.int .i64 v.n), strD v.s]]
def cellD (c : Cel) : DataW H := .agg [keyD c.k, verD c.v]
theorem reC {α : Type} {cs : List α} (h : cs.length = 3) : ∃ c0 c1 c2, cs = [c0, c1, c2] := by
  match cs, h with
  | [c0, c1, c2], _ => exact ⟨c0, c1, c2, rfl⟩
theorem re6 {α : Type} {cs : List α} (h : cs.length = 6) : ∃ c0 c1 c2 c3 c4 c5, cs = [c0, c1, c2, c3, c4, c5] := by
  match cs, h with
  | [c0, c1, c2, c3, c4, c5], _ => exact ⟨c0, c1, c2, c3, c4, c5, rfl⟩
theorem reI : Tryz.prog.cellsOf 3 = 1 := by kernel_rfl
theorem reB : Tryz.prog.cellsOf 4 = 1 := by kernel_rfl
theorem reS : Tryz.prog.cellsOf 9 = 1 := by kernel_rfl
theorem reKy : Tryz.prog.cellsOf 24 = 4 := by kernel_rfl
theorem reVal : Tryz.prog.cellsOf 47 = 3 := by kernel_rfl
theorem reVer : Tryz.prog.cellsOf 49 = 6 := by kernel_rfl
theorem reCel : Tryz.prog.cellsOf 61 = 10 := by kernel_rfl
theorem reBy : Tryz.prog.bytesOf 61 = 112 := by kernel_rfl
theorem in64 {n : Int} (h : (Lit.int .i64 n).wf = true) : In64 n := by have := bounds_i64 h; unfold In64; omega
theorem trod_keyD {fuel : Nat} {cs : List Value} {y : DataW H × List MemPlace} (h : DataW.trod enc Tryz.prog W b0 sp held fuel 24 cs = some y) :
    ∃ k : Ky, cs = kyEnc k ∧ In64 k.r ∧ y.1 = keyD k := by
  obtain ⟨y0, y1, y2, y3, n, hy, hl, h0, h1, h2, h3⟩ := trod_struct4 Tryz.underlying24 h
  obtain ⟨c0, c1, c2, c3, rfl⟩ : ∃ c0 c1 c2 c3, cs = [c0, c1, c2, c3] := by
    have := hl.trans reKy
    match cs, this with
    | [c0, c1, c2, c3], _ => exact ⟨c0, c1, c2, c3, rfl⟩
  simp only [reI, reS, List.drop_zero, List.drop_succ_cons, List.take_succ_cons, List.take_zero] at h0 h1 h2 h3
  obtain ⟨s0, e0, d0, w0⟩ := DataW.trod_string Tryz.underlying9 h0
  obtain ⟨s1, e1, d1, w1⟩ := DataW.trod_string Tryz.underlying9 h1
  obtain ⟨r2, e2, d2, w2⟩ := DataW.trod_int Tryz.underlying3 h2
  obtain ⟨s3, e3, d3, w3⟩ := DataW.trod_string Tryz.underlying9 h3
  simp only [List.cons.injEq, and_true] at e0 e1 e2 e3
  subst e0 e1 e2 e3 d0 d1 d2 d3
  exact ⟨⟨s0, s1, r2, s3⟩, rfl, in64 w2, by rw [hy]; rfl⟩
theorem trod_verD {fuel : Nat} {cs : List Value} {y : DataW H × List MemPlace} (h : DataW.trod enc Tryz.prog W b0 sp held fuel 49 cs = some y) :
    ∃ v : Vr, cs = vrEnc v ∧ (In64 v.time ∧ In64 v.loc ∧ In64 v.kind ∧ In64 v.n) ∧ y.1 = verD v := by
  obtain ⟨y0, y1, y2, y3, n, hy, hl, h0, h1, h2, h3⟩ := trod_struct4 Tryz.underlying49 h
  obtain ⟨c0, c1, c2, c3, c4, c5, rfl⟩ := re6 (hl.trans reVer)
  simp only [reI, reB, reVal, List.drop_zero, List.drop_succ_cons, List.take_succ_cons, List.take_zero] at h0 h1 h2 h3
  obtain ⟨r0, e0, d0, w0⟩ := DataW.trod_int Tryz.underlying3 h0
  obtain ⟨r1, e1, d1⟩ := DataW.trod_bool Tryz.underlying4 h1
  obtain ⟨r2, e2, d2, w2⟩ := DataW.trod_int Tryz.underlying3 h2
  obtain ⟨z0, z1, z2, n', hz, _, g0, g1, g2⟩ := trod_struct3 Tryz.underlying47 h3
  simp only [reI, reS, List.drop_zero, List.drop_succ_cons, List.take_succ_cons, List.take_zero] at g0 g1 g2
  obtain ⟨q0, f0, j0, x0⟩ := DataW.trod_int Tryz.underlying3 g0
  obtain ⟨q1, f1, j1, x1⟩ := DataW.trod_int Tryz.underlying3 g1
  obtain ⟨q2, f2, j2, x2⟩ := DataW.trod_string Tryz.underlying9 g2
  simp only [List.cons.injEq, and_true] at e0 e1 e2 f0 f1 f2
  subst e0 e1 e2 f0 f1 f2 d0 d1 d2 j0 j1 j2
  exact ⟨⟨r0, r1, r2, q0, q1, q2⟩, rfl, ⟨in64 w0, in64 w2, in64 x0, in64 x1⟩, by rw [hy, hz]; rfl⟩
theorem trod_cellD {fuel : Nat} {cs : List Value} {y : DataW H × List MemPlace} (h : DataW.trod enc Tryz.prog W b0 sp held fuel 61 cs = some y) :
    ∃ c : Cel, cs = celEnc c ∧ CelIn c ∧ y.1 = cellD c := by
  obtain ⟨y0, y1, n, hy, hl, h0, h1⟩ := trod_struct2 Tryz.underlying61 h
  obtain ⟨k, e0, hk, dk⟩ := trod_keyD h0
  obtain ⟨v, e1, hv, dv⟩ := trod_verD h1
  have hl' : cs.length = 10 := hl.trans reCel
  refine ⟨⟨k, v⟩, ?_, ⟨hk, hv.1, hv.2.1, hv.2.2.1, hv.2.2.2⟩, by rw [hy]; simp only [dk, dv]; rfl⟩
  simp only [reKy, reVer, List.drop_zero] at e0 e1
  have e2 : (cs.drop 4).take 6 = cs.drop 4 := List.take_of_length_le (by simp; omega)
  rw [show cs = cs.take 4 ++ cs.drop 4 from (List.take_append_drop 4 cs).symm, e0, ← e2, e1]
  rfl
/-- a key's texts are within the form's reach -/
structure KyRe (k : Ky) : Prop where
  ht : k.t.size ≤ 140737488351232
  hp : k.p.size ≤ 140737488351232
  hq : k.c.size ≤ 140737488351232
theorem keyD_re {k : Ky} (h : ((keyD (H := H) k).weights Tryz.prog 24).all (· ≤ reachBytes) = true) : KyRe k := by
  have er : reachBytes = 140737488351232 := by decide
  simp only [keyD, strD, DataW.weights, Tryz.underlying24, DataW.weightsEach, List.map_cons, List.map_nil, List.append_nil, List.nil_append, List.cons_append, List.all_cons, List.all_nil, Bool.and_true, Bool.and_eq_true, decide_eq_true_eq, Array.length_toList, er] at h
  exact ⟨h.1, h.2.1, h.2.2⟩
theorem cellD_re {c : Cel} (h : ((cellD (H := H) c).weights Tryz.prog 61).all (· ≤ reachBytes) = true) : CelRe c := by
  have er : reachBytes = 140737488351232 := by decide
  simp only [cellD, keyD, verD, strD, DataW.weights, Tryz.underlying24, Tryz.underlying61, Tryz.underlying49, Tryz.underlying47, DataW.weightsEach, List.map_cons, List.map_nil, List.append_nil, List.nil_append, List.cons_append, List.all_cons, List.all_nil, Bool.and_true, Bool.and_eq_true, decide_eq_true_eq, Array.length_toList, er] at h
  exact ⟨h.1, h.2.1, h.2.2.1, h.2.2.2⟩
theorem cellsAsk : Tryz.prog.cellsOf 26 = 12 := by kernel_rfl
theorem open_ask {v : Value} {d : DataW H} {p : List MemPlace} (hv : Value.okWide Tryz.prog W .any b0 26 v) (h : DataW.Trod enc Tryz.prog W 0 (fun _ => true) true 26 v d p) (hw : (d.weights Tryz.prog 26).all (· ≤ reachBytes) = true) :
    ∃ k1 k2 k3 : Ky, v = askV k1 k2 k3 ∧ d = .agg [keyD k1, keyD k2, keyD k3] ∧ (KyRe k1 ∧ KyRe k2 ∧ KyRe k3) := by
  obtain ⟨cs, rfl, hsz⟩ := okWide_struct Tryz.underlying26 hv
  obtain ⟨fuel, hf⟩ := h
  have hf : DataW.trod enc Tryz.prog W 0 (fun _ => true) true fuel 26 cs.toList = some (d, p) := by simpa [Value.cells] using hf
  obtain ⟨y0, y1, y2, n, hy, hl, h0, h1, h2⟩ := trod_struct3 Tryz.underlying26 hf
  obtain ⟨k1, e0, _, d0⟩ := trod_keyD h0
  obtain ⟨k2, e1, _, d1⟩ := trod_keyD h1
  obtain ⟨k3, e2, _, d2⟩ := trod_keyD h2
  have hl' : cs.toList.length = 12 := hl.trans cellsAsk
  simp only [reKy, List.drop_zero] at e0 e1 e2
  have hd : d = .agg [keyD k1, keyD k2, keyD k3] := by
    rw [Prod.mk.injEq] at hy
    rw [hy.1, d0, d1, d2]
  refine ⟨k1, k2, k3, ?_, hd, ?_⟩
  · have e3 : (cs.toList.drop 8).take 4 = cs.toList.drop 8 := List.take_of_length_le (by simp at hl' ⊢; omega)
    have e4 : cs.toList = kyEnc k1 ++ (kyEnc k2 ++ kyEnc k3) := by
      rw [← e0, ← e1, ← e2, e3]
      rw [show cs.toList.drop 8 = (cs.toList.drop 4).drop 4 by rw [List.drop_drop], List.take_append_drop, List.take_append_drop]
    have : cs = (kyEnc k1 ++ (kyEnc k2 ++ kyEnc k3)).toArray := by rw [← e4]
    rw [this]; rfl
  · rw [hd] at hw
    simp only [DataW.weights, Tryz.underlying26, DataW.weightsEach, List.map_cons, List.map_nil, List.append_nil, List.all_append, Bool.and_eq_true] at hw
    exact ⟨keyD_re hw.1, keyD_re hw.2.1, keyD_re hw.2.2⟩
theorem weightsAll_mem {P : Program} {e : TypeId} {p : Nat → Bool} : ∀ (l : List (DataW H)), (DataW.weightsAll P e l).all p = true → ∀ x ∈ l, (x.weights P e).all p = true
  | [], _, x, hx => by simp at hx
  | d :: r, h, x, hx => by
    rw [DataW.weightsAll, List.all_append, Bool.and_eq_true] at h
    rcases List.mem_cons.1 hx with rfl | hx
    · exact h.1
    · exact weightsAll_mem r h.2 x hx
theorem open_cellsR_at {a1 : Option Addr} {len cap fuel : Nat} {y : DataW H × List MemPlace} (hf : DataW.trod enc Tryz.prog W 0 (fun _ => true) true fuel 22 [.slice a1 len cap] = some y) (hw : (y.1.weights Tryz.prog 22).all (· ≤ reachBytes) = true) :
    ∃ L, SlX eC W.heap.size W (.slice a1 len cap) L ∧ Room L.length ∧ (∀ c ∈ L, CelIn c) ∧ (∀ c ∈ L, CelRe c) := by
  obtain ⟨d, p⟩ := y
  rcases open_slice Tryz.underlying22 hf with ⟨hcs, hx⟩ | ⟨a, len', cap', m, n, D, Pl, hcs, _, hl, hm, hmm, hx, hel⟩
  · simp [Value.cells] at hcs
    obtain ⟨rfl, rfl, rfl⟩ := hcs
    exact ⟨[], SlX.nil _ _ _, by unfold Room; simp, by simp, by simp⟩
  · simp [Value.cells] at hcs
    obtain ⟨rfl, rfl, rfl⟩ := hcs
    simp only [if_true] at hmm
    subst hmm
    have hx1 : d = .slice ((List.range len).map D) ((List.range (m - len)).map fun j => D (len + j)) := (Prod.mk.inj hx).1
    obtain ⟨X, hX⟩ := choose_lt (α := Cel) (p := fun i x => W.cells? 0 (a.add (i * 10)) 10 = some (celEnc x) ∧ CelIn x ∧ D i = cellD x) (n := m) (fun i hi => by
      obtain ⟨cs', h1, h2⟩ := hel i hi
      rw [reCel] at h1
      obtain ⟨x, rfl, hx, hd⟩ := trod_cellD h2
      exact ⟨x, h1, hx, hd⟩)
    have hlen : ((List.range len).map X).length = len := by simp
    refine ⟨(List.range len).map X, ⟨some a, m, by rw [hlen], by rw [hlen]; exact hl, fun h0 => ?_⟩, ?_, ?_, ?_⟩
    · rw [hlen] at h0
      have c00 : W.cell? (a.add (0 * 10 + 0)) = some (.string (X 0).k.t) := by
        have := (World.cells?_some (hX 0 (by omega)).1).2.2 0 (by decide)
        rw [add_add] at this
        exact this
      obtain ⟨ab, ao, spot⟩ := a
      have hspot : spot = none := by
        have := World.cell?_spot c00
        simpa [Addr.add] using this
      subst hspot
      refine ⟨ab, ao, rfl, ?_, fun j u hj => ?_⟩
      · have := World.block_lt_of_cell? W _ c00
        simpa [Addr.add] using this
      · have hjl : j < len * 10 := by
          have := (List.getElem?_eq_some_iff.1 hj).1
          rw [El.cells_len, hlen] at this
          exact this
        have hi : j / 10 < len := by omega
        have h1 := (World.cells?_some (hX (j / 10) (by omega)).1).2.2 (j % 10) (Nat.mod_lt _ (by decide))
        rw [add_add, Addr.add_lit, show j / 10 * 10 + j % 10 = j by omega] at h1
        rw [h1]
        have h2 := El.cells_get eC ((List.range len).map X) (j / 10) (j % 10) (by rw [hlen]; exact hi) (Nat.mod_lt _ (by decide))
        rw [show j / 10 * eC.size + j % 10 = j by show j / 10 * 10 + j % 10 = j; omega] at h2
        rw [h2] at hj
        rw [List.getElem_map, List.getElem_range] at hj
        exact hj
    · rw [hlen]
      subst hx1
      have hsz : (DataW.weightsEach Tryz.prog [22] [(DataW.slice ((List.range len).map D) ((List.range (m - len)).map fun j => D (len + j)))]).all (· ≤ reachBytes) = true := by simpa [DataW.weightsEach] using hw
      have z := sized_slice hsz (j := 0) rfl rfl Tryz.underlying22
      rw [reBy] at z
      have er : reachBytes = 140737488351232 := by decide
      simp only [List.length_map, List.length_range] at z
      unfold Room
      omega
    · intro c hc
      obtain ⟨i, hi, rfl⟩ := List.mem_map.1 hc
      exact (hX i (by have := List.mem_range.1 hi; omega)).2.1
    · intro c hc
      obtain ⟨i, hi, rfl⟩ := List.mem_map.1 hc
      have hil := List.mem_range.1 hi
      subst hx1
      simp only [DataW.weights, Tryz.underlying22, List.all_cons, List.all_append, Bool.and_eq_true] at hw
      have := weightsAll_mem _ hw.2.1 (D i) (List.mem_map.2 ⟨i, hi, rfl⟩)
      rw [(hX i (by omega)).2.2] at this
      exact cellD_re this
theorem open_cellsR {v : Value} {d : DataW H} {p : List MemPlace} (hv : Value.okWide Tryz.prog W .any b0 22 v)
    (h : DataW.Trod enc Tryz.prog W 0 (fun _ => true) true 22 v d p) (hw : (d.weights Tryz.prog 22).all (· ≤ reachBytes) = true) :
    ∃ L, SlX eC W.heap.size W v L ∧ Room L.length ∧ (∀ c ∈ L, CelIn c) ∧ (∀ c ∈ L, CelRe c) := by
  obtain ⟨a1, len, cap, rfl⟩ := okWide_slice Tryz.underlying22 hv
  obtain ⟨fuel, hf⟩ := h
  exact open_cellsR_at (by simpa [Value.cells] using hf) hw
end
end Go.Proofs.YtplghaoflmaadaaGreatDoor
end
