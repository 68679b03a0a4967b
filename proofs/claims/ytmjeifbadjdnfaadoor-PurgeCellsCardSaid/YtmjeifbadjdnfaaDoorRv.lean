/- Opening versions and times that came in. No condition. -/
import Derived.Test.YtmjeifbadjdnfaaDoorRow
import Derived.Test.YtmjeifbadjdnfaaDoorHa
set_option linter.unusedVariables false
set_option linter.unusedSimpArgs false
set_option maxRecDepth 100000
namespace Go.Proofs.YtmjeifbadjdnfaaDoor
open Go.ChangeShapes Go.WideShapes Go.ChangeAt Go.RowKit Go.Joins Go.Deep

section
variable {H : Type} {enc : TypeId × Value → H} {W : World} {b0 : Nat} {sp : Nat → Bool} {held : Bool}
theorem list3 {α : Type} {cs : List α} (h : cs.length = 3) : ∃ c0 c1 c2, cs = [c0, c1, c2] := by
  match cs, h with
  | [c0, c1, c2], _ => exact ⟨c0, c1, c2, rfl⟩
theorem list6 {α : Type} {cs : List α} (h : cs.length = 6) : ∃ c0 c1 c2 c3 c4 c5, cs = [c0, c1, c2, c3, c4, c5] := by
  match cs, h with
  | [c0, c1, c2, c3, c4, c5], _ => exact ⟨c0, c1, c2, c3, c4, c5, rfl⟩
theorem cellsI : Tryd.prog.cellsOf 3 = 1 := by kernel_rfl
theorem cellsB : Tryd.prog.cellsOf 4 = 1 := by kernel_rfl
theorem cellsS : Tryd.prog.cellsOf 9 = 1 := by kernel_rfl
theorem cellsVal : Tryd.prog.cellsOf 31 = 3 := by kernel_rfl
theorem cellsVer : Tryd.prog.cellsOf 33 = 6 := by kernel_rfl
theorem trod_val {fuel : Nat} {cs : List Value} {y : DataW H × List MemPlace} (h : DataW.trod enc Tryd.prog W b0 sp held fuel 31 cs = some y) :
    ∃ (k n : Int) (s : ByteArray), cs = [.int .i64 k, .int .i64 n, .string s] := by
  obtain ⟨y0, y1, y2, n, _, hl, h0, h1, h2⟩ := trod_struct3 Tryd.underlying31 h
  obtain ⟨c0, c1, c2, rfl⟩ := list3 (hl.trans cellsVal)
  simp only [cellsI, cellsS, List.drop_zero, List.drop_succ_cons, List.take_succ_cons, List.take_zero] at h0 h1 h2
  obtain ⟨r0, e0, _, w0⟩ := DataW.trod_int Tryd.underlying3 h0
  obtain ⟨r1, e1, _, w1⟩ := DataW.trod_int Tryd.underlying3 h1
  obtain ⟨s2, e2, _, w2⟩ := DataW.trod_string Tryd.underlying9 h2
  simp only [List.cons.injEq, and_true] at e0 e1 e2
  subst e0 e1 e2
  exact ⟨r0, r1, s2, rfl⟩
theorem trod_ver {fuel : Nat} {cs : List Value} {y : DataW H × List MemPlace} (h : DataW.trod enc Tryd.prog W b0 sp held fuel 33 cs = some y) :
    ∃ v : Vr, cs = vrEnc v ∧ In64 v.loc := by
  obtain ⟨y0, y1, y2, y3, n, _, hl, h0, h1, h2, h3⟩ := trod_struct4 Tryd.underlying33 h
  obtain ⟨c0, c1, c2, c3, c4, c5, rfl⟩ := list6 (hl.trans cellsVer)
  simp only [cellsI, cellsB, cellsVal, List.drop_zero, List.drop_succ_cons, List.take_succ_cons, List.take_zero] at h0 h1 h2 h3
  obtain ⟨r0, e0, _, w0⟩ := DataW.trod_int Tryd.underlying3 h0
  obtain ⟨r1, e1, _⟩ := DataW.trod_bool Tryd.underlying4 h1
  obtain ⟨r2, e2, _, w2⟩ := DataW.trod_int Tryd.underlying3 h2
  obtain ⟨k, nn, s, e3⟩ := trod_val h3
  simp only [List.cons.injEq, and_true] at e0 e1 e2 e3
  obtain ⟨rfl, rfl, rfl⟩ := e3
  subst e0 e1 e2
  have hb := bounds_i64 w2
  exact ⟨⟨r0, r1, r2, k, nn, s⟩, rfl, by unfold In64; simp only; omega⟩
theorem open_ver {v : Value} {d : DataW H} {p : List MemPlace} (hv : Value.okWide Tryd.prog W .any 0 33 v) (h : DataW.Trod enc Tryd.prog W b0 sp held 33 v d p) :
    ∃ x : Vr, v = .agg (vrEnc x).toArray ∧ In64 x.loc := by
  obtain ⟨cs, rfl, hsz⟩ := okWide_struct Tryd.underlying33 hv
  obtain ⟨fuel, hf⟩ := h
  obtain ⟨x, e, hx⟩ := trod_ver (by simpa [Value.cells] using hf)
  exact ⟨x, by rw [← e], hx⟩
theorem cellsWhen : Tryd.prog.cellsOf 25 = 2 := by kernel_rfl
theorem open_when {v : Value} {d : DataW H} {p : List MemPlace} (hv : Value.okWide Tryd.prog W .any 0 25 v) (h : DataW.Trod enc Tryd.prog W b0 sp held 25 v d p) :
    ∃ n g : Int, v = .agg #[.int .i64 n, .int .i64 g] ∧ In64 n ∧ In64 g := by
  obtain ⟨v0, v1, y0, y1, n, rfl, rfl, rfl, h0, h1⟩ := open_agg2 Tryd.underlying25 (by kernel_rfl) cellsWhen hv h
  obtain ⟨r0, e0, _, w0⟩ := DataW.trod_int Tryd.underlying3 h0
  obtain ⟨r1, e1, _, w1⟩ := DataW.trod_int Tryd.underlying3 h1
  simp only [List.cons.injEq, and_true] at e0 e1
  subst e0 e1
  have b0 := bounds_i64 w0; have b1 := bounds_i64 w1
  exact ⟨r0, r1, rfl, by unfold In64; omega, by unfold In64; omega⟩
end
end Go.Proofs.YtmjeifbadjdnfaaDoor
