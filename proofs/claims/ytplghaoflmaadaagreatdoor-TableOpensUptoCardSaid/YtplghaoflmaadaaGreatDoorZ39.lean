/- Opening keys under the second form's bound; that form's witness. No condition. -/
import Derived.Test.YtplghaoflmaadaaGreatDoorZ36
import Derived.Deep.DeepHandedRow
section
set_option linter.unusedVariables false
set_option linter.unusedSimpArgs false
set_option maxRecDepth 100000
namespace Go.Proofs.YtplghaoflmaadaaGreatDoor
open Go.ChangeShapes Go.WideShapes Go.ChangeAt Go.RowKit Go.Joins Go.Deep

section
variable {H : Type} {enc : TypeId × Value → H} {W : World} {b0 : Nat}
theorem open_keyD {v : Value} {d : DataW H} {p : List MemPlace} (hv : Value.okWide Tryz.prog W .any b0 24 v) (h : DataW.Trod enc Tryz.prog W 0 (fun _ => true) true 24 v d p) (hw : (d.weights Tryz.prog 24).all (· ≤ reachBytes) = true) :
    ∃ k : Ky, v = kyVal k ∧ d = keyD k ∧ KyRe k := by
  obtain ⟨cs, rfl, hsz⟩ := okWide_struct Tryz.underlying24 hv
  obtain ⟨fuel, hf⟩ := h
  obtain ⟨k, e, _, hd⟩ := trod_keyD (by simpa [Value.cells] using hf)
  refine ⟨k, ?_, hd, ?_⟩
  · have : cs = (kyEnc k).toArray := by rw [← e]
    rw [this]; rfl
  · have hd2 : d = keyD k := hd
    rw [hd2] at hw
    exact keyD_re hw
theorem bulk_part {d : DataW H} {l : List (DataW H)} (h : d ∈ l) : Rows.uptoBulk d ≤ Rows.uptoBulkAll l := by
  induction l with
  | nil => cases h
  | cons x r ih =>
    simp only [Rows.uptoBulkAll]
    cases List.mem_cons.1 h with
    | inl e => subst e; omega
    | inr e => have := ih e; omega
theorem bulk_le {l : List (DataW H)} (hk : Rows.uptoSmall H l = true) : Rows.uptoBulkAll l ≤ 1048576 := of_decide_eq_true hk
theorem bulk_keyD (k : Ky) : k.t.size + k.p.size + k.c.size ≤ Rows.uptoBulk (keyD (H := H) k) := by
  simp only [keyD, strD, Rows.uptoBulk, Rows.uptoBulkAll, Array.length_toList]
  have e1 : k.t.data.size = k.t.size := rfl
  have e2 : k.p.data.size = k.p.size := rfl
  have e3 : k.c.data.size = k.c.size := rfl
  omega
theorem bulk_key {k : Ky} {l : List (DataW H)} (hk : Rows.uptoSmall H l = true) (hm : keyD k ∈ l) : k.t.size + k.p.size + k.c.size ≤ 1048576 := by
  have h1 := bulk_part hm
  have h2 := bulk_le hk
  have h3 := bulk_keyD (H := H) k
  omega
theorem bulk_ask {k1 k2 k3 : Ky} {l : List (DataW H)} (hk : Rows.uptoSmall H l = true) (hm : DataW.agg [keyD k1, keyD k2, keyD k3] ∈ l) : k1.t.size + k1.p.size + k1.c.size ≤ 1048576 := by
  have h1 := bulk_part hm
  have h2 := bulk_le hk
  have h3 := bulk_keyD (H := H) k1
  simp only [Rows.uptoBulk, Rows.uptoBulkAll] at h1
  omega
/-- there is an input that fits the second form -/
theorem witness_upto {C : Checked} {os : Os} {f : FuncId} {fn : Func} {s : OpenSpec} {conds : List PathCond} {apart : Bool} {laid : List (String × DataW Unit)} (w0 : World) (args : Array Value) (hos : w0.os = os)
    (hsh : (w0.forCall (fun _ _ => 0) ⟨#[], args, []⟩).Shaped C.prog)
    (hok : Input.okWideB C.prog (w0.forCall (fun _ _ => 0) ⟨#[], args, []⟩) f ⟨#[], args, []⟩ = true)
    (hrow : s.preRow enc C.prog fn conds apart laid (w0.forCall (fun _ _ => 0) ⟨#[], args, []⟩).memory args) :
    ∃ (w : World) (tape : Tape) (i : Input), w.os = os ∧ (w.forCall tape i).Shaped C.prog ∧ i.vars = [] ∧ Input.okWide C.prog (w.forCall tape i) .any w.heap.size f i ∧
      s.preRow enc C.prog fn conds apart laid (w.forCall tape i).memory i.args ∧ ({} : Assume).holds C.prog (lone (Frame.enter C.prog f i.args .normal) [] (w.forCall tape i)) :=
  ⟨w0, fun _ _ => 0, ⟨#[], args, []⟩, hos, hsh, (Input.okWide_of_okWideB (base := 0) hok).1, (Input.okWide_of_okWideB hok).2, hrow, by
    simp only [Assume.holds]
    exact ⟨by simp, by simp, fun _ => Modest.zero, by simp, by simp⟩⟩
end
end Go.Proofs.YtplghaoflmaadaaGreatDoor
end
