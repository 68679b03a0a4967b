/- Contracts of the sort of a ring's points, of slices.Clone and Concat there, and of a ring's made, Points, Copies. Conditions: at most a thousand points. -/
import Derived.Test.YtmjeifbadjdnfaaDoorGb
import Derived.Test.YtmjeifbadjdnfaaDoorShelf
set_option linter.unusedVariables false
set_option linter.unusedSimpArgs false
set_option maxRecDepth 20000
namespace Go.Proofs.YtmjeifbadjdnfaaDoor
open Go.RowKit Go.Sort

theorem OwnX.n_eq {α : Type} {E : El α} {w : World} {base g n c : Nat} {l : List α} (h : OwnX E w base (.slice (some ⟨g, 0, none⟩) n c) l) : n = l.length := by
  rcases h.2 with ⟨h', _⟩ | ⟨g', cap', cur, h', _⟩
  · simp at h'
  · simp only [Value.slice.injEq] at h'; exact h'.2.1
theorem sortPt_any (g n c base : Nat) (L : List Pt) (w : World) (HO : OwnX eP w base (.slice (some ⟨g, 0, none⟩) n c) L) (hl : L.length ≤ 1000) :
    Calls Tryd.prog 46 #[.slice (some ⟨g, 0, none⟩) n c, .func (.func 47) #[] #[]] w
      fun e w' => e = .returned (.tuple #[]) ∧ OwnX eP w' base (.slice (some ⟨g, 0, none⟩) n c) (sortP L) ∧ w.grownBy w' (some g) := by
  have hn := HO.n_eq
  have hlt := (World.ownsRow.lt HO g rfl).2
  have eg : ∀ args w, (callFunc 47 args).run Tryd.prog w = .ok (.enter 47 args) w := enters_of Tryd.func47 (by kernel_rfl) rfl
  have hcon := AnyQ.slices_SortFunc_total Tryd.sortPt 2 Tryd.isAgg63 Tryd.sizeOf63 ptEnc (fun _ => rfl) ptEnc_one ptCmp ptCmp_swo 47 #[] g 0 c L.toArray w eg
    (fun m os dk hs x y => newCmp_any x y _) HO.holdsK hlt (by simp; omega) ptCmp_total
  change Calls Tryd.prog 46 _ _ _ at hcon
  have e : (fun x y => !(ltOf ptCmp) y x) = ptLe := by funext x y; exact ptCmp_le x y
  rw [e] at hcon
  have hsz : L.toArray.size = n := by simp; omega
  rw [hsz] at hcon
  refine hcon.mono ?_
  rintro e w' ⟨rfl, m, os, rfl⟩
  have hs := HO.sorted (sortP L) (sortP_perm L).length_eq m os
  exact ⟨rfl, hs⟩

theorem clonePt_any (g o n c : Nat) (L : List Pt) (w : World) (HV : SlX eP w.heap.size w (.slice (some ⟨g, o, none⟩) n c) L) (hl : L.length ≤ 1000) :
    Calls Tryd.prog 53 #[.slice (some ⟨g, o, none⟩) n c] w
      fun e w' => ∃ v, e = .returned v ∧ OwnX eP w' w.heap.size v L ∧ Below w.heap.size w w' := by
  have q22 : ∀ (w : World), (binOp .eql 52 (.slice (some ⟨g, o, none⟩) n c) (.slice none 0 0)).run Tryd.prog w = .ok (.bool false) w := fun w => Lib.run_eql_slice_nil w _ _ _ n c 0 0 Tryd.underlying52
  have H0 := Lib.hid (OwnX.lit (E := eP) w w.heap.size #[] [] 0 (Nat.le_refl _) rfl (by simp) rfl)
  have HB0 := Lib.hid (below_alloc (Below.refl _ w) (.cells #[] 63))
  have HVa := Lib.hid (HV.below HB0.out)
  clear HV
  have hlx : ([] : List Pt).length + L.length ≤ 9223372036854775807 := by simp; omega
  have hly : (([] : List Pt).length + L.length) * eP.bytes ≤ 140737488355328 := by show (_ + _) * 16 ≤ _; simp; omega
  go_enter Tryd.func53, Tryd.ntmps53
  go_wp2_with (at_builtin; go_must (refine ap_x (E := eP) rfl (.tmp 5) (.tmp 6) rfl w.heap.size (.slice (some ⟨w.heap.size, 0, none⟩) 0 0) [] w.heap.size _ L rfl rfl HVa.out H0.out HB0.out HB0.out.size hlx hly ?_); intro v2 w2 hO2 hB2 hz2 _)
  go_ret
  exact ⟨v2, rfl, hO2, hB2⟩
end Go.Proofs.YtmjeifbadjdnfaaDoor
