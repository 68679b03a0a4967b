/- Contracts of the library's swapRangeCmpFunc and rotateCmpFunc at cells, over any program that has their bodies. Conditions: the parts lie apart, within the slice. Contract of the library's symMergeCmpFunc at cells where one part is one element, over any program that has its body. Conditions: parts that are sorted. -/
import Derived.Test.YtefndmjimmbhnaaZ16
import Derived.Test.YtefndmjimmbhnaaZ17
import Derived.Shelf.SlSortCmp.InsertionK
import Derived.Lib.QuietBelow
section
set_option linter.unusedVariables false
set_option linter.unusedSimpArgs false
set_option maxRecDepth 1000000
namespace Go.Proofs.Ytefndmjimmbhnaa
open Go.RowKit Go.Sort

section
variable {P : Program} {α : Type} {E : El α}
theorem setW_cells (g : Nat) : ∀ (us : List Value) (w : World) (s : Nat), w.setCells g s us = setW g w s us
  | [], _, _ => rfl
  | _ :: us, w, s => setW_cells g us _ (s + 1)
/-- an element that is loaded -/
theorem OwnX.ld {w : World} {base g n c : Nat} {l : List α} (h : OwnX E w base (.slice (some ⟨g, 0, none⟩) n c) l) (i : Nat) (x : α) (hx : l[i]? = some x) : Sem.run P (loadCellsFrom ⟨g, i * E.size, none⟩ 0 E.size #[]) w = .ok (E.enc x).toArray w := by
  obtain ⟨hi, rfl⟩ := List.getElem?_eq_some_iff.1 hx
  refine run_loadCellsFrom_list P w ⟨g, i * E.size, none⟩ (E.enc l[i]) E.size (E.len _) fun j v hj => ?_
  have e : (⟨g, i * E.size, none⟩ : Addr).add j = ⟨g, i * E.size + j, none⟩ := by unfold Addr.add; split <;> simp_all
  rw [e]
  exact h.cell i j hi hj
/-- an element that is stored -/
theorem OwnX.sto {w : World} {base g n c : Nat} {l : List α} (h : OwnX E w base (.slice (some ⟨g, 0, none⟩) n c) l) (i : Nat) (hi : i < l.length) (x : α) :
    Sem.run P (storeCells ⟨g, i * E.size, none⟩ (E.enc x) 0) w = .ok () (w.setCells g (i * E.size) (E.enc x)) ∧ OwnX E (w.setCells g (i * E.size) (E.enc x)) base (.slice (some ⟨g, 0, none⟩) n c) (l.set i x) ∧ w.grownBy (w.setCells g (i * E.size) (E.enc x)) (some g) := by
  refine ⟨?_, ?_⟩
  · have := run_storeCells_cells (P := P) g (i * E.size) (E.enc x) 0 w (fun j hj => ?_) (fun j _ => by rw [Nat.add_zero]; exact h.frozen _) (E.one x)
    · rwa [Nat.add_zero] at this
    · rw [E.len] at hj
      rw [Nat.add_zero, h.cell i j hi (u := (E.enc l[i])[j]'(by rw [E.len]; exact hj)) (List.getElem?_eq_getElem _)]; rfl
  · rw [setW_cells]; exact h.put i hi x

theorem gb_drew (w : World) (r : Option Nat) : w.grownBy w.drew r := ⟨rfl, rfl, rfl, Nat.le_refl _, fun _ _ _ => rfl⟩
theorem wrap_nat {n : Nat} (h : n < 9223372036854775808) : IntKind.i64.wrap (n : Int) = (n : Int) := by rw [IntKind.wrap_i64]; omega

def SwapPost (E : El α) (w : World) (base g c : Nat) (l : List α) (R : List α → Prop) (e : Ending) (w' : World) : Prop :=
  e = .returned (.tuple #[]) ∧ ∃ l', R l' ∧ OwnX E w' base (.slice (some ⟨g, 0, none⟩) l.length c) l' ∧ w.grownBy w' (some g)
end
end Go.Proofs.Ytefndmjimmbhnaa
end

section
set_option linter.unusedVariables false
set_option linter.unusedSimpArgs false
set_option maxRecDepth 1000000
namespace Go.Proofs.Ytefndmjimmbhnaa
open Go.RowKit Go.Sort Go.Lib

section
variable {P : Program} {α : Type} {E : El α}
/-- the order of the sort: a function of the program, and what it answers -/
structure SoCmp (P : Program) {α : Type} (E : El α) (gf : Nat) (cf : α → α → Int) : Prop where
  eg : ∀ args w, (callFunc gf args).run P w = .ok (.enter gf args) w
  cmp : ∀ W x y, Calls P gf #[.agg (E.enc x).toArray, .agg (E.enc y).toArray] W fun e w' => e = .returned (.int .i64 (cf x y)) ∧ Below W.heap.size W w'
  ord : LtOk (fun x y => decide (cf x y < 0))
theorem SoCmp.qc {gf : Nat} {cf : α → α → Int} (C : SoCmp P E gf cf) (W : World) (d : Nat) (os : Array Obj) (x y : α) (cx cy : List Value) (ex : cx = E.enc x) (ey : cy = E.enc y) :
    Calls P gf #[.agg cx.toArray, .agg cy.toArray] (grow (redrawn W d) os) fun e w'' => e = .returned (.int .i64 (cf x y)) ∧ ∃ p : Regrown, w'' = grow (redrawn W p.d) p.os := by
  subst ex ey
  exact Calls.regrown_of (C.cmp _ x y)
theorem gb_below {w w1 : World} (h : Below w.heap.size w w1) (r : Option Nat) : w.grownBy w1 r := ⟨h.os, h.tape, h.output, h.size, fun k hk _ => h.block k hk⟩
/-- an element, loaded in whatever world that W grows into -/
theorem OwnX.lds {W : World} {base g n c : Nat} {l : List α} (h : OwnX E W base (.slice (some ⟨g, 0, none⟩) n c) l) (i : Nat) (x : α) (hx : l[i]? = some x) (cx : List Value) (ex : cx = E.enc x) :
    ∀ d os, Sem.run P (loadCellsFrom ⟨g, i * E.size, none⟩ 0 E.size #[]) (grow (redrawn W d) os) = .ok cx.toArray (grow (redrawn W d) os) := fun d os => by
  subst ex
  exact (h.below (below_regrown W d os)).ld i x hx

end
end Go.Proofs.Ytefndmjimmbhnaa
end
