/- Contracts of the reference's Join, of cell.Norm's closures, of the library's stable sort at cells. Condition: room. Contracts of purge.without's closures, of slices.IndexFunc and ContainsFunc at functions on keys. Conditions: keys of the bounds; at most a million functions. Contracts of cell.fold's join and of cell.Norm, at any cells. Condition: room (the row's own bound). -/
import Derived.Test.YtefndmjimmbhnaaZ14
import Derived.Test.YtefndmjimmbhnaaZ19
import Derived.Test.YtefndmjimmbhnaaZ08
import Derived.Test.YtefndmjimmbhnaaZ11
import Derived.Deep.MidRow
section
set_option linter.unusedVariables false
set_option linter.unusedSimpArgs false
set_option maxRecDepth 50000
namespace Go.Proofs.Ytefndmjimmbhnaa
open Go.RowKit Go.Sort
open Go.Lib hiding intOf

/-- the order of keys -/
def kcK (a b : Ky) : Int := kcmp a.t a.p a.r a.c b.t b.p b.r b.c
theorem ba_list {a b : ByteArray} : a.toList = b.toList ↔ a = b := ⟨toList_inj, fun h => by rw [h]⟩
theorem kcK_ord : KeyOrd kcK where
  zero a b := by
    obtain ⟨t, p, r, c⟩ := a; obtain ⟨t', p', r', c'⟩ := b
    unfold kcK
    rw [kcmp_zero]
    simp only [ba_list, Ky.mk.injEq]
  neg a b := kcmp_neg _ _ _ _ _ _ _ _
  tr a b c h1 h2 := by
    have h := kcmp_trans _ _ _ _ _ _ _ _ _ _ _ _ (Int.le_of_lt h1) (Int.le_of_lt h2)
    have h3 : kcK a c ≤ 0 := h
    rcases Int.lt_or_eq_of_le h3 with h5 | h5
    · exact h5
    · have e : a = c := by
        have := h5
        unfold kcK at this
        rw [kcmp_zero] at this
        obtain ⟨t, p, r, c'⟩ := a; obtain ⟨t', p', r', c''⟩ := c
        simpa only [ba_list, Ky.mk.injEq] using this
      subst e
      have n : kcK b a = -kcK a b := kcmp_neg _ _ _ _ _ _ _ _
      omega
theorem keyEq_dec (a b : Ky) : keyEq a.t a.p a.r a.c b.t b.p b.r b.c = decide (a = b) := by
  obtain ⟨t, p, r, c⟩ := a; obtain ⟨t', p', r', c'⟩ := b
  rw [Bool.eq_iff_iff]
  unfold keyEq
  simp only [Bool.and_eq_true, beq_iff_eq, and_true, decide_eq_true_eq, ba_list, Ky.mk.injEq]
instance : Inhabited Cel := ⟨⟨⟨⟨#[]⟩, ⟨#[]⟩, 0, ⟨#[]⟩⟩, ⟨0, false, 0, 0, 0, ⟨#[]⟩⟩⟩⟩
/-- cells, as keys with versions -/
def toP (c : Cel) : Ky × Vr := (c.k, c.v)
def ofP (p : Ky × Vr) : Cel := ⟨p.1, p.2⟩
theorem of_toP (c : Cel) : ofP (toP c) = c := rfl
theorem to_ofP (p : Ky × Vr) : toP (ofP p) = p := rfl
theorem map_of_toP (l : List Cel) : (l.map toP).map ofP = l := by rw [List.map_map]; exact List.map_id' l
def ltC (a b : Cel) : Bool := decide (kcK a.k b.k < 0)
theorem ltC_ok : LtOk ltC := by
  have h := kcK_ord.ltOk (ν := Vr)
  exact ⟨fun x => h.irr (toP x), fun x y z => h.tr (toP x) (toP y) (toP z), fun x y z => h.ntr (toP x) (toP y) (toP z)⟩
end Go.Proofs.Ytefndmjimmbhnaa
end

section
set_option linter.unusedVariables false
set_option linter.unusedSimpArgs false
set_option maxRecDepth 50000
namespace Go.Proofs.Ytefndmjimmbhnaa
open Go.RowKit Go.Sort

theorem Ten.under {w w1 : World} {g : Nat} {c : Cel} (h : Ten w g 0 c) (hb : Below w.heap.size w w1) : Ten w1 g 0 c := h.keep hb
end Go.Proofs.Ytefndmjimmbhnaa
end

section
set_option linter.unusedVariables false
set_option linter.unusedSimpArgs false
set_option maxRecDepth 50000
namespace Go.Proofs.Ytefndmjimmbhnaa
open Go.RowKit Go.Sort
open Go.Lib hiding intOf

/-- an element is stored, at a plain list of operations -/
theorem st_el {α : Type} {E : El α} {ops : Array Oper} {rest : List Oper} {o : Oper} {a : Act} {Q : Exit → Act → World → Prop} {W : World} (hgd : o.guard = none) (x y : Operand) (ho : o.op = .store E.t x y)
    (base g k n c : Nat) (l : List α) (v : α) (hx : a.eval x = .pointer (some ⟨g, k * E.size, none⟩)) (hy : a.eval y = .agg (E.enc v).toArray) (HO : OwnX E W base (.slice (some ⟨g, 0, none⟩) n c) l) (hk : k < l.length)
    (h : ∀ w1, OwnX E w1 base (.slice (some ⟨g, 0, none⟩) n c) (l.set k v) → W.grownBy w1 (some g) → wpList Try.prog ops Q rest (a.put o.dst undef) w1) : wpList Try.prog ops Q (o :: rest) a W := by
  obtain ⟨i0, hi, hz0, hz1, hz2⟩ := info_parts E.info
  have hth : W.there g (k * E.size) (E.enc v).toArray.size := fun j hj => by
    have hj' : j < E.size := by simpa [E.len] using hj
    refine ⟨?_, HO.frozen _⟩
    rw [HO.cell k j hk (u := (E.enc l[k])[j]'(by rw [E.len]; exact hj')) (List.getElem?_eq_getElem _)]; rfl
  refine wpList_store_mid hgd E.t x y ho g (k * E.size) (E.enc v).toArray hx hy hth (by rw [hi]; simp [hz1, E.len]) (all_oneCell_toArray (E.one v)) ?_
  obtain ⟨_, h2, h3⟩ := OwnX.sto (P := Try.prog) HO k hk v
  exact h _ h2 h3
theorem OwnX.ten {w : World} {base g n c : Nat} {l : List Cel} (h : OwnX eC w base (.slice (some ⟨g, 0, none⟩) n c) l) (i : Nat) (hi : i < l.length) : Ten w g (i * 10) l[i] :=
  ⟨h.cell i 0 hi rfl, h.cell i 1 hi rfl, h.cell i 2 hi rfl, h.cell i 3 hi rfl, h.cell i 4 hi rfl, h.cell i 5 hi rfl, h.cell i 6 hi rfl, h.cell i 7 hi rfl, h.cell i 8 hi rfl, h.cell i 9 hi rfl⟩
theorem Blk.ten {w : World} {g : Nat} {t : TypeId} {x : Cel} (h : Blk w g t (celEnc x).toArray) : Ten w g 0 x :=
  ⟨h.cell 0 rfl, h.cell 1 rfl, h.cell 2 rfl, h.cell 3 rfl, h.cell 4 rfl, h.cell 5 rfl, h.cell 6 rfl, h.cell 7 rfl, h.cell 8 rfl, h.cell 9 rfl⟩

end Go.Proofs.Ytefndmjimmbhnaa
end
