/- Plain laws: blocks that are read one by one. No program in sight; no condition. Contracts of purge.without and Cells at any cells and lists; of the reference's Norm. Condition: the row's own bounds. Contracts of the law's weigh and few, of purge.Cells beside no lists, of cell.Find: at any cells. Condition: the row's own bounds. -/
import Derived.Test.YtplghaoflmaadaaGreatDoorZ24
import Derived.Test.YtplghaoflmaadaaGreatDoorZ23
section
set_option linter.unusedVariables false
set_option linter.unusedSimpArgs false
set_option maxRecDepth 50000
namespace Go.Proofs.YtplghaoflmaadaaGreatDoor

open Classical in
/-- what is made of the blocks read -/
noncomputable def openR (b : List UInt8) (o : Option (List (List Cel))) : Option (List (List Cel)) := match o with
  | none => none
  | some bs => if OkT bs.flatten ∧ tableL bs.flatten = b then some bs else none
theorem rdBlocks_fuel : ∀ (f : Nat) (l : List UInt8), l.length ≤ f → ∀ f2, l.length ≤ f2 → rdBlocks f l = rdBlocks f2 l
  | 0, l, h, f2, h2 => by
    obtain rfl := List.length_eq_zero_iff.1 (Nat.le_zero.1 h)
    cases f2 <;> rfl
  | f + 1, l, h, f2, h2 => by
    by_cases h0 : l.length = 0
    · obtain rfl := List.length_eq_zero_iff.1 h0
      cases f2 <;> rfl
    · obtain ⟨f2', rfl⟩ : ∃ k, f2 = k + 1 := ⟨f2 - 1, by omega⟩
      rw [rdBlocks, rdBlocks, if_neg h0, if_neg h0]
      by_cases hu : (unframeL l).2.2 = 0
      · have hk := unframe_ok l hu
        rw [if_pos hu, if_pos hu, rdBlocks_fuel f (l.drop (unframeL l).2.1) (by simp; omega) f2' (by simp; omega)]
      · rw [if_neg hu, if_neg hu]
theorem rdBlocks_step (l : List UInt8) (h : 0 < l.length) : rdBlocks l.length l = if (unframeL l).2.2 = 0 then
      (match rdCells (unframeL l).1 with
      | none => none
      | some [] => none
      | some (c :: b) => (rdBlocks (l.drop (unframeL l).2.1).length (l.drop (unframeL l).2.1)).map ((c :: b) :: ·))
    else none := by
  obtain ⟨f, hf⟩ : ∃ f, l.length = f + 1 := ⟨l.length - 1, by omega⟩
  rw [hf, rdBlocks, if_neg (by omega)]
  by_cases hu : (unframeL l).2.2 = 0
  · have hk := unframe_ok l hu
    rw [if_pos hu, if_pos hu, rdBlocks_fuel f (l.drop (unframeL l).2.1) (by simp; omega) (l.drop (unframeL l).2.1).length (Nat.le_refl _)]
    rfl
  · rw [if_neg hu, if_neg hu]
theorem fit_read (L : List Cel) (hr : ∀ c ∈ L, CelR c) (hf : (L.flatMap cellL).length ≤ 120000) : FitT L ∧ ∀ c ∈ L, CelT c := by
  have hct : ∀ c ∈ L, CelT c := by
    intro c hc
    have h1 := flat_mem hc
    have h2 := cellL_key c
    have h3 : c.v.s.size ≤ (cellL c).length := by
      cases hd : c.v.dead with
      | true =>
        have := (hr c hc).dead hd
        rw [← str_len, this.2.2]; simp
      | false =>
        unfold cellL verL textL
        rw [hd]
        simp only [Bool.false_eq_true, if_false, List.length_append, List.length_cons, str_len]
        omega
    unfold maxLen at *
    refine ⟨?_, ?_, ?_, ?_⟩ <;> simp only [maxLen] <;> omega
  refine ⟨⟨fun c hc => ⟨(hr c hc).row, (hr c hc).time, (hr c hc).loc, (hr c hc).kind, (hr c hc).num⟩, hct, fun c hc => ?_, hf, index_fit L hf⟩, hct⟩
  have h1 := flat_mem hc
  have h2 := cellL_key c
  omega
theorem openN_blocks {b body : List UInt8} {n0 n1 n2 n3 n4 : Nat} (hen : endN b = some ([n0, n1, n2, n3, n4], body)) (h1 : ¬ body.length < n1) (h4 : n4 = sumN body) :
    openN b = openR b (rdBlocks n1 (body.take n1)) := by
  unfold openN openR
  rw [hen]
  simp only [List.getD_cons_succ, List.getD_cons_zero]
  rw [if_neg (by rintro (h | h)
                 · exact h1 h
                 · exact h h4)]
  rfl
/-- what a round leaves -/
theorem round_none {f : Nat} {l rest : List UInt8} {bs : List (List Cel)} (h : rdBlocks f l = (rdBlocks rest.length rest).map (bs ++ ·)) (h0 : 0 < rest.length)
    (hb : (unframeL rest).2.2 ≠ 0 ∨ (rdCells (unframeL rest).1 = none ∨ rdCells (unframeL rest).1 = some [])) : rdBlocks f l = none := by
  rw [h, rdBlocks_step rest h0]
  by_cases hu : (unframeL rest).2.2 = 0
  · rw [if_pos hu]
    rcases hb with hb | hb | hb
    · exact absurd hu hb
    · rw [hb]; rfl
    · rw [hb]; rfl
  · rw [if_neg hu]; rfl
theorem round_some {f : Nat} {l rest : List UInt8} {bs : List (List Cel)} (h : rdBlocks f l = (rdBlocks rest.length rest).map (bs ++ ·)) (h0 : 0 < rest.length) {cs : List Cel}
    (hu : (unframeL rest).2.2 = 0) (hc : rdCells (unframeL rest).1 = some cs) (h1 : 0 < cs.length) :
    rdBlocks f l = (rdBlocks (rest.drop (unframeL rest).2.1).length (rest.drop (unframeL rest).2.1)).map ((bs ++ [cs]) ++ ·) := by
  rw [h, rdBlocks_step rest h0, if_pos hu, hc]
  cases cs with
  | nil => simp at h1
  | cons c b =>
    simp only [Option.map_map]
    congr 1
    funext x
    simp
theorem round_size {rest : List UInt8} {bs : List (List Cel)} {cs : List Cel} {n : Nat} (hu : (unframeL rest).2.2 = 0) (hc : rdCells (unframeL rest).1 = some cs) (hs : (bs.flatten.flatMap cellL).length + rest.length ≤ n) (hn : bs.length + rest.length ≤ n) :
    ((bs ++ [cs]).flatten.flatMap cellL).length + (rest.drop (unframeL rest).2.1).length ≤ n ∧ (bs ++ [cs]).length + (rest.drop (unframeL rest).2.1).length ≤ n ∧ (unframeL rest).2.1 ≤ rest.length ∧ 0 < (unframeL rest).2.1 := by
  have h1 := unframe_ok rest hu
  obtain ⟨e1, _⟩ := rdCells_canon hc
  have h5 := cellsL_flat cs
  rw [← e1] at h5
  simp only [List.flatten_append, List.flatten_cons, List.flatten_nil, List.append_nil, List.flatMap_append, List.length_append, List.length_drop, List.length_cons, List.length_nil]
  omega
theorem round_end {f : Nat} {l rest : List UInt8} {bs : List (List Cel)} (h : rdBlocks f l = (rdBlocks rest.length rest).map (bs ++ ·)) (h0 : rest.length = 0) : rdBlocks f l = some bs := by
  obtain rfl := List.length_eq_zero_iff.1 h0
  rw [h]
  simp [rdBlocks]
end Go.Proofs.YtplghaoflmaadaaGreatDoor
end

section
set_option linter.unusedVariables false
set_option linter.unusedSimpArgs false
set_option maxRecDepth 50000
namespace Go.Proofs.YtplghaoflmaadaaGreatDoor
open Go.RowKit Go.Sort
open Go.Lib hiding intOf

theorem join_of {R : Vr → Prop} {a b : Vr} (ha : R a) (hb : R b) : R (joinP a b) := by unfold joinP; split <;> assumption
theorem addR_all {Q : Ky → Prop} {R : Vr → Prop} (c : Ky × Vr) (hc : Q c.1 ∧ R c.2) : ∀ (l : List (Ky × Vr)) (d : Bool), (∀ x ∈ l, Q x.1 ∧ R x.2) → ∀ x ∈ addR kcK joinP c d l, Q x.1 ∧ R x.2
  | [], d, _ => by cases d <;> simp [addR]; exact hc
  | y :: r, d, h => by
    have hy := h y (List.mem_cons_self)
    have h1 := addR_all c hc r true (fun x hx => h x (List.mem_cons_of_mem _ hx))
    have h2 := addR_all c hc r d (fun x hx => h x (List.mem_cons_of_mem _ hx))
    intro x hx
    rw [addR] at hx
    split at hx
    · rcases List.mem_cons.1 hx with rfl | hx
      · exact ⟨hy.1, join_of hy.2 hc.2⟩
      · exact h1 x hx
    · split at hx
      · rcases List.mem_cons.1 hx with rfl | hx
        · exact hc
        · rcases List.mem_cons.1 hx with rfl | hx
          · exact hy
          · exact h1 x hx
      · rcases List.mem_cons.1 hx with rfl | hx
        · exact hy
        · exact h2 x hx
theorem normC_all {Q : Ky → Prop} {R : Vr → Prop} (L : List Cel) (h : ∀ c ∈ L, Q c.k ∧ R c.v) : ∀ c ∈ normC L, Q c.k ∧ R c.v := by
  unfold normC normL
  have : ∀ (l out : List (Ky × Vr)), (∀ x ∈ l, Q x.1 ∧ R x.2) → (∀ x ∈ out, Q x.1 ∧ R x.2) → ∀ x ∈ l.foldl (fun out c => addR kcK joinP c false out) out, Q x.1 ∧ R x.2 := by
    intro l
    induction l with
    | nil => intro out _ h2; exact h2
    | cons y l ih =>
      intro out h1 h2
      exact ih _ (fun x hx => h1 x (List.mem_cons_of_mem _ hx)) (addR_all y (h1 y List.mem_cons_self) out false h2)
  intro c hc
  obtain ⟨p, hp, rfl⟩ := List.mem_map.1 hc
  refine this (L.map toP) [] ?_ (by simp) p hp
  intro x hx
  obtain ⟨y, hy, rfl⟩ := List.mem_map.1 hx
  exact h y hy
theorem normC_len (L : List Cel) : (normC L).length ≤ L.length := by
  unfold normC normL
  have : ∀ (l out : List (Ky × Vr)), (l.foldl (fun out c => addR kcK joinP c false out) out).length ≤ out.length + l.length := by
    intro l
    induction l with
    | nil => intro out; simp
    | cons y l ih =>
      intro out
      have h1 := ih (addR kcK joinP y false out)
      have h2 := addR_len y out false
      simp only [List.foldl_cons, List.length_cons]; omega
  simpa using this (L.map toP) []
theorem OwnX.cap {α : Type} {E : El α} {w : World} {base g n c : Nat} {l : List α} (h : OwnX E w base (.slice (some ⟨g, 0, none⟩) n c) l) : n = l.length ∧ n ≤ c ∧ c ≤ 9223372036854775807 := by
  rcases h.2 with ⟨h', _⟩ | ⟨g', cap', cur, h', _, _, h1, h2, _⟩
  · simp at h'
  · simp only [Value.slice.injEq, Option.some.injEq, Addr.mk.injEq, and_true, true_and] at h'
    obtain ⟨rfl, rfl, rfl⟩ := h'
    unfold maxLen at h2
    exact ⟨rfl, h1, by omega⟩
/-- what a cell must be -/
def CelOk (c : Cel) : Prop := KyOk c.k ∧ In64 c.v.loc

end Go.Proofs.YtplghaoflmaadaaGreatDoor
end

section
set_option linter.unusedVariables false
set_option linter.unusedSimpArgs false
set_option maxRecDepth 50000
namespace Go.Proofs.YtplghaoflmaadaaGreatDoor
open Go.RowKit Go.Sort
open Go.Lib hiding intOf

def SomeI (w : World) (e : Ending) (w' : World) : Prop := ∃ r : Int, e = .returned (.int .i64 r) ∧ Below w.heap.size w w'
def SomeB (w : World) (e : Ending) (w' : World) : Prop := ∃ r : Bool, e = .returned (.bool r) ∧ Below w.heap.size w w'
def SomeInt (P : Value) : Prop := ∃ r : Int, P = .int .i64 r
set_option maxHeartbeats 2000000 in
theorem weigh_any (v : Value) (L : List Cel) (most : Int) (w : World) (hv : SlX eC w.heap.size w v L) (hl : Room L.length) :
    Calls Tryz.prog 10 #[v, .int .i64 most] w (SomeI w) := by
  have HV := Lib.hid hv
  obtain ⟨a, cap, rfl, hc, hx⟩ := hv.ex
  have HX := Lib.hid hx; clear hx hv
  unfold Room at hl
  go_enter Tryz.func10, Tryz.ntmps10
  go_wp2_with fail
  go_loopw [5, 7, 10] (fun v5 _ v10 wr => SomeInt v5 ∧ ∃ i : Nat, v10 = .int .i64 (i : Int) ∧ i ≤ L.length ∧ Below w.heap.size w wr) (fun _ _ v10 _ => L.length - (intOf v10).toNat)
  case atStart => exact ⟨⟨0, rfl⟩, 0, rfl, by omega, Below.refl _ _⟩
  case round =>
    obtain ⟨⟨nn0, rfl⟩, i, rfl, hi, hb⟩ := hrel
    have HB := Lib.hid hb; clear hb
    by_cases hlt : i < L.length
    · have hz : (i : Int) < (L.length : Int) := by omega
      obtain ⟨gl, o, rfl, hgl2, _⟩ := HX.out (by omega)
      have ten := (Ten.of HV.out i hlt).keep HB.out
      generalize L[i] = x at *
      obtain ⟨c0, c1, c2, c3, c4, c5, c6, c7, c8, c9⟩ := ten
      have HB1 := Lib.hid (below_alloc HB.out (.cells (celEnc x).toArray 61))
      obtain ⟨⟨t, p, r, q⟩, ⟨tm, dd, lc, kd, nn, ss⟩⟩ := x
      simp only [celEnc] at *
      go_wp2_with fail
      · go_ret
        exact ⟨_, rfl, HB1.out⟩
      · exact ⟨⟨⟨_, rfl⟩, i + 1, by first | rfl | go_num, by omega, HB1.out⟩, by simp [intOf]; omega⟩
    · have hz : ¬ (i : Int) < (L.length : Int) := by omega
      go_wp2_with fail
      go_ret
      exact ⟨_, rfl, HB.out⟩

/-- slices of cells, as values -/
structure Hd where
  a : Option Addr
  n : Nat
  c : Nat
def Hd.val (h : Hd) : Value := .slice h.a h.n h.c
theorem infoHd : (Tryz.prog.info? 22).map (fun i => (i.zero, i.size, i.bytes)) = some (some (.slice none 0 0), 1, 24) := by kernel_rfl
def eH : El Hd := { st := 40, t := 22, size := 1, bytes := 24, z := .slice none 0 0, enc := fun h => [h.val], len := fun _ => rfl, one := fun x u hu => by simp at hu; subst hu; rfl, info := infoHd, und := Tryz.underlying40, elem := by kernel_rfl, zs := rfl, pos := by decide }
/-- what lists a slice of slices holds -/
structure Lists (w : World) (hs : List Hd) (ls : List (List Cel)) : Prop where
  len : hs.length = ls.length
  at_ : ∀ (i : Nat) (h1 : i < hs.length) (h2 : i < ls.length), SlX eC w.heap.size w hs[i].val ls[i] ∧ Room ls[i].length
theorem Lists.keep {w w1 : World} {hs : List Hd} {ls : List (List Cel)} (h : Lists w hs ls) (hb : Below w.heap.size w w1) : Lists w1 hs ls := ⟨h.len, fun i h1 h2 => ⟨(h.at_ i h1 h2).1.keep hb, (h.at_ i h1 h2).2⟩⟩
theorem eH_cell {B : Nat} {w : World} {l : List Hd} {g o n c : Nat} (h : SlX eH B w (.slice (some ⟨g, o, none⟩) n c) l) (j : Nat) (hj : j < l.length) : w.cell? ⟨g, o + j, none⟩ = some (.slice l[j].a l[j].n l[j].c) := by
  have := h.cell j 0 hj (u := l[j].val) rfl
  rwa [show o + j * eH.size + 0 = o + j by show o + j * 1 + 0 = _; omega] at this

end Go.Proofs.YtplghaoflmaadaaGreatDoor
end
