/- Contracts of the law's weigh and few, of purge.Cells beside no lists, of cell.Find: at any cells. Condition: the row's own bounds. -/
import Derived.Test.YtmjeifbadjdnfaaDoorWh
set_option linter.unusedVariables false
set_option linter.unusedSimpArgs false
set_option maxRecDepth 50000
namespace Go.Proofs.YtmjeifbadjdnfaaDoor
open Go.RowKit Go.Sort
open Go.Lib hiding intOf

def SomeI (w : World) (e : Ending) (w' : World) : Prop := ∃ r : Int, e = .returned (.int .i64 r) ∧ Below w.heap.size w w'
def SomeB (w : World) (e : Ending) (w' : World) : Prop := ∃ r : Bool, e = .returned (.bool r) ∧ Below w.heap.size w w'
def SomeInt (P : Value) : Prop := ∃ r : Int, P = .int .i64 r
set_option maxHeartbeats 2000000 in
theorem weigh_any (v : Value) (L : List Cel) (most : Int) (w : World) (hv : SlX eC w.heap.size w v L) (hl : Room L.length) :
    Calls Tryd.prog 35 #[v, .int .i64 most] w (SomeI w) := by
  have HV := Lib.hid hv
  obtain ⟨a, cap, rfl, hc, hx⟩ := hv.ex
  have HX := Lib.hid hx; clear hx hv
  unfold Room at hl
  go_enter Tryd.func35, Tryd.ntmps35
  go_wp2_with fail
  go_loopw [5, 7, 10] (fun v5 _ v10 wr => SomeInt v5 ∧ ∃ i : Nat, v10 = .int .i64 (i : Int) ∧ i ≤ L.length ∧ Below w.heap.size w wr) (fun _ _ v10 _ => L.length - (intOf v10).toNat)
  case atStart => exact ⟨⟨0, rfl⟩, 0, rfl, by omega, Below.refl _ _⟩
  case round =>
    obtain ⟨⟨nn0, rfl⟩, i, rfl, hi, hb⟩ := hrel
    have HB := Lib.hid hb; clear hb
    by_cases hlt : i < L.length
    · have hz : (i : Int) < (L.length : Int) := by omega
      obtain ⟨gl, o, rfl, hgl2, _⟩ := HX.out (by omega)
      have ten := (Ten.of HV.out i hlt).keep HB.out
      generalize L[i] = x at *
      obtain ⟨c0, c1, c2, c3, c4, c5, c6, c7, c8, c9⟩ := ten
      have HB1 := Lib.hid (below_alloc HB.out (.cells (celEnc x).toArray 35))
      obtain ⟨⟨t, p, r, q⟩, ⟨tm, dd, lc, kd, nn, ss⟩⟩ := x
      simp only [celEnc] at *
      go_wp2_with fail
      · go_ret
        exact ⟨_, rfl, HB1.out⟩
      · exact ⟨⟨⟨_, rfl⟩, i + 1, by first | rfl | go_num, by omega, HB1.out⟩, by simp [intOf]; omega⟩
    · have hz : ¬ (i : Int) < (L.length : Int) := by omega
      go_wp2_with fail
      go_ret
      exact ⟨_, rfl, HB.out⟩

/-- slices of cells, as values -/
structure Hd where
  a : Option Addr
  n : Nat
  c : Nat
def Hd.val (h : Hd) : Value := .slice h.a h.n h.c
theorem infoHd : (Tryd.prog.info? 22).map (fun i => (i.zero, i.size, i.bytes)) = some (some (.slice none 0 0), 1, 24) := by kernel_rfl
def eH : El Hd := { st := 23, t := 22, size := 1, bytes := 24, z := .slice none 0 0, enc := fun h => [h.val], len := fun _ => rfl, one := fun x u hu => by simp at hu; subst hu; rfl, info := infoHd, und := Tryd.underlying23, elem := by kernel_rfl, zs := rfl, pos := by decide }
/-- what lists a slice of slices holds -/
structure Lists (w : World) (hs : List Hd) (ls : List (List Cel)) : Prop where
  len : hs.length = ls.length
  at_ : ∀ (i : Nat) (h1 : i < hs.length) (h2 : i < ls.length), SlX eC w.heap.size w hs[i].val ls[i] ∧ Room ls[i].length
theorem Lists.keep {w w1 : World} {hs : List Hd} {ls : List (List Cel)} (h : Lists w hs ls) (hb : Below w.heap.size w w1) : Lists w1 hs ls := ⟨h.len, fun i h1 h2 => ⟨(h.at_ i h1 h2).1.keep hb, (h.at_ i h1 h2).2⟩⟩
theorem eH_cell {B : Nat} {w : World} {l : List Hd} {g o n c : Nat} (h : SlX eH B w (.slice (some ⟨g, o, none⟩) n c) l) (j : Nat) (hj : j < l.length) : w.cell? ⟨g, o + j, none⟩ = some (.slice l[j].a l[j].n l[j].c) := by
  have := h.cell j 0 hj (u := l[j].val) rfl
  rwa [show o + j * eH.size + 0 = o + j by show o + j * 1 + 0 = _; omega] at this

set_option maxHeartbeats 2000000 in
theorem few_any (v : Value) (hs : List Hd) (ls : List (List Cel)) (w : World) (hv : SlX eH w.heap.size w v hs) (hl : Lists w hs ls) (hn : hs.length ≤ 6000000000000) :
    Calls Tryd.prog 11 #[v] w (SomeB w) := by
  have HV := Lib.hid hv
  obtain ⟨a, cap, rfl, hc, hx⟩ := hv.ex
  have HX := Lib.hid hx; have LS := Lib.hid hl; clear hx hv hl
  go_enter Tryd.func11, Tryd.ntmps11
  go_wp2_with fail
  go_loopw [3, 5, 8] (fun v3 _ v8 wr => SomeInt v3 ∧ ∃ i : Nat, v8 = .int .i64 (i : Int) ∧ i ≤ hs.length ∧ Below w.heap.size w wr) (fun _ _ v8 _ => hs.length - (intOf v8).toNat)
  case atStart => exact ⟨⟨0, rfl⟩, 0, rfl, by omega, Below.refl _ _⟩
  case round =>
    obtain ⟨⟨nn0, rfl⟩, i, rfl, hi, hb⟩ := hrel
    have HB := Lib.hid hb; clear hb
    by_cases hlt : i < hs.length
    · have hz : (i : Int) < (hs.length : Int) := by omega
      obtain ⟨gl, o, rfl, hgl2, _⟩ := HX.out (by omega)
      have hcell := cell_keep HB.out (eH_cell HV.out i hlt)
      have C := Lib.hid (show Calls Tryd.prog 35 #[.slice hs[i].a hs[i].n hs[i].c, .int .i64 200] wr (SomeI wr) from
        weigh_any _ (ls[i]'(by rw [← LS.out.len]; exact hlt)) 200 wr ((LS.out.at_ i hlt (by rw [← LS.out.len]; exact hlt)).1.keep HB.out) (LS.out.at_ i hlt (by rw [← LS.out.len]; exact hlt)).2)
      generalize hs[i] = hd at *
      obtain ⟨ha, hn1, hc1⟩ := hd
      simp only at *
      go_wp2_with fail
      refine C.out.mono ?_
      rintro e w1 ⟨r, rfl, hb⟩
      have HB1 := Lib.hid (below_tr HB.out hb)
      clear hb hcell C
      go_wp2_with fail
      · go_ret
        exact ⟨_, rfl, HB1.out⟩
      · exact ⟨⟨⟨_, rfl⟩, i + 1, by first | rfl | go_num, by omega, HB1.out⟩, by simp [intOf]; omega⟩
    · have hz : ¬ (i : Int) < (hs.length : Int) := by omega
      go_wp2_with fail
      go_ret
      exact ⟨_, rfl, HB.out⟩

theorem cellsN_any (v : Value) (L : List Cel) (now gr : Int) (w : World) (HV : SlX eC w.heap.size w v L) (hl : Room L.length) (ok : ∀ c ∈ L, CelOk c) (i2 : In64 now) (i3 : In64 gr) :
    Calls Tryd.prog 16 #[v, .slice none 0 0, .int .i64 now, .int .i64 gr] w
      fun e w' => ∃ v', e = .returned v' ∧ SlX eC w'.heap.size w' v' ((normC L).filter fun c => !oldV c.v now gr) ∧ Below w.heap.size w w' := by
  have C := Lib.hid (without_any v L now gr (.slice none 0 0) [] w HV hl ok (SlX.nil _ _ _) (by simp) i2 i3 (by simp))
  have e0 : (fun c => !goneB now gr [] c) = fun c : Cel => !oldV c.v now gr := by funext c; simp [goneB, anyIn]
  rw [e0] at C
  obtain ⟨a, cap, rfl, _⟩ := HV.ex
  clear HV hl ok i2 i3 e0
  go_enter Tryd.func16, Tryd.ntmps16
  go_wp2_with fail
  go_loopw [9, 11, 14] (fun v9 _ v14 wr => v9 = .slice none 0 0 ∧ v14 = .int .i64 0 ∧ w = wr) (fun _ _ _ _ => 0)
  case atStart => exact ⟨rfl, rfl, rfl⟩
  case round =>
    obtain ⟨rfl, rfl, rfl⟩ := hrel
    go_wp2_with fail
    refine C.out.mono ?_
    rintro e w1 ⟨v', rfl, hs, hb⟩
    have HB := Lib.hid hb; have HS := Lib.hid hs; clear hb hs
    obtain ⟨a', c', rfl, _⟩ := HS.out.ex
    go_wp2_with fail
    go_ret
    exact ⟨_, rfl, HS.out, HB.out⟩
end Go.Proofs.YtmjeifbadjdnfaaDoor
