/- Contracts of the library's swapRangeCmpFunc and rotateCmpFunc at cells, over any program that has their bodies. Conditions: the parts lie apart, within the slice. Contract of the library's symMergeCmpFunc at cells where one part is one element, over any program that has its body. Conditions: parts that are sorted. Contract of the library's symMergeCmpFunc at cells, over any program that has its body. Conditions: two parts that are sorted, neither empty. -/
import Derived.Test.YtplghaoflmaadaaGreatDoorZ10
import Derived.Test.YtplghaoflmaadaaGreatDoorZ15
import Derived.Shelf.SlSortCmp.InsertionK
import Derived.Lib.QuietBelow
section
set_option linter.unusedVariables false
set_option linter.unusedSimpArgs false
set_option maxRecDepth 1000000
namespace Go.Proofs.YtplghaoflmaadaaGreatDoor
open Go.RowKit Go.Sort

/-- what a program must have: the bodies of the library's stable sort, the types that they name; elements of E.size cells. -/
structure SoLay (P : Program) {α : Type} (E : El α) : Prop where
  mixed : P.follows .mixedOrders = true
  f1 : P.funcs[164]? = some Tryz.f164
  f2 : P.funcs[149]? = some Tryz.f149
  f3 : P.funcs[131]? = some Tryz.f131
  f4 : P.funcs[130]? = some Tryz.f130
  t0 : P.underlying 0 = some (TypeDesc.tuple #[])
  a0 : ∀ w, (isAgg 0).run P w = .ok false w
  z0 : ∀ w, (Go.sizeOf 0).run P w = .ok 1 w
  v0 : ∀ w, (zeroValue 0).run P w = .ok (Value.tuple #[]) w
  t3 : P.underlying 3 = some (TypeDesc.int IntKind.i64)
  a3 : ∀ w, (isAgg 3).run P w = .ok false w
  z3 : ∀ w, (Go.sizeOf 3).run P w = .ok 1 w
  v3 : ∀ w, (zeroValue 3).run P w = .ok (Value.int IntKind.i64 0) w
  tu : P.underlying 59 = some (TypeDesc.int IntKind.u64)
  au : ∀ w, (isAgg 59).run P w = .ok false w
  zu : ∀ w, (Go.sizeOf 59).run P w = .ok 1 w
  vu : ∀ w, (zeroValue 59).run P w = .ok (Value.int IntKind.u64 0) w
  t4 : P.underlying 4 = some (TypeDesc.bool)
  a4 : ∀ w, (isAgg 4).run P w = .ok false w
  z4 : ∀ w, (Go.sizeOf 4).run P w = .ok 1 w
  v4 : ∀ w, (zeroValue 4).run P w = .ok (Value.bool false) w
  tS : P.underlying 22 = some (TypeDesc.slice 61)
  aS : ∀ w, (isAgg 22).run P w = .ok false w
  zS : ∀ w, (Go.sizeOf 22).run P w = .ok 1 w
  vS : ∀ w, (zeroValue 22).run P w = .ok (Value.slice none 0 0) w
  tf : P.underlying 104 = some (TypeDesc.func #[61, 61] #[3] false)
  af : ∀ w, (isAgg 104).run P w = .ok false w
  zf : ∀ w, (Go.sizeOf 104).run P w = .ok 1 w
  vf : ∀ w, (zeroValue 104).run P w = .ok (Value.nilFunc) w
  aE : ∀ w, (isAgg 61).run P w = .ok true w
  zE : ∀ w, (Go.sizeOf 61).run P w = .ok E.size w

section
variable {P : Program} {α : Type} {E : El α}
theorem setW_cells (g : Nat) : ∀ (us : List Value) (w : World) (s : Nat), w.setCells g s us = setW g w s us
  | [], _, _ => rfl
  | _ :: us, w, s => setW_cells g us _ (s + 1)
/-- an element that is loaded -/
theorem OwnX.ld {w : World} {base g n c : Nat} {l : List α} (h : OwnX E w base (.slice (some ⟨g, 0, none⟩) n c) l) (i : Nat) (x : α) (hx : l[i]? = some x) : Sem.run P (loadCellsFrom ⟨g, i * E.size, none⟩ 0 E.size #[]) w = .ok (E.enc x).toArray w := by
  obtain ⟨hi, rfl⟩ := List.getElem?_eq_some_iff.1 hx
  refine run_loadCellsFrom_list P w ⟨g, i * E.size, none⟩ (E.enc l[i]) E.size (E.len _) fun j v hj => ?_
  have e : (⟨g, i * E.size, none⟩ : Addr).add j = ⟨g, i * E.size + j, none⟩ := by unfold Addr.add; split <;> simp_all
  rw [e]
  exact h.cell i j hi hj
/-- an element that is stored -/
theorem OwnX.sto {w : World} {base g n c : Nat} {l : List α} (h : OwnX E w base (.slice (some ⟨g, 0, none⟩) n c) l) (i : Nat) (hi : i < l.length) (x : α) :
    Sem.run P (storeCells ⟨g, i * E.size, none⟩ (E.enc x) 0) w = .ok () (w.setCells g (i * E.size) (E.enc x)) ∧ OwnX E (w.setCells g (i * E.size) (E.enc x)) base (.slice (some ⟨g, 0, none⟩) n c) (l.set i x) ∧ w.grownBy (w.setCells g (i * E.size) (E.enc x)) (some g) := by
  refine ⟨?_, ?_⟩
  · have := run_storeCells_cells (P := P) g (i * E.size) (E.enc x) 0 w (fun j hj => ?_) (fun j _ => by rw [Nat.add_zero]; exact h.frozen _) (E.one x)
    · rwa [Nat.add_zero] at this
    · rw [E.len] at hj
      rw [Nat.add_zero, h.cell i j hi (u := (E.enc l[i])[j]'(by rw [E.len]; exact hj)) (List.getElem?_eq_getElem _)]; rfl
  · rw [setW_cells]; exact h.put i hi x

theorem gb_drew (w : World) (r : Option Nat) : w.grownBy w.drew r := ⟨rfl, rfl, rfl, Nat.le_refl _, fun _ _ _ => rfl⟩
theorem wrap_nat {n : Nat} (h : n < 9223372036854775808) : IntKind.i64.wrap (n : Int) = (n : Int) := by rw [IntKind.wrap_i64]; omega

def SwapPost (E : El α) (w : World) (base g c : Nat) (l : List α) (R : List α → Prop) (e : Ending) (w' : World) : Prop :=
  e = .returned (.tuple #[]) ∧ ∃ l', R l' ∧ OwnX E w' base (.slice (some ⟨g, 0, none⟩) l.length c) l' ∧ w.grownBy w' (some g)
set_option maxHeartbeats 4000000 in
theorem swapR_gen (H : SoLay P E) (a b n g c base : Nat) (l : List α) (w : World) (f : Value) (HO : OwnX E w base (.slice (some ⟨g, 0, none⟩) l.length c) l) (hab : a + n ≤ b) (hbn : b + n ≤ l.length) (hl : l.length < 4611686018427387904) :
    Calls P 164 #[.slice (some ⟨g, 0, none⟩) l.length c, .int .i64 a, .int .i64 b, .int .i64 n, f] w (SwapPost E w base g c l (SwapR a b n l)) := by
  have mixed := H.mixed; have t0 := H.t0; have a0 := H.a0; have z0 := H.z0; have v0 := H.v0; have t3 := H.t3; have a3 := H.a3; have z3 := H.z3; have v3 := H.v3; have t4 := H.t4; have a4 := H.a4; have z4 := H.z4; have v4 := H.v4; have tS := H.tS; have aS := H.aS; have zS := H.zS; have vS := H.vS; have tf := H.tf; have af := H.af; have zf := H.zf; have vf := H.vf; have aE := H.aE; have zE := H.zE
  have F1 := H.f1
  have us := run_underlying H.tS
  have HO0 := Lib.hid HO
  obtain ⟨len, hlen⟩ : ∃ len, l.length = len := ⟨_, rfl⟩
  rw [hlen] at hbn hl HO0 ⊢
  have HLEN := Lib.hid hlen
  clear HO hlen
  go_enter F1, Tryz.ntmps164
  go_wp2
  go_loopw [10] (fun vi wr => ∃ (i : Nat) (cur : List α), i ≤ n ∧ vi = .int .i64 (i : Int) ∧ SwapR a b i l cur ∧ OwnX E wr base (.slice (some ⟨g, 0, none⟩) len c) cur ∧ w.grownBy wr (some g)) (fun vi _ => n - (intOf vi).toNat)
  case atStart => exact ⟨0, l, Nat.zero_le _, rfl, SwapR.zero _ _ _, HO0.out, World.grownBy.refl _ _⟩
  case round =>
    obtain ⟨i, cur, hi, rfl, hs, hO, hg⟩ := hrel
    by_cases hlt : i < n
    · have hz : (i : Int) < (n : Int) := by omega
      have hcl : cur.length = len := by rw [hs.len, HLEN.out]
      obtain ⟨x, hx⟩ : ∃ x, cur[a + i]? = some x := ⟨_, List.getElem?_eq_getElem (by omega)⟩
      obtain ⟨y, hy⟩ : ∃ y, cur[b + i]? = some y := ⟨_, List.getElem?_eq_getElem (by omega)⟩
      have hst := hs.step (by omega) hx hy
      have hO1 := OwnX.drew hO
      have lx := OwnX.ld (P := P) hO1 (a + i) x hx
      have ly := OwnX.ld (P := P) hO1 (b + i) y hy
      obtain ⟨s1, hO2, hg2⟩ := OwnX.sto (P := P) hO1 (a + i) (by omega) y
      obtain ⟨s2, hO3, hg3⟩ := OwnX.sto (P := P) hO2 (b + i) (by rw [List.length_set]; omega) x
      have hex : (E.enc x).length = E.size := E.len x
      have hey : (E.enc y).length = E.size := E.len y
      have STEP := Lib.hid hst
      have OWN := Lib.hid hO3
      have GR := Lib.hid (show w.grownBy _ (some g) from World.grownBy.trans (World.grownBy.trans (World.grownBy.trans hg (gb_drew _ _)) hg2) hg3)
      have ea : IntKind.i64.wrap ((a : Int) + (i : Int)) = ((a + i : Nat) : Int) := by rw [IntKind.wrap_i64]; omega
      have eb : IntKind.i64.wrap ((b : Int) + (i : Int)) = ((b + i : Nat) : Int) := by rw [IntKind.wrap_i64]; omega
      have pa : (a : Int) + (i : Int) < (len : Int) := by omega
      have pb : (b : Int) + (i : Int) < (len : Int) := by omega
      have qa : (0 : Int) ≤ (a : Int) + (i : Int) := by omega
      have qb : (0 : Int) ≤ (b : Int) + (i : Int) := by omega
      have na : ((a : Int) + (i : Int)).toNat = a + i := by omega
      have nb : ((b : Int) + (i : Int)).toNat = b + i := by omega
      clear hst hO3 hO2 hg3 hg2 hO1 hO hg hs hx hy hcl
      generalize E.enc x = cx at *
      generalize E.enc y = cy at *
      go_wp2_with fail
      go_big_region_o
      all_goals go_wp2
      go_roundw
      case rel => exact ⟨i + 1, _, by omega, by go_num, STEP.out, OWN.out, GR.out⟩
      case measure => simp [intOf]; omega
    · have hz : ¬ (i : Int) < (n : Int) := by omega
      obtain rfl : i = n := by omega
      have HS := Lib.hid hs; have HO := Lib.hid hO; have HG := Lib.hid hg
      clear hs hO hg
      go_wp2
      refine bodyPost_end (v := .tuple #[]) (by simp [results, Tryz.results164, go_sem]) rfl ⟨rfl, cur, HS.out, by rw [HLEN.out]; exact HO.out, HG.out⟩

set_option maxHeartbeats 4000000 in
theorem rot_gen (H : SoLay P E) (a m b g c base : Nat) (l : List α) (w : World) (f : Value) (HO : OwnX E w base (.slice (some ⟨g, 0, none⟩) l.length c) l) (h1 : a < m) (h2 : m < b) (hb : b ≤ l.length) (hl : l.length < 4611686018427387904) :
    Calls P 149 #[.slice (some ⟨g, 0, none⟩) l.length c, .int .i64 a, .int .i64 m, .int .i64 b, f] w (SwapPost E w base g c l (· = rotL a m b l)) := by
  have mixed := H.mixed; have t0 := H.t0; have a0 := H.a0; have z0 := H.z0; have v0 := H.v0; have t3 := H.t3; have a3 := H.a3; have z3 := H.z3; have v3 := H.v3; have t4 := H.t4; have a4 := H.a4; have z4 := H.z4; have v4 := H.v4; have tS := H.tS; have aS := H.aS; have zS := H.zS; have vS := H.vS; have tf := H.tf; have af := H.af; have zf := H.zf; have vf := H.vf
  have F2 := H.f2
  have eg : ∀ args w, (callFunc 164 args).run P w = .ok (.enter 164 args) w := enters_of H.f1 (by kernel_rfl) rfl
  have SW := Lib.hid (fun (a b n : Nat) (cur : List α) (W : World) (h : cur.length = l.length) (hO : OwnX E W base (.slice (some ⟨g, 0, none⟩) l.length c) cur) (x1 : a + n ≤ b) (x2 : b + n ≤ l.length) =>
    show Calls P 164 #[.slice (some ⟨g, 0, none⟩) l.length c, .int .i64 a, .int .i64 b, .int .i64 n, f] W (SwapPost E W base g c cur (SwapR a b n cur)) by
      have := swapR_gen H a b n g c base cur W f (by rw [h]; exact hO) x1 (by omega) (by omega)
      rwa [h] at this)
  have HO0 := Lib.hid HO
  have hR := RotSt.start l (Nat.le_of_lt h1) (Nat.le_of_lt h2) hb
  have HLR := Lib.hid (rotL_len l (Nat.le_of_lt h1) (Nat.le_of_lt h2) hb)
  obtain ⟨len, hlen⟩ : ∃ len, l.length = len := ⟨_, rfl⟩
  rw [hlen] at hb hl HO0 SW HLR ⊢
  have HLEN := Lib.hid hlen
  have HR := Lib.hid hR
  obtain ⟨R, hRR⟩ : ∃ R, rotL a m b l = R := ⟨_, rfl⟩
  rw [hRR] at HR HLR ⊢
  have HRR := Lib.hid hRR
  clear HO hlen hR hRR
  obtain ⟨i0, hi0⟩ : ∃ i0, m - a = i0 := ⟨_, rfl⟩
  obtain ⟨j0, hj0⟩ : ∃ j0, b - m = j0 := ⟨_, rfl⟩
  rw [hi0, hj0] at HR
  have ei0 : IntKind.i64.wrap ((m : Int) - (a : Int)) = (i0 : Int) := by rw [IntKind.wrap_i64]; omega
  have ej0 : IntKind.i64.wrap ((b : Int) - (m : Int)) = (j0 : Int) := by rw [IntKind.wrap_i64]; omega
  have wi0 : (m : Int) - (a : Int) = (i0 : Int) := by omega
  have wj0 : (b : Int) - (m : Int) = (j0 : Int) := by omega
  have k1 : 0 < i0 := by omega
  have k2 : 0 < j0 := by omega
  have k3 : m + j0 = b := by omega
  have k4 : a + i0 = m := by omega
  clear hi0 hj0 h1 h2
  have EI := Lib.hid (And.intro ei0 (And.intro ej0 (And.intro wi0 wj0)))
  clear ei0 ej0 wi0 wj0
  go_enter F2, Tryz.ntmps149
  obtain ⟨ei0, ej0, wi0, wj0⟩ := EI.out
  go_wp2
  clear ei0 ej0 wi0 wj0
  go_loopw [10, 11] (fun vi vj wr => ∃ (i j : Nat) (cur : List α), vi = .int .i64 (i : Int) ∧ vj = .int .i64 (j : Int) ∧ 0 < i ∧ 0 < j ∧ i ≤ m ∧ m + j ≤ len ∧ RotSt m R i j cur ∧ cur.length = len ∧ OwnX E wr base (.slice (some ⟨g, 0, none⟩) len c) cur ∧ w.grownBy wr (some g)) (fun vi vj _ => (intOf vi + intOf vj).toNat)
  case atStart => exact ⟨i0, j0, l, rfl, rfl, k1, k2, by omega, by omega, HR.out, HLEN.out, HO0.out, World.grownBy.refl _ _⟩
  case round =>
    obtain ⟨i, j, cur, rfl, rfl, hi, hj, him, hjl, hr, hcl, hO, hg⟩ := hrel
    have HG := Lib.hid hg; have RS := Lib.hid hr; have CL := Lib.hid hcl; have OW := Lib.hid hO
    clear hg hr hcl hO
    obtain ⟨d, hd⟩ : ∃ d, m - i = d := ⟨_, rfl⟩
    have ed : (m : Int) - (i : Int) = (d : Int) := by omega
    rcases Nat.lt_trichotomy i j with hij | hij | hij
    · obtain ⟨q, hq⟩ : ∃ q, m + j - i = q := ⟨_, rfl⟩
      obtain ⟨s, hs⟩ : ∃ s, m + j = s := ⟨_, rfl⟩
      have es : (m : Int) + (j : Int) = (s : Int) := by omega
      have eq : (s : Int) - (i : Int) = (q : Int) := by omega
      have hne : ((i : Int) != (j : Int)) = true := by simp; omega
      have hgt : ¬ (j : Int) < (i : Int) := by omega
      have C := Lib.hid (SW.out d q i cur wr CL.out OW.out (by omega) (by omega))
      have RR := Lib.hid (fun cur' => hd ▸ hq ▸ RS.out.right (cur' := cur') hij)
      have hsl : (s : Int) ≤ len := by omega
      clear hd hq hs
      go_wp2_with fail
      refine C.out.mono ?_
      rintro e w1 ⟨rfl, cur', h1, h2, h3⟩
      have R1 := Lib.hid (RR.out cur' h1); have L1 := Lib.hid (h1.len.trans CL.out)
      have O1 := Lib.hid (show OwnX E w1 base (.slice (some ⟨g, 0, none⟩) len c) cur' by have := h2; rw [CL.out] at this; exact this)
      have G1 := Lib.hid (HG.out.trans h3)
      clear h1 h2 h3 C RR
      go_wp2
      go_roundw
      case rel => exact ⟨i, j - i, cur', rfl, by go_num, hi, by omega, him, by omega, R1.out, L1.out, O1.out, G1.out⟩
      case measure => simp [intOf]; omega
    · subst hij
      have hne : ((i : Int) != (i : Int)) = false := by simp
      have C := Lib.hid (SW.out d m i cur wr CL.out OW.out (by omega) (by omega))
      have RR := Lib.hid (fun cur' => hd ▸ RS.out.done (cur' := cur'))
      clear hd
      go_wp2_with fail
      refine C.out.mono ?_
      rintro e w1 ⟨rfl, cur', h1, h2, h3⟩
      have R1 := Lib.hid (RR.out cur' h1)
      have O1 := Lib.hid (show OwnX E w1 base (.slice (some ⟨g, 0, none⟩) len c) cur' by have := h2; rw [CL.out] at this; exact this)
      have G1 := Lib.hid (HG.out.trans h3)
      clear h1 h2 h3 C RR
      go_wp2
      refine bodyPost_end (v := .tuple #[]) (by simp [results, Tryz.results149, go_sem]) rfl ⟨rfl, cur', R1.out, by rw [HLEN.out]; exact O1.out, G1.out⟩
    · have hne : ((i : Int) != (j : Int)) = true := by simp; omega
      have hgt : (j : Int) < (i : Int) := by omega
      have C := Lib.hid (SW.out d m j cur wr CL.out OW.out (by omega) (by omega))
      have RR := Lib.hid (fun cur' => hd ▸ RS.out.left (cur' := cur') hij)
      clear hd
      go_wp2_with fail
      refine C.out.mono ?_
      rintro e w1 ⟨rfl, cur', h1, h2, h3⟩
      have R1 := Lib.hid (RR.out cur' h1); have L1 := Lib.hid (h1.len.trans CL.out)
      have O1 := Lib.hid (show OwnX E w1 base (.slice (some ⟨g, 0, none⟩) len c) cur' by have := h2; rw [CL.out] at this; exact this)
      have G1 := Lib.hid (HG.out.trans h3)
      clear h1 h2 h3 C RR
      go_wp2
      go_roundw
      case rel => exact ⟨i - j, j, cur', by go_num, rfl, by omega, hj, by omega, hjl, R1.out, L1.out, O1.out, G1.out⟩
      case measure => simp [intOf]; omega
end
end Go.Proofs.YtplghaoflmaadaaGreatDoor
end

section
set_option linter.unusedVariables false
set_option linter.unusedSimpArgs false
set_option maxRecDepth 1000000
namespace Go.Proofs.YtplghaoflmaadaaGreatDoor
open Go.RowKit Go.Sort Go.Lib

section
variable {P : Program} {α : Type} {E : El α}
/-- the order of the sort: a function of the program, and what it answers -/
structure SoCmp (P : Program) {α : Type} (E : El α) (gf : Nat) (cf : α → α → Int) : Prop where
  eg : ∀ args w, (callFunc gf args).run P w = .ok (.enter gf args) w
  cmp : ∀ W x y, Calls P gf #[.agg (E.enc x).toArray, .agg (E.enc y).toArray] W fun e w' => e = .returned (.int .i64 (cf x y)) ∧ Below W.heap.size W w'
  ord : LtOk (fun x y => decide (cf x y < 0))
theorem SoCmp.qc {gf : Nat} {cf : α → α → Int} (C : SoCmp P E gf cf) (W : World) (d : Nat) (os : Array Obj) (x y : α) (cx cy : List Value) (ex : cx = E.enc x) (ey : cy = E.enc y) :
    Calls P gf #[.agg cx.toArray, .agg cy.toArray] (grow (redrawn W d) os) fun e w'' => e = .returned (.int .i64 (cf x y)) ∧ ∃ p : Regrown, w'' = grow (redrawn W p.d) p.os := by
  subst ex ey
  exact Calls.regrown_of (C.cmp _ x y)
theorem gb_below {w w1 : World} (h : Below w.heap.size w w1) (r : Option Nat) : w.grownBy w1 r := ⟨h.os, h.tape, h.output, h.size, fun k hk _ => h.block k hk⟩
/-- an element, loaded in whatever world that W grows into -/
theorem OwnX.lds {W : World} {base g n c : Nat} {l : List α} (h : OwnX E W base (.slice (some ⟨g, 0, none⟩) n c) l) (i : Nat) (x : α) (hx : l[i]? = some x) (cx : List Value) (ex : cx = E.enc x) :
    ∀ d os, Sem.run P (loadCellsFrom ⟨g, i * E.size, none⟩ 0 E.size #[]) (grow (redrawn W d) os) = .ok cx.toArray (grow (redrawn W d) os) := fun d os => by
  subst ex
  exact (h.below (below_regrown W d os)).ld i x hx

set_option maxHeartbeats 4000000 in
theorem one1_gen (H : SoLay P E) {gf : Nat} {cf : α → α → Int} (C : SoCmp P E gf cf) (a b g c base : Nat) (l : List α) (w : World) (HO : OwnX E w base (.slice (some ⟨g, 0, none⟩) l.length c) l) (h1 : a + 1 < b) (hb : b ≤ l.length) (hl : l.length < 4611686018427387904) (hs : SrtOn (fun x y => decide (cf x y < 0)) l (a + 1) b) :
    Calls P 131 #[.slice (some ⟨g, 0, none⟩) l.length c, .int .i64 a, .int .i64 ((a + 1 : Nat) : Int), .int .i64 b, .func (.func gf) #[] #[]] w (SwapPost E w base g c l (MG (fun x y => decide (cf x y < 0)) a b l)) := by
  have mixed := H.mixed; have t0 := H.t0; have a0 := H.a0; have z0 := H.z0; have v0 := H.v0; have t3 := H.t3; have a3 := H.a3; have z3 := H.z3; have v3 := H.v3; have t4 := H.t4; have a4 := H.a4; have z4 := H.z4; have v4 := H.v4; have tS := H.tS; have aS := H.aS; have zS := H.zS; have vS := H.vS; have tf := H.tf; have af := H.af; have zf := H.zf; have vf := H.vf; have aE := H.aE; have zE := H.zE
  have tu := H.tu; have au := H.au; have zu := H.zu; have vu := H.vu
  have uS := run_underlying H.tS; have u3 := run_underlying H.t3; have uu := run_underlying H.tu
  have F3 := H.f3
  have eg := C.eg
  have HO0 := Lib.hid HO
  have CC := Lib.hid C
  obtain ⟨len, hlen⟩ : ∃ len, l.length = len := ⟨_, rfl⟩
  obtain ⟨m, hm⟩ : ∃ m, a + 1 = m := ⟨_, rfl⟩
  have HS := Lib.hid hs
  rw [hlen] at hb hl HO0 ⊢
  rw [hm] at h1 ⊢
  have HLEN := Lib.hid hlen
  have HM := Lib.hid hm
  have em : (m : Int) - (a : Int) = 1 := by omega
  have EM := Lib.hid em
  clear HO hlen hs hm C em
  go_enter F3, Tryz.ntmps131
  have em := EM.out
  go_wp2
  clear em
  go_loopw [10, 11] (fun vi vj wr => ∃ (i j : Nat), vi = .int .i64 (i : Int) ∧ vj = .int .i64 (j : Int) ∧ Hid (One1 (fun x y => decide (cf x y < 0)) l a b i j) ∧ Below w.heap.size w wr) (fun vi vj _ => (intOf vj - intOf vi).toNat)
  case atStart => exact ⟨m, b, rfl, rfl, by rw [← HM.out]; exact Lib.hid (One1.start l (by have := HM.out; omega)), Below.refl _ _⟩
  case round =>
    obtain ⟨i, j, rfl, rfl, ho, hbl⟩ := hrel
    have HB := Lib.hid hbl; clear hbl
    have hi1 := ho.out.b1; have hi2 := ho.out.b2; have hi3 := ho.out.b3
    by_cases hlt : i < j
    · have hz : (i : Int) < (j : Int) := by omega
      obtain ⟨s, hs⟩ : ∃ s, i + j = s := ⟨_, rfl⟩
      obtain ⟨h, hh⟩ : ∃ h, s / 2 = h := ⟨_, rfl⟩
      have es : (i : Int) + (j : Int) = (s : Int) := by omega
      have eh : (s : Int) / 2 = (h : Int) := by omega
      have ks : s ≤ 2 * len := by omega
      have kh : i ≤ h ∧ h < j := by omega
      clear hs hh
      obtain ⟨y, hy⟩ : ∃ y, l[h]? = some y := ⟨_, List.getElem?_eq_getElem (by rw [HLEN.out]; omega)⟩
      obtain ⟨x, hx⟩ : ∃ x, l[a]? = some x := ⟨_, List.getElem?_eq_getElem (by rw [HLEN.out]; omega)⟩
      obtain ⟨cx, ex⟩ : ∃ cx, cx = E.enc x := ⟨_, rfl⟩
      obtain ⟨cy, ey⟩ : ∃ cy, cy = E.enc y := ⟨_, rfl⟩
      have hO := HO0.out.below HB.out
      have lx := OwnX.lds (P := P) hO a x hx cx ex
      have ly := OwnX.lds (P := P) hO h y hy cy ey
      have q1 := Lib.hid (fun d os => CC.out.qc wr d os y x cy cx ey ex)
      have UP := Lib.hid (fun hl => ho.out.up CC.out.ord HS.out kh.1 kh.2 hx hy (decide_eq_true hl))
      have DN := Lib.hid (fun hl => ho.out.down CC.out.ord HS.out kh.1 kh.2 hx hy (decide_eq_false hl))
      have ph : (h : Int) < (len : Int) := by omega
      have pa : (a : Int) < (len : Int) := by omega
      clear hO hx hy ex ey ho
      generalize cf y x = r at *
      by_cases hr : r < 0
      · have HN := Lib.hid (UP.out hr); clear UP DN
        go_wp2_with fail
        refine wp_region_quiet_below mixed (by kernel_rfl) ?_
        repeat (quiet_step (first | with_reducible exact q1.out _ _))
        refine wpQuiet_nil ?_
        intro w3 hw3
        have hb3 : Below wr.heap.size wr w3 := by obtain ⟨p, rfl⟩ := hw3; exact below_regrown _ _ _
        have HB3 := Lib.hid (below_tr HB.out hb3)
        clear hw3 hb3 lx ly
        go_wp2
        go_roundw
        case rel => exact ⟨h + 1, j, by go_num, rfl, HN, HB3.out⟩
        case measure => simp [intOf]; omega
      · have HN := Lib.hid (DN.out hr); clear UP DN
        go_wp2_with fail
        refine wp_region_quiet_below mixed (by kernel_rfl) ?_
        repeat (quiet_step (first | with_reducible exact q1.out _ _))
        refine wpQuiet_nil ?_
        intro w3 hw3
        have hb3 : Below wr.heap.size wr w3 := by obtain ⟨p, rfl⟩ := hw3; exact below_regrown _ _ _
        have HB3 := Lib.hid (below_tr HB.out hb3)
        clear hw3 hb3 lx ly
        go_wp2
        go_roundw
        case rel => exact ⟨i, h, rfl, rfl, HN, HB3.out⟩
        case measure => simp [intOf]; omega
    · have hz : ¬ (i : Int) < (j : Int) := by omega
      obtain rfl : i = j := by omega
      have DONE := Lib.hid (ho.out.done CC.out.ord (by rw [HLEN.out]; exact hb) HS.out)
      have OS := Lib.hid (HO0.out.below HB.out)
      have R0 := Lib.hid (rot0 l (show a ≤ a + 1 by omega) (show a + 1 ≤ l.length by rw [HLEN.out]; omega))
      clear ho
      go_wp2
      clear hz
      go_loopw [13] (fun vk wq => ∃ (k : Nat), vk = .int .i64 (k : Int) ∧ a ≤ k ∧ k + 1 ≤ i ∧ OwnX E wq base (.slice (some ⟨g, 0, none⟩) len c) (rotL a (a + 1) (k + 1) l) ∧ w.grownBy wq (some g)) (fun vk _ => i - (intOf vk).toNat)
      case atStart => exact ⟨a, rfl, Nat.le_refl _, by omega, by rw [R0.out]; exact OS.out, gb_below HB.out _⟩
      case round =>
        obtain ⟨k, rfl, hk1, hk2, hO, hg⟩ := hrel
        have em1 : (i : Int) - 1 = ((i - 1 : Nat) : Int) := by omega
        by_cases hlt : k < i - 1
        · have hz : (k : Int) < ((i - 1 : Nat) : Int) := by omega
          obtain ⟨d, hd⟩ : ∃ d, i - 1 = d := ⟨_, rfl⟩
          rw [hd] at em1 hz
          have hcl : (rotL a (a + 1) (k + 1) l).length = len := by rw [rotL_len l (by omega) (by omega) (by rw [HLEN.out]; omega), HLEN.out]
          obtain ⟨x, hx⟩ : ∃ x, (rotL a (a + 1) (k + 1) l)[k]? = some x := ⟨_, List.getElem?_eq_getElem (by rw [hcl]; omega)⟩
          obtain ⟨y, hy⟩ : ∃ y, (rotL a (a + 1) (k + 1) l)[k + 1]? = some y := ⟨_, List.getElem?_eq_getElem (by rw [hcl]; omega)⟩
          have hst := rot1_step hk1 (by rw [HLEN.out]; omega) hx hy
          have hO1 := OwnX.drew hO
          have lx := OwnX.ld (P := P) hO1 k x hx
          have ly := OwnX.ld (P := P) hO1 (k + 1) y hy
          obtain ⟨s1, hO2, hg2⟩ := OwnX.sto (P := P) hO1 k (by rw [hcl]; omega) y
          obtain ⟨s2, hO3, hg3⟩ := OwnX.sto (P := P) hO2 (k + 1) (by rw [List.length_set, hcl]; omega) x
          rw [hst] at hO3
          have hex : (E.enc x).length = E.size := E.len x
          have hey : (E.enc y).length = E.size := E.len y
          have OWN := Lib.hid hO3
          have GR := Lib.hid (show w.grownBy _ (some g) from World.grownBy.trans (World.grownBy.trans (World.grownBy.trans hg (gb_drew _ _)) hg2) hg3)
          have pb : (k : Int) + 1 < (len : Int) := by omega
          have qb : (0 : Int) ≤ (k : Int) + 1 := by omega
          have nb : ((k : Int) + 1).toNat = k + 1 := by omega
          have HD := Lib.hid hd
          clear hst hO3 hO2 hg3 hg2 hO1 hO hg hx hy hcl hd
          generalize E.enc x = cx at *
          generalize E.enc y = cy at *
          go_wp2_with fail
          go_big_region_o
          all_goals go_wp2
          go_roundw
          case rel => exact ⟨k + 1, by go_num, by omega, by have := HD.out; omega, OWN.out, GR.out⟩
          case measure => simp [intOf]; have := HD.out; omega
        · have hz : ¬ (k : Int) < ((i - 1 : Nat) : Int) := by omega
          obtain ⟨d, hd⟩ : ∃ d, i - 1 = d := ⟨_, rfl⟩
          rw [hd] at em1 hz
          have ki : k + 1 = i := by omega
          rw [ki] at hO
          have HO := Lib.hid hO; have HG := Lib.hid hg
          clear hO hg hd ki
          go_wp2
          refine bodyPost_ret (v := .tuple #[]) (by simp [results, Tryz.results131, go_sem]) rfl ⟨rfl, _, DONE.out, by rw [HLEN.out]; exact HO.out, HG.out⟩

set_option maxHeartbeats 4000000 in
theorem one2_gen (H : SoLay P E) {gf : Nat} {cf : α → α → Int} (C : SoCmp P E gf cf) (a m g c base : Nat) (l : List α) (w : World) (HO : OwnX E w base (.slice (some ⟨g, 0, none⟩) l.length c) l) (h1 : a + 1 < m) (hb : m + 1 ≤ l.length) (hl : l.length < 4611686018427387904) (hs : SrtOn (fun x y => decide (cf x y < 0)) l a m) :
    Calls P 131 #[.slice (some ⟨g, 0, none⟩) l.length c, .int .i64 a, .int .i64 m, .int .i64 ((m + 1 : Nat) : Int), .func (.func gf) #[] #[]] w (SwapPost E w base g c l (MG (fun x y => decide (cf x y < 0)) a (m + 1) l)) := by
  have mixed := H.mixed; have t0 := H.t0; have a0 := H.a0; have z0 := H.z0; have v0 := H.v0; have t3 := H.t3; have a3 := H.a3; have z3 := H.z3; have v3 := H.v3; have t4 := H.t4; have a4 := H.a4; have z4 := H.z4; have v4 := H.v4; have tS := H.tS; have aS := H.aS; have zS := H.zS; have vS := H.vS; have tf := H.tf; have af := H.af; have zf := H.zf; have vf := H.vf; have aE := H.aE; have zE := H.zE
  have tu := H.tu; have au := H.au; have zu := H.zu; have vu := H.vu
  have uS := run_underlying H.tS; have u3 := run_underlying H.t3; have uu := run_underlying H.tu
  have F3 := H.f3
  have eg := C.eg
  have HO0 := Lib.hid HO
  have CC := Lib.hid C
  obtain ⟨len, hlen⟩ : ∃ len, l.length = len := ⟨_, rfl⟩
  obtain ⟨b, hm⟩ : ∃ b, m + 1 = b := ⟨_, rfl⟩
  obtain ⟨df, hdf⟩ : ∃ df, m - a = df := ⟨_, rfl⟩
  have HS := Lib.hid hs
  rw [hlen] at hb hl HO0 ⊢
  rw [hm] at hb ⊢
  have HLEN := Lib.hid hlen
  have HM := Lib.hid hm
  have em : (b : Int) - (m : Int) = 1 := by omega
  have edf : (m : Int) - (a : Int) = (df : Int) := by omega
  have ndf : ((df : Int) == 1) = false := by simp; omega
  have EM := Lib.hid (And.intro em (And.intro edf ndf))
  clear HO hlen hs hm C em hdf edf ndf
  go_enter F3, Tryz.ntmps131
  obtain ⟨em, edf, ndf⟩ := EM.out
  go_wp2
  clear em edf ndf
  go_loopw [14, 15] (fun vi vj wr => ∃ (i j : Nat), vi = .int .i64 (i : Int) ∧ vj = .int .i64 (j : Int) ∧ Hid (One2 (fun x y => decide (cf x y < 0)) l a m i j) ∧ Below w.heap.size w wr) (fun vi vj _ => (intOf vj - intOf vi).toNat)
  case atStart => exact ⟨a, m, rfl, rfl, Lib.hid (One2.start l (by omega)), Below.refl _ _⟩
  case round =>
    obtain ⟨i, j, rfl, rfl, ho, hbl⟩ := hrel
    have HB := Lib.hid hbl; clear hbl
    have hi1 := ho.out.b1; have hi2 := ho.out.b2; have hi3 := ho.out.b3
    have hmb : m < b := by have := HM.out; omega
    by_cases hlt : i < j
    · have hz : (i : Int) < (j : Int) := by omega
      obtain ⟨s, hs⟩ : ∃ s, i + j = s := ⟨_, rfl⟩
      obtain ⟨h, hh⟩ : ∃ h, s / 2 = h := ⟨_, rfl⟩
      have es : (i : Int) + (j : Int) = (s : Int) := by omega
      have eh : (s : Int) / 2 = (h : Int) := by omega
      have ks : s ≤ 2 * len := by omega
      have kh : i ≤ h ∧ h < j := by omega
      clear hs hh
      obtain ⟨y, hy⟩ : ∃ y, l[m]? = some y := ⟨_, List.getElem?_eq_getElem (by rw [HLEN.out]; omega)⟩
      obtain ⟨x, hx⟩ : ∃ x, l[h]? = some x := ⟨_, List.getElem?_eq_getElem (by rw [HLEN.out]; omega)⟩
      obtain ⟨cx, ex⟩ : ∃ cx, cx = E.enc x := ⟨_, rfl⟩
      obtain ⟨cy, ey⟩ : ∃ cy, cy = E.enc y := ⟨_, rfl⟩
      have hO := HO0.out.below HB.out
      have lx := OwnX.lds (P := P) hO h x hx cx ex
      have ly := OwnX.lds (P := P) hO m y hy cy ey
      have q1 := Lib.hid (fun d os => CC.out.qc wr d os y x cy cx ey ex)
      have DN := Lib.hid (fun hl => ho.out.down CC.out.ord HS.out kh.1 kh.2 hx hy (decide_eq_true hl))
      have UP := Lib.hid (fun hl => ho.out.up CC.out.ord HS.out kh.1 kh.2 hx hy (decide_eq_false hl))
      have ph : (h : Int) < (len : Int) := by omega
      have pa : (m : Int) < (len : Int) := by omega
      clear hO hx hy ex ey ho
      generalize cf y x = r at *
      by_cases hr : r < 0
      · have HN := Lib.hid (DN.out hr); clear UP DN
        go_wp2_with fail
        refine wp_region_quiet_below mixed (by kernel_rfl) ?_
        repeat (quiet_step (first | with_reducible exact q1.out _ _))
        refine wpQuiet_nil ?_
        intro w3 hw3
        have hb3 : Below wr.heap.size wr w3 := by obtain ⟨p, rfl⟩ := hw3; exact below_regrown _ _ _
        have HB3 := Lib.hid (below_tr HB.out hb3)
        clear hw3 hb3 lx ly
        go_wp2
        go_roundw
        case rel => exact ⟨i, h, rfl, rfl, HN, HB3.out⟩
        case measure => simp [intOf]; omega
      · have HN := Lib.hid (UP.out hr); clear UP DN
        have hb1 : decide (r < 0) = false := decide_eq_false hr
        go_wp2_with fail
        refine wp_region_quiet_below mixed (by kernel_rfl) ?_
        repeat (quiet_step (first | with_reducible exact q1.out _ _))
        refine wpQuiet_nil ?_
        intro w3 hw3
        have hb3 : Below wr.heap.size wr w3 := by obtain ⟨p, rfl⟩ := hw3; exact below_regrown _ _ _
        have HB3 := Lib.hid (below_tr HB.out hb3)
        clear hw3 hb3 lx ly
        go_wp2
        go_roundw
        case rel => exact ⟨h + 1, j, by go_num, rfl, HN, HB3.out⟩
        case measure => simp [intOf]; omega
    · have hz : ¬ (i : Int) < (j : Int) := by omega
      obtain rfl : i = j := by omega
      have DONE := Lib.hid (ho.out.done CC.out.ord (by rw [HLEN.out, HM.out]; exact hb) HS.out)
      rw [HM.out] at DONE
      have OS := Lib.hid (HO0.out.below HB.out)
      have R0 := Lib.hid (rotL_none l (show m ≤ m by omega) (show m ≤ m + 1 by omega) (show m + 1 ≤ l.length by rw [HLEN.out, HM.out]; omega) (by omega))
      clear ho
      go_wp2
      clear hz
      go_loopw [17] (fun vk wq => ∃ (k : Nat), vk = .int .i64 (k : Int) ∧ i ≤ k ∧ k ≤ m ∧ OwnX E wq base (.slice (some ⟨g, 0, none⟩) len c) (rotL k m (m + 1) l) ∧ w.grownBy wq (some g)) (fun vk _ => (intOf vk).toNat)
      case atStart => exact ⟨m, rfl, hi3, Nat.le_refl _, by rw [R0.out]; exact OS.out, gb_below HB.out _⟩
      case round =>
        obtain ⟨k1, rfl, hk1, hk2, hO, hg⟩ := hrel
        by_cases hlt : i < k1
        · obtain ⟨k, rfl⟩ : ∃ k, k1 = k + 1 := ⟨k1 - 1, by omega⟩
          have hz : (i : Int) < ((k + 1 : Nat) : Int) := by omega
          have hml : m < l.length := by rw [HLEN.out]; omega
          have hcl : (rotL (k + 1) m (m + 1) l).length = len := by rw [rotL_len l (by omega) (by omega) (by omega), HLEN.out]
          obtain ⟨x, hx⟩ : ∃ x, (rotL (k + 1) m (m + 1) l)[k + 1]? = some x := ⟨_, List.getElem?_eq_getElem (by rw [hcl]; omega)⟩
          obtain ⟨y, hy⟩ : ∃ y, (rotL (k + 1) m (m + 1) l)[k]? = some y := ⟨_, List.getElem?_eq_getElem (by rw [hcl]; omega)⟩
          have hst := rot2_step (by omega) hml hx hy
          have hO1 := OwnX.drew hO
          have lx := OwnX.ld (P := P) hO1 (k + 1) x hx
          have ly := OwnX.ld (P := P) hO1 k y hy
          obtain ⟨s1, hO2, hg2⟩ := OwnX.sto (P := P) hO1 (k + 1) (by rw [hcl]; omega) y
          obtain ⟨s2, hO3, hg3⟩ := OwnX.sto (P := P) hO2 k (by rw [List.length_set, hcl]; omega) x
          rw [hst] at hO3
          have hex : (E.enc x).length = E.size := E.len x
          have hey : (E.enc y).length = E.size := E.len y
          have OWN := Lib.hid hO3
          have GR := Lib.hid (show w.grownBy _ (some g) from World.grownBy.trans (World.grownBy.trans (World.grownBy.trans hg (gb_drew _ _)) hg2) hg3)
          obtain ⟨q, hq⟩ : ∃ q, k + 1 = q := ⟨_, rfl⟩
          have eq1 : (q : Int) - 1 = (k : Int) := by omega
          have pb : (q : Int) < (len : Int) := by omega
          have pk : (k : Int) < (len : Int) := by omega
          have q1 : 1 ≤ q := by omega
          rw [hq] at lx s1 s2 OWN GR hz hk1 hk2 ⊢
          have HQ := Lib.hid hq
          clear hst hO3 hO2 hg3 hg2 hO1 hO hg hx hy hcl hq
          generalize E.enc x = cx at *
          generalize E.enc y = cy at *
          go_wp2_with fail
          go_big_region_o
          all_goals go_wp2
          go_roundw
          case rel => exact ⟨k, by first | rfl | go_num, by have := HQ.out; omega, by have := HQ.out; omega, OWN.out, GR.out⟩
          case measure => simp [intOf]; have := HQ.out; omega
        · have hz : ¬ (i : Int) < (k1 : Int) := by omega
          obtain rfl : k1 = i := by omega
          have HO := Lib.hid hO; have HG := Lib.hid hg
          clear hO hg
          go_wp2
          refine bodyPost_ret (v := .tuple #[]) (by simp [results, Tryz.results131, go_sem]) rfl ⟨rfl, _, DONE.out, by rw [HLEN.out, ← HM.out]; exact HO.out, HG.out⟩
end
end Go.Proofs.YtplghaoflmaadaaGreatDoor
end

section
set_option linter.unusedVariables false
set_option linter.unusedSimpArgs false
set_option maxRecDepth 1000000
namespace Go.Proofs.YtplghaoflmaadaaGreatDoor
open Go.RowKit Go.Sort Go.Lib

section
variable {P : Program} {α : Type} {E : El α}
def SymIH (P : Program) (E : El α) (gf : Nat) (cf : α → α → Int) (N : Nat) : Prop := ∀ (a m b g c base : Nat) (l : List α) (w : World), b - a ≤ N → OwnX E w base (.slice (some ⟨g, 0, none⟩) l.length c) l → a < m → m < b → b ≤ l.length → l.length < 4611686018427387904 →
  SrtOn (fun x y => decide (cf x y < 0)) l a m → SrtOn (fun x y => decide (cf x y < 0)) l m b →
  Calls P 131 #[.slice (some ⟨g, 0, none⟩) l.length c, .int .i64 a, .int .i64 m, .int .i64 b, .func (.func gf) #[] #[]] w (SwapPost E w base g c l (MG (fun x y => decide (cf x y < 0)) a b l))

set_option maxHeartbeats 4000000 in
theorem symN_gen (H : SoLay P E) {gf : Nat} {cf : α → α → Int} (C : SoCmp P E gf cf) (a m b g c base N : Nat) (l : List α) (w : World) (IH : SymIH P E gf cf N) (hN : b - a ≤ N + 1) (HO : OwnX E w base (.slice (some ⟨g, 0, none⟩) l.length c) l) (h1 : a + 1 < m) (h2 : m + 1 < b) (hb : b ≤ l.length) (hl : l.length < 4611686018427387904)
    (hA : SrtOn (fun x y => decide (cf x y < 0)) l a m) (hB : SrtOn (fun x y => decide (cf x y < 0)) l m b) :
    Calls P 131 #[.slice (some ⟨g, 0, none⟩) l.length c, .int .i64 a, .int .i64 m, .int .i64 b, .func (.func gf) #[] #[]] w (SwapPost E w base g c l (MG (fun x y => decide (cf x y < 0)) a b l)) := by
  have mixed := H.mixed; have t0 := H.t0; have a0 := H.a0; have z0 := H.z0; have v0 := H.v0; have t3 := H.t3; have a3 := H.a3; have z3 := H.z3; have v3 := H.v3; have t4 := H.t4; have a4 := H.a4; have z4 := H.z4; have v4 := H.v4; have tS := H.tS; have aS := H.aS; have zS := H.zS; have vS := H.vS; have tf := H.tf; have af := H.af; have zf := H.zf; have vf := H.vf; have aE := H.aE; have zE := H.zE
  have tu := H.tu; have au := H.au; have zu := H.zu; have vu := H.vu
  have uS := run_underlying H.tS; have u3 := run_underlying H.t3; have uu := run_underlying H.tu
  have F3 := H.f3
  have eg := C.eg
  have eg2 : ∀ args w, (callFunc 149 args).run P w = .ok (.enter 149 args) w := enters_of H.f2 (by kernel_rfl) rfl
  have eg3 : ∀ args w, (callFunc 131 args).run P w = .ok (.enter 131 args) w := enters_of H.f3 (by kernel_rfl) rfl
  have HO0 := Lib.hid HO
  have CC := Lib.hid C
  have IH' := Lib.hid IH
  have ROT := Lib.hid (fun (s e : Nat) (W : World) (hO : OwnX E W base (.slice (some ⟨g, 0, none⟩) l.length c) l) (x1 : s < m) (x2 : m < e) (x3 : e ≤ l.length) => rot_gen H s m e g c base l W (.func (.func gf) #[] #[]) hO x1 x2 x3 hl)
  obtain ⟨len, hlen⟩ : ∃ len, l.length = len := ⟨_, rfl⟩
  have HA := Lib.hid hA; have HB' := Lib.hid hB
  rw [hlen] at hb hl HO0 ROT ⊢
  have HLEN := Lib.hid hlen
  obtain ⟨d1, hd1⟩ : ∃ d1, m - a = d1 := ⟨_, rfl⟩
  obtain ⟨d2, hd2⟩ : ∃ d2, b - m = d2 := ⟨_, rfl⟩
  have e1 : (m : Int) - (a : Int) = (d1 : Int) := by omega
  have e2 : (b : Int) - (m : Int) = (d2 : Int) := by omega
  have n1 : ((d1 : Int) == 1) = false := by simp; omega
  have n2 : ((d2 : Int) == 1) = false := by simp; omega
  obtain ⟨ab, hab⟩ : ∃ ab, a + b = ab := ⟨_, rfl⟩
  obtain ⟨mid, hmid⟩ : ∃ mid, ab / 2 = mid := ⟨_, rfl⟩
  obtain ⟨n, hn⟩ : ∃ n, mid + m = n := ⟨_, rfl⟩
  obtain ⟨p, hp⟩ : ∃ p, n - 1 = p := ⟨_, rfl⟩
  have e3 : (a : Int) + (b : Int) = (ab : Int) := by omega
  have e4 : (ab : Int) / 2 = (mid : Int) := by omega
  have e5 : (mid : Int) + (m : Int) = (n : Int) := by omega
  have e6 : (n : Int) - 1 = (p : Int) := by omega
  have hm1 : a < mid := by omega
  have hm2 : mid < b := by omega
  have hm3 : mid = (a + b) / 2 := by omega
  have bab : ab ≤ 2 * len := by omega
  have bn : n ≤ 2 * len := by omega
  have bn1 : 1 ≤ n := by omega
  have HM := Lib.hid (And.intro hm3 (And.intro hn hp))
  have FA := Lib.hid (And.intro e1 (And.intro e2 (And.intro n1 (And.intro n2 (And.intro e3 (And.intro e4 (And.intro e5 e6)))))))
  obtain ⟨s0, r0, h0⟩ : ∃ s0 r0, (mid < m ∧ s0 = mid + m - b ∧ r0 = mid) ∨ (m ≤ mid ∧ s0 = a ∧ r0 = m) := by
    rcases Nat.lt_or_ge mid m with h | h
    · exact ⟨_, _, .inl ⟨h, rfl, rfl⟩⟩
    · exact ⟨_, _, .inr ⟨h, rfl, rfl⟩⟩
  have H0 := Lib.hid h0
  have sa : a ≤ s0 := by omega
  have sr : s0 ≤ r0 := by omega
  have rm : r0 ≤ m := by omega
  have rmid : r0 ≤ mid := by omega
  have sp : p < b + s0 := by omega
  have rp : m + r0 ≤ p + 1 := by omega
  clear HO hlen hA hB C IH hd1 hd2 hab hmid hn hp e1 e2 n1 n2 e3 e4 e5 e6 hm3 h0
  go_enter F3, Tryz.ntmps131
  obtain ⟨e1, e2, n1, n2, e3, e4, e5, e6⟩ := FA.out
  go_upto_if 140 with (fail)
  clear e1 e2 n1 n2 e3 e4 e5
  go_cut [20, 21] (fun s20 s21 wx => s20 = .int .i64 (s0 : Int) ∧ s21 = .int .i64 (r0 : Int) ∧ w = wx)
  case first =>
    rcases Nat.lt_or_ge mid m with hc | hc
    · have hz : (mid : Int) < (m : Int) := by omega
      have es : (n : Int) - (b : Int) = (s0 : Int) := by have := H0.out; have := HM.out; omega
      obtain rfl : r0 = mid := by have := H0.out; omega
      go_wp2_with fail
      go_meet
      case rel => exact ⟨rfl, rfl, rfl⟩
    · have hz : ¬ (mid : Int) < (m : Int) := by omega
      obtain rfl : s0 = a := by have := H0.out; omega
      obtain rfl : r0 = m := by have := H0.out; omega
      go_wp2_with fail
      go_meet
      case rel => exact ⟨rfl, rfl, rfl⟩
  case rest =>
    obtain ⟨rfl, rfl, rfl⟩ := hcut
    go_wp2
    clear e6
    go_loopw [20, 21] (fun vi vj wr => ∃ (i j : Nat), vi = .int .i64 (i : Int) ∧ vj = .int .i64 (j : Int) ∧ Hid (SymSt (fun x y => decide (cf x y < 0)) l p s0 r0 i j) ∧ Below w.heap.size w wr) (fun vi vj _ => (intOf vj - intOf vi).toNat)
    case atStart => exact ⟨s0, r0, rfl, rfl, Lib.hid ⟨Nat.le_refl _, sr, Nat.le_refl _, fun _ _ _ _ _ => by omega, fun _ _ _ _ _ => by omega⟩, Below.refl _ _⟩
    case round =>
      obtain ⟨i, j, rfl, rfl, ho, hbl⟩ := hrel
      have HB := Lib.hid hbl; clear hbl
      have hi1 := ho.out.b1; have hi2 := ho.out.b2; have hi3 := ho.out.b3
      by_cases hlt : i < j
      · have hz : (i : Int) < (j : Int) := by omega
        obtain ⟨s, hs⟩ : ∃ s, i + j = s := ⟨_, rfl⟩
        obtain ⟨h, hh⟩ : ∃ h, s / 2 = h := ⟨_, rfl⟩
        obtain ⟨q, hq⟩ : ∃ q, p - h = q := ⟨_, rfl⟩
        have es : (i : Int) + (j : Int) = (s : Int) := by omega
        have eh : (s : Int) / 2 = (h : Int) := by omega
        have eq : (p : Int) - (h : Int) = (q : Int) := by omega
        have ew : IntKind.i64.wrap ((p : Int) - (h : Int)) = (q : Int) := by rw [IntKind.wrap_i64]; omega
        have ks : s ≤ 2 * len := by omega
        have kh : i ≤ h ∧ h < j := by omega
        have kq : q < len := by omega
        have ew2 : IntKind.i64.wrap (q : Int) = (q : Int) := by rw [IntKind.wrap_i64]; omega
        clear hs hh
        obtain ⟨y, hy⟩ : ∃ y, l[q]? = some y := ⟨_, List.getElem?_eq_getElem (by rw [HLEN.out]; omega)⟩
        obtain ⟨x, hx⟩ : ∃ x, l[h]? = some x := ⟨_, List.getElem?_eq_getElem (by rw [HLEN.out]; omega)⟩
        obtain ⟨cx, ex⟩ : ∃ cx, cx = E.enc x := ⟨_, rfl⟩
        obtain ⟨cy, ey⟩ : ∃ cy, cy = E.enc y := ⟨_, rfl⟩
        have hO := HO0.out.below HB.out
        have lx := OwnX.lds (P := P) hO h x hx cx ex
        have ly := OwnX.lds (P := P) hO q y hy cy ey
        have q1 := Lib.hid (fun d os => CC.out.qc wr d os y x cy cx ey ex)
        have DN := Lib.hid (fun hl => ho.out.down CC.out.ord HA.out HB'.out sa rm rp sp kh.1 kh.2 hx (by rw [hq]; exact hy) (decide_eq_true hl))
        have UP := Lib.hid (fun hl => ho.out.up CC.out.ord HA.out HB'.out sa rm rp sp kh.1 kh.2 hx (by rw [hq]; exact hy) (decide_eq_false hl))
        have ph : (h : Int) < (len : Int) := by omega
        have pa : (q : Int) < (len : Int) := by omega
        clear hO hx hy ex ey ho hq
        generalize cf y x = r at *
        by_cases hr : r < 0
        · have HN := Lib.hid (DN.out hr); clear UP DN
          have hb1 : decide (r < 0) = true := decide_eq_true hr
          go_wp2_with fail
          refine wp_region_quiet_below mixed (by kernel_rfl) ?_
          repeat (quiet_step (first | with_reducible exact q1.out _ _))
          refine wpQuiet_nil ?_
          intro w3 hw3
          have hb3 : Below wr.heap.size wr w3 := by obtain ⟨p, rfl⟩ := hw3; exact below_regrown _ _ _
          have HB3 := Lib.hid (below_tr HB.out hb3)
          clear hw3 hb3 lx ly
          go_wp2
          go_roundw
          case rel => exact ⟨i, h, rfl, rfl, HN, HB3.out⟩
          case measure => simp [intOf]; omega
        · have HN := Lib.hid (UP.out hr); clear UP DN
          have hb1 : decide (r < 0) = false := decide_eq_false hr
          go_wp2_with fail
          refine wp_region_quiet_below mixed (by kernel_rfl) ?_
          repeat (quiet_step (first | with_reducible exact q1.out _ _))
          refine wpQuiet_nil ?_
          intro w3 hw3
          have hb3 : Below wr.heap.size wr w3 := by obtain ⟨p, rfl⟩ := hw3; exact below_regrown _ _ _
          have HB3 := Lib.hid (below_tr HB.out hb3)
          clear hw3 hb3 lx ly
          go_wp2
          go_roundw
          case rel => exact ⟨h + 1, j, by go_num, rfl, HN, HB3.out⟩
          case measure => simp [intOf]; omega
      · have hz : ¬ (i : Int) < (j : Int) := by omega
        obtain rfl : i = j := by omega
        obtain ⟨e, he⟩ : ∃ e, mid + m - i = e := ⟨_, rfl⟩
        have PT := Lib.hid (SymSt.done CC.out.ord HA.out HB'.out (show a < m by omega) (show m < b by omega) (by rw [HLEN.out]; exact hb) HM.out.1 H0.out (by rw [show mid + m - 1 = p by have := HM.out; omega]; exact ho.out))
        rw [he] at PT
        have g1 := PT.out.as; have g2 := PT.out.sm; have g3 := PT.out.me; have g4 := PT.out.eb
        have hme : i + (e - m) = mid := by omega
        have hmide : mid ≤ e := by omega
        have himid : i ≤ mid := by omega
        have ee : (n : Int) - (i : Int) = (e : Int) := by have := HM.out; omega
        have OS := Lib.hid (HO0.out.below HB.out)
        have GS := Lib.hid (show w.grownBy wr (some g) from gb_below HB.out _)
        have bl : b ≤ l.length := by rw [HLEN.out]; exact hb
        have L1 := Lib.hid (PT.out.len bl)
        have S1 := Lib.hid (PT.out.s1 bl HA.out); have S2 := Lib.hid (PT.out.s2 bl HB'.out); have S3 := Lib.hid (PT.out.s3 bl HA.out); have S4 := Lib.hid (PT.out.s4 bl HB'.out)
        have NO := Lib.hid (fun h => rotL_none l g2 g3 (Nat.le_trans g4 bl) h)
        have DONE := Lib.hid (fun l2 l3 => PT.out.done (l2 := l2) (l3 := l3) CC.out.ord bl HA.out HB'.out)
        rw [hme] at S2 S3 DONE
        rw [HLEN.out] at L1
        obtain ⟨R, hR⟩ : ∃ R, rotL i m e l = R := ⟨_, rfl⟩
        have RT := Lib.hid (fun x1 x2 => ROT.out i e wr OS.out x1 x2 (by omega))
        rw [hR] at L1 S1 S2 S3 S4 NO DONE RT
        have HME := Lib.hid hme; have BL := Lib.hid bl
        clear ho hR he PT hme bl
        go_upto_region 39 with (fail)
        clear ee hz
        obtain ⟨b1, hb1⟩ : ∃ b1, decide (i < m ∧ m < e) = b1 := ⟨_, rfl⟩
        go_cut [185] (fun s185 wx => s185 = .bool b1 ∧ wr = wx)
        case first =>
          as_aux_lemma =>
            by_cases q1 : i < m
            · have z1 : (i : Int) < (m : Int) := by omega
              by_cases q2 : m < e
              · have z2 : (m : Int) < (e : Int) := by omega
                obtain rfl : b1 = true := by rw [← hb1]; exact decide_eq_true ⟨q1, q2⟩
                go_wp2_with fail
                go_meet
                case rel => exact ⟨rfl, rfl⟩
              · have z2 : ¬ (m : Int) < (e : Int) := by omega
                obtain rfl : b1 = false := by rw [← hb1]; exact decide_eq_false (fun h => q2 h.2)
                go_wp2_with fail
                go_meet
                case rel => exact ⟨rfl, rfl⟩
            · have z1 : ¬ (i : Int) < (m : Int) := by omega
              obtain rfl : b1 = false := by rw [← hb1]; exact decide_eq_false (fun h => q1 h.1)
              go_wp2_with fail
              go_meet
              case rel => exact ⟨rfl, rfl⟩
        case rest =>
          as_aux_lemma =>
            obtain ⟨rfl, rfl⟩ := hcut
            go_upto_if 185 with (fail)
            go_cut [] (fun wx => OwnX E wx base (.slice (some ⟨g, 0, none⟩) len c) R ∧ w.grownBy wx (some g))
            case first =>
              as_aux_lemma =>
                cases b1 with
                | true =>
                  obtain ⟨q1, q2⟩ := of_decide_eq_true hb1
                  have CR := Lib.hid (RT.out q1 q2)
                  go_wp2_with fail
                  refine CR.out.mono ?_
                  rintro e1 w1 ⟨rfl, l1, rfl, x2, x3⟩
                  go_wp2_with fail
                  go_meet
                  case rel => exact ⟨by rw [HLEN.out] at x2; exact x2, GS.out.trans x3⟩
                | false =>
                  have hno := NO.out (of_decide_eq_false hb1)
                  go_wp2_with fail
                  go_meet
                  case rel => exact ⟨by rw [hno]; exact OS.out, GS.out⟩
            case rest =>
              as_aux_lemma =>
                obtain ⟨hO, hg⟩ := hcut
                have OR := Lib.hid hO; have GR := Lib.hid hg
                clear hO hg NO RT hb1 OS GS HB'
                have NO2 := Lib.hid (fun (h : ¬ (a < i ∧ i < mid)) => show MG (fun x y => decide (cf x y < 0)) a mid R R from MG.same (by
                  rcases (by omega : i = a ∨ i = mid) with h | h
                  · rw [← h]; exact S2.out
                  · rw [← h]; exact S1.out))
                have C2 := Lib.hid (fun x1 x2 => IH'.out a i mid g c base R wc (by omega) (by rw [L1.out]; exact OR.out) x1 x2 (by rw [L1.out]; omega) (by rw [L1.out]; exact hl) S1.out S2.out)
                rw [L1.out] at C2
                obtain ⟨b2, hb2⟩ : ∃ b2, decide (a < i ∧ i < mid) = b2 := ⟨_, rfl⟩
                go_upto_region 41 with (fail)
                go_cut [199] (fun s199 wx => s199 = .bool b2 ∧ wc = wx)
                case first =>
                  as_aux_lemma =>
                    by_cases q1 : a < i
                    · have z1 : (a : Int) < (i : Int) := by omega
                      by_cases q2 : i < mid
                      · have z2 : (i : Int) < (mid : Int) := by omega
                        obtain rfl : b2 = true := by rw [← hb2]; exact decide_eq_true ⟨q1, q2⟩
                        go_wp2_with fail
                        go_meet
                        case rel => exact ⟨rfl, rfl⟩
                      · have z2 : ¬ (i : Int) < (mid : Int) := by omega
                        obtain rfl : b2 = false := by rw [← hb2]; exact decide_eq_false (fun h => q2 h.2)
                        go_wp2_with fail
                        go_meet
                        case rel => exact ⟨rfl, rfl⟩
                    · have z1 : ¬ (a : Int) < (i : Int) := by omega
                      obtain rfl : b2 = false := by rw [← hb2]; exact decide_eq_false (fun h => q1 h.1)
                      go_wp2_with fail
                      go_meet
                      case rel => exact ⟨rfl, rfl⟩
                case rest =>
                  as_aux_lemma =>
                    obtain ⟨rfl, rfl⟩ := hcut
                    go_upto_if 199 with (fail)
                    go_cut [] (fun wx => ∃ l2, Hid (MG (fun x y => decide (cf x y < 0)) a mid R l2) ∧ OwnX E wx base (.slice (some ⟨g, 0, none⟩) len c) l2 ∧ w.grownBy wx (some g))
                    case first =>
                      as_aux_lemma =>
                        cases b2 with
                        | true =>
                          obtain ⟨q1, q2⟩ := of_decide_eq_true hb2
                          have CR := Lib.hid (C2.out q1 q2)
                          go_wp2_with fail
                          refine CR.out.mono ?_
                          rintro e1 w1 ⟨rfl, l2, x1, x2, x3⟩
                          have X1 := Lib.hid x1
                          clear x1
                          go_wp2_with fail
                          go_meet
                          case rel => exact ⟨l2, X1, by rw [L1.out] at x2; exact x2, GR.out.trans x3⟩
                        | false =>
                          have X1 := Lib.hid (NO2.out (of_decide_eq_false hb2))
                          go_wp2_with fail
                          go_meet
                          case rel => exact ⟨R, X1, OR.out, GR.out⟩
                    case rest =>
                      as_aux_lemma =>
                        obtain ⟨l2, M2, hO, hg⟩ := hcut
                        have O2 := Lib.hid hO; have G2 := Lib.hid hg
                        have L2 := Lib.hid (M2.out.len.trans L1.out)
                        have T3 := Lib.hid (S3.out.same fun k k1 k2 => M2.out.out k (.inr k1))
                        have T4 := Lib.hid (S4.out.same fun k k1 k2 => M2.out.out k (.inr (by omega)))
                        clear hO hg NO2 C2 hb2 S1 S2 S3 S4
                        have NO3 := Lib.hid (fun (h : ¬ (mid < e ∧ e < b)) => show MG (fun x y => decide (cf x y < 0)) mid b l2 l2 from MG.same (by
                          rcases (by omega : e = mid ∨ e = b) with h | h
                          · rw [← h]; exact T4.out
                          · rw [← h]; exact T3.out))
                        have C3 := Lib.hid (fun x1 x2 => IH'.out mid e b g c base l2 wc (by omega) (by rw [L2.out]; exact O2.out) x1 x2 (by rw [L2.out]; omega) (by rw [L2.out]; exact hl) T3.out T4.out)
                        rw [L2.out] at C3
                        obtain ⟨b3, hb3⟩ : ∃ b3, decide (mid < e ∧ e < b) = b3 := ⟨_, rfl⟩
                        go_upto_region 43 with (fail)
                        go_cut [213] (fun s213 wx => s213 = .bool b3 ∧ wc = wx)
                        case first =>
                          as_aux_lemma =>
                            by_cases q1 : mid < e
                            · have z1 : (mid : Int) < (e : Int) := by omega
                              by_cases q2 : e < b
                              · have z2 : (e : Int) < (b : Int) := by omega
                                obtain rfl : b3 = true := by rw [← hb3]; exact decide_eq_true ⟨q1, q2⟩
                                go_wp2_with fail
                                go_meet
                                case rel => exact ⟨rfl, rfl⟩
                              · have z2 : ¬ (e : Int) < (b : Int) := by omega
                                obtain rfl : b3 = false := by rw [← hb3]; exact decide_eq_false (fun h => q2 h.2)
                                go_wp2_with fail
                                go_meet
                                case rel => exact ⟨rfl, rfl⟩
                            · have z1 : ¬ (mid : Int) < (e : Int) := by omega
                              obtain rfl : b3 = false := by rw [← hb3]; exact decide_eq_false (fun h => q1 h.1)
                              go_wp2_with fail
                              go_meet
                              case rel => exact ⟨rfl, rfl⟩
                        case rest =>
                          as_aux_lemma =>
                            obtain ⟨rfl, rfl⟩ := hcut
                            cases b3 with
                            | true =>
                              obtain ⟨q1, q2⟩ := of_decide_eq_true hb3
                              have CR := Lib.hid (C3.out q1 q2)
                              clear hb3
                              go_wp2_with fail
                              refine CR.out.mono ?_
                              rintro e1 w1 ⟨rfl, l3, x1, x2, x3⟩
                              have X1 := Lib.hid (DONE.out l2 l3 M2.out x1)
                              clear x1
                              go_wp2
                              refine bodyPost_end (v := .tuple #[]) (by simp [results, Tryz.results131, go_sem]) rfl ⟨rfl, l3, X1.out, by rw [L2.out] at x2; rw [HLEN.out]; exact x2, G2.out.trans x3⟩
                            | false =>
                              have X1 := Lib.hid (DONE.out l2 l2 M2.out (NO3.out (of_decide_eq_false hb3)))
                              clear hb3
                              go_wp2
                              refine bodyPost_end (v := .tuple #[]) (by simp [results, Tryz.results131, go_sem]) rfl ⟨rfl, l2, X1.out, by rw [HLEN.out]; exact O2.out, G2.out⟩

theorem sym_gen (H : SoLay P E) {gf : Nat} {cf : α → α → Int} (C : SoCmp P E gf cf) : ∀ N, SymIH P E gf cf N
  | 0 => fun a m b g c base l w hN _ h1 h2 => by omega
  | N + 1 => fun a m b g c base l w hN HO h1 h2 hb hl hA hB => by
    by_cases c1 : a + 1 = m
    · subst c1
      exact one1_gen H C a b g c base l w HO h2 hb hl hB
    · by_cases c2 : m + 1 = b
      · subst c2
        exact one2_gen H C a m g c base l w HO (by omega) hb hl hA
      · exact symN_gen H C a m b g c base N l w (sym_gen H C N) hN HO (by omega) (by omega) hb hl hA hB
end
end Go.Proofs.YtplghaoflmaadaaGreatDoor
end
