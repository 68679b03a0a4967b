/- Contracts of the library's swapRangeCmpFunc and rotateCmpFunc at cells, over any program that has their bodies. Conditions: the parts lie apart, within the slice. -/
import Derived.Test.YtmjeifbadjdnfaaDoorSt
import Derived.Test.YtmjeifbadjdnfaaDoorSo
import Derived.Shelf.SlSortCmp.InsertionK
set_option linter.unusedVariables false
set_option linter.unusedSimpArgs false
set_option maxRecDepth 1000000
namespace Go.Proofs.YtmjeifbadjdnfaaDoor
open Go.RowKit Go.Sort

/-- what a program must have: the bodies of the library's stable sort, the types that they name; elements of E.size cells. -/
structure SoLay (P : Program) {α : Type} (E : El α) : Prop where
  mixed : P.follows .mixedOrders = true
  f1 : P.funcs[153]? = some Tryd.f153
  f2 : P.funcs[144]? = some Tryd.f144
  f3 : P.funcs[133]? = some Tryd.f133
  f4 : P.funcs[132]? = some Tryd.f132
  t0 : P.underlying 0 = some (TypeDesc.tuple #[])
  a0 : ∀ w, (isAgg 0).run P w = .ok false w
  z0 : ∀ w, (Go.sizeOf 0).run P w = .ok 1 w
  v0 : ∀ w, (zeroValue 0).run P w = .ok (Value.tuple #[]) w
  t3 : P.underlying 3 = some (TypeDesc.int IntKind.i64)
  a3 : ∀ w, (isAgg 3).run P w = .ok false w
  z3 : ∀ w, (Go.sizeOf 3).run P w = .ok 1 w
  v3 : ∀ w, (zeroValue 3).run P w = .ok (Value.int IntKind.i64 0) w
  tu : P.underlying 72 = some (TypeDesc.int IntKind.u64)
  au : ∀ w, (isAgg 72).run P w = .ok false w
  zu : ∀ w, (Go.sizeOf 72).run P w = .ok 1 w
  vu : ∀ w, (zeroValue 72).run P w = .ok (Value.int IntKind.u64 0) w
  t4 : P.underlying 4 = some (TypeDesc.bool)
  a4 : ∀ w, (isAgg 4).run P w = .ok false w
  z4 : ∀ w, (Go.sizeOf 4).run P w = .ok 1 w
  v4 : ∀ w, (zeroValue 4).run P w = .ok (Value.bool false) w
  tS : P.underlying 22 = some (TypeDesc.slice 35)
  aS : ∀ w, (isAgg 22).run P w = .ok false w
  zS : ∀ w, (Go.sizeOf 22).run P w = .ok 1 w
  vS : ∀ w, (zeroValue 22).run P w = .ok (Value.slice none 0 0) w
  tf : P.underlying 119 = some (TypeDesc.func #[35, 35] #[3] false)
  af : ∀ w, (isAgg 119).run P w = .ok false w
  zf : ∀ w, (Go.sizeOf 119).run P w = .ok 1 w
  vf : ∀ w, (zeroValue 119).run P w = .ok (Value.nilFunc) w
  aE : ∀ w, (isAgg 35).run P w = .ok true w
  zE : ∀ w, (Go.sizeOf 35).run P w = .ok E.size w

section
variable {P : Program} {α : Type} {E : El α}
theorem setW_cells (g : Nat) : ∀ (us : List Value) (w : World) (s : Nat), w.setCells g s us = setW g w s us
  | [], _, _ => rfl
  | _ :: us, w, s => setW_cells g us _ (s + 1)
/-- an element that is loaded -/
theorem OwnX.ld {w : World} {base g n c : Nat} {l : List α} (h : OwnX E w base (.slice (some ⟨g, 0, none⟩) n c) l) (i : Nat) (x : α) (hx : l[i]? = some x) : Sem.run P (loadCellsFrom ⟨g, i * E.size, none⟩ 0 E.size #[]) w = .ok (E.enc x).toArray w := by
  obtain ⟨hi, rfl⟩ := List.getElem?_eq_some_iff.1 hx
  refine run_loadCellsFrom_list P w ⟨g, i * E.size, none⟩ (E.enc l[i]) E.size (E.len _) fun j v hj => ?_
  have e : (⟨g, i * E.size, none⟩ : Addr).add j = ⟨g, i * E.size + j, none⟩ := by unfold Addr.add; split <;> simp_all
  rw [e]
  exact h.cell i j hi hj
/-- an element that is stored -/
theorem OwnX.sto {w : World} {base g n c : Nat} {l : List α} (h : OwnX E w base (.slice (some ⟨g, 0, none⟩) n c) l) (i : Nat) (hi : i < l.length) (x : α) :
    Sem.run P (storeCells ⟨g, i * E.size, none⟩ (E.enc x) 0) w = .ok () (w.setCells g (i * E.size) (E.enc x)) ∧ OwnX E (w.setCells g (i * E.size) (E.enc x)) base (.slice (some ⟨g, 0, none⟩) n c) (l.set i x) ∧ w.grownBy (w.setCells g (i * E.size) (E.enc x)) (some g) := by
  refine ⟨?_, ?_⟩
  · have := run_storeCells_cells (P := P) g (i * E.size) (E.enc x) 0 w (fun j hj => ?_) (fun j _ => by rw [Nat.add_zero]; exact h.frozen _) (E.one x)
    · rwa [Nat.add_zero] at this
    · rw [E.len] at hj
      rw [Nat.add_zero, h.cell i j hi (u := (E.enc l[i])[j]'(by rw [E.len]; exact hj)) (List.getElem?_eq_getElem _)]; rfl
  · rw [setW_cells]; exact h.put i hi x

theorem gb_drew (w : World) (r : Option Nat) : w.grownBy w.drew r := ⟨rfl, rfl, rfl, Nat.le_refl _, fun _ _ _ => rfl⟩
theorem wrap_nat {n : Nat} (h : n < 9223372036854775808) : IntKind.i64.wrap (n : Int) = (n : Int) := by rw [IntKind.wrap_i64]; omega

def SwapPost (E : El α) (w : World) (base g c : Nat) (l : List α) (R : List α → Prop) (e : Ending) (w' : World) : Prop :=
  e = .returned (.tuple #[]) ∧ ∃ l', R l' ∧ OwnX E w' base (.slice (some ⟨g, 0, none⟩) l.length c) l' ∧ w.grownBy w' (some g)
set_option maxHeartbeats 4000000 in
theorem swapR_gen (H : SoLay P E) (a b n g c base : Nat) (l : List α) (w : World) (f : Value) (HO : OwnX E w base (.slice (some ⟨g, 0, none⟩) l.length c) l) (hab : a + n ≤ b) (hbn : b + n ≤ l.length) (hl : l.length < 4611686018427387904) :
    Calls P 153 #[.slice (some ⟨g, 0, none⟩) l.length c, .int .i64 a, .int .i64 b, .int .i64 n, f] w (SwapPost E w base g c l (SwapR a b n l)) := by
  have mixed := H.mixed; have t0 := H.t0; have a0 := H.a0; have z0 := H.z0; have v0 := H.v0; have t3 := H.t3; have a3 := H.a3; have z3 := H.z3; have v3 := H.v3; have t4 := H.t4; have a4 := H.a4; have z4 := H.z4; have v4 := H.v4; have tS := H.tS; have aS := H.aS; have zS := H.zS; have vS := H.vS; have tf := H.tf; have af := H.af; have zf := H.zf; have vf := H.vf; have aE := H.aE; have zE := H.zE
  have F1 := H.f1
  have us := run_underlying H.tS
  have HO0 := Lib.hid HO
  obtain ⟨len, hlen⟩ : ∃ len, l.length = len := ⟨_, rfl⟩
  rw [hlen] at hbn hl HO0 ⊢
  have HLEN := Lib.hid hlen
  clear HO hlen
  go_enter F1, Tryd.ntmps153
  go_wp2
  go_loopw [10] (fun vi wr => ∃ (i : Nat) (cur : List α), i ≤ n ∧ vi = .int .i64 (i : Int) ∧ SwapR a b i l cur ∧ OwnX E wr base (.slice (some ⟨g, 0, none⟩) len c) cur ∧ w.grownBy wr (some g)) (fun vi _ => n - (intOf vi).toNat)
  case atStart => exact ⟨0, l, Nat.zero_le _, rfl, SwapR.zero _ _ _, HO0.out, World.grownBy.refl _ _⟩
  case round =>
    obtain ⟨i, cur, hi, rfl, hs, hO, hg⟩ := hrel
    by_cases hlt : i < n
    · have hz : (i : Int) < (n : Int) := by omega
      have hcl : cur.length = len := by rw [hs.len, HLEN.out]
      obtain ⟨x, hx⟩ : ∃ x, cur[a + i]? = some x := ⟨_, List.getElem?_eq_getElem (by omega)⟩
      obtain ⟨y, hy⟩ : ∃ y, cur[b + i]? = some y := ⟨_, List.getElem?_eq_getElem (by omega)⟩
      have hst := hs.step (by omega) hx hy
      have hO1 := OwnX.drew hO
      have lx := OwnX.ld (P := P) hO1 (a + i) x hx
      have ly := OwnX.ld (P := P) hO1 (b + i) y hy
      obtain ⟨s1, hO2, hg2⟩ := OwnX.sto (P := P) hO1 (a + i) (by omega) y
      obtain ⟨s2, hO3, hg3⟩ := OwnX.sto (P := P) hO2 (b + i) (by rw [List.length_set]; omega) x
      have hex : (E.enc x).length = E.size := E.len x
      have hey : (E.enc y).length = E.size := E.len y
      have STEP := Lib.hid hst
      have OWN := Lib.hid hO3
      have GR := Lib.hid (show w.grownBy _ (some g) from World.grownBy.trans (World.grownBy.trans (World.grownBy.trans hg (gb_drew _ _)) hg2) hg3)
      have ea : IntKind.i64.wrap ((a : Int) + (i : Int)) = ((a + i : Nat) : Int) := by rw [IntKind.wrap_i64]; omega
      have eb : IntKind.i64.wrap ((b : Int) + (i : Int)) = ((b + i : Nat) : Int) := by rw [IntKind.wrap_i64]; omega
      have pa : (a : Int) + (i : Int) < (len : Int) := by omega
      have pb : (b : Int) + (i : Int) < (len : Int) := by omega
      have qa : (0 : Int) ≤ (a : Int) + (i : Int) := by omega
      have qb : (0 : Int) ≤ (b : Int) + (i : Int) := by omega
      have na : ((a : Int) + (i : Int)).toNat = a + i := by omega
      have nb : ((b : Int) + (i : Int)).toNat = b + i := by omega
      clear hst hO3 hO2 hg3 hg2 hO1 hO hg hs hx hy hcl
      generalize E.enc x = cx at *
      generalize E.enc y = cy at *
      go_wp2_with fail
      go_big_region_o
      all_goals go_wp2
      go_roundw
      case rel => exact ⟨i + 1, _, by omega, by go_num, STEP.out, OWN.out, GR.out⟩
      case measure => simp [intOf]; omega
    · have hz : ¬ (i : Int) < (n : Int) := by omega
      obtain rfl : i = n := by omega
      have HS := Lib.hid hs; have HO := Lib.hid hO; have HG := Lib.hid hg
      clear hs hO hg
      go_wp2
      refine bodyPost_end (v := .tuple #[]) (by simp [results, Tryd.results153, go_sem]) rfl ⟨rfl, cur, HS.out, by rw [HLEN.out]; exact HO.out, HG.out⟩

set_option maxHeartbeats 4000000 in
theorem rot_gen (H : SoLay P E) (a m b g c base : Nat) (l : List α) (w : World) (f : Value) (HO : OwnX E w base (.slice (some ⟨g, 0, none⟩) l.length c) l) (h1 : a < m) (h2 : m < b) (hb : b ≤ l.length) (hl : l.length < 4611686018427387904) :
    Calls P 144 #[.slice (some ⟨g, 0, none⟩) l.length c, .int .i64 a, .int .i64 m, .int .i64 b, f] w (SwapPost E w base g c l (· = rotL a m b l)) := by
  have mixed := H.mixed; have t0 := H.t0; have a0 := H.a0; have z0 := H.z0; have v0 := H.v0; have t3 := H.t3; have a3 := H.a3; have z3 := H.z3; have v3 := H.v3; have t4 := H.t4; have a4 := H.a4; have z4 := H.z4; have v4 := H.v4; have tS := H.tS; have aS := H.aS; have zS := H.zS; have vS := H.vS; have tf := H.tf; have af := H.af; have zf := H.zf; have vf := H.vf
  have F2 := H.f2
  have eg : ∀ args w, (callFunc 153 args).run P w = .ok (.enter 153 args) w := enters_of H.f1 (by kernel_rfl) rfl
  have SW := Lib.hid (fun (a b n : Nat) (cur : List α) (W : World) (h : cur.length = l.length) (hO : OwnX E W base (.slice (some ⟨g, 0, none⟩) l.length c) cur) (x1 : a + n ≤ b) (x2 : b + n ≤ l.length) =>
    show Calls P 153 #[.slice (some ⟨g, 0, none⟩) l.length c, .int .i64 a, .int .i64 b, .int .i64 n, f] W (SwapPost E W base g c cur (SwapR a b n cur)) by
      have := swapR_gen H a b n g c base cur W f (by rw [h]; exact hO) x1 (by omega) (by omega)
      rwa [h] at this)
  have HO0 := Lib.hid HO
  have hR := RotSt.start l (Nat.le_of_lt h1) (Nat.le_of_lt h2) hb
  have HLR := Lib.hid (rotL_len l (Nat.le_of_lt h1) (Nat.le_of_lt h2) hb)
  obtain ⟨len, hlen⟩ : ∃ len, l.length = len := ⟨_, rfl⟩
  rw [hlen] at hb hl HO0 SW HLR ⊢
  have HLEN := Lib.hid hlen
  have HR := Lib.hid hR
  obtain ⟨R, hRR⟩ : ∃ R, rotL a m b l = R := ⟨_, rfl⟩
  rw [hRR] at HR HLR ⊢
  have HRR := Lib.hid hRR
  clear HO hlen hR hRR
  obtain ⟨i0, hi0⟩ : ∃ i0, m - a = i0 := ⟨_, rfl⟩
  obtain ⟨j0, hj0⟩ : ∃ j0, b - m = j0 := ⟨_, rfl⟩
  rw [hi0, hj0] at HR
  have ei0 : IntKind.i64.wrap ((m : Int) - (a : Int)) = (i0 : Int) := by rw [IntKind.wrap_i64]; omega
  have ej0 : IntKind.i64.wrap ((b : Int) - (m : Int)) = (j0 : Int) := by rw [IntKind.wrap_i64]; omega
  have wi0 : (m : Int) - (a : Int) = (i0 : Int) := by omega
  have wj0 : (b : Int) - (m : Int) = (j0 : Int) := by omega
  have k1 : 0 < i0 := by omega
  have k2 : 0 < j0 := by omega
  have k3 : m + j0 = b := by omega
  have k4 : a + i0 = m := by omega
  clear hi0 hj0 h1 h2
  have EI := Lib.hid (And.intro ei0 (And.intro ej0 (And.intro wi0 wj0)))
  clear ei0 ej0 wi0 wj0
  go_enter F2, Tryd.ntmps144
  obtain ⟨ei0, ej0, wi0, wj0⟩ := EI.out
  go_wp2
  clear ei0 ej0 wi0 wj0
  go_loopw [10, 11] (fun vi vj wr => ∃ (i j : Nat) (cur : List α), vi = .int .i64 (i : Int) ∧ vj = .int .i64 (j : Int) ∧ 0 < i ∧ 0 < j ∧ i ≤ m ∧ m + j ≤ len ∧ RotSt m R i j cur ∧ cur.length = len ∧ OwnX E wr base (.slice (some ⟨g, 0, none⟩) len c) cur ∧ w.grownBy wr (some g)) (fun vi vj _ => (intOf vi + intOf vj).toNat)
  case atStart => exact ⟨i0, j0, l, rfl, rfl, k1, k2, by omega, by omega, HR.out, HLEN.out, HO0.out, World.grownBy.refl _ _⟩
  case round =>
    obtain ⟨i, j, cur, rfl, rfl, hi, hj, him, hjl, hr, hcl, hO, hg⟩ := hrel
    have HG := Lib.hid hg; have RS := Lib.hid hr; have CL := Lib.hid hcl; have OW := Lib.hid hO
    clear hg hr hcl hO
    obtain ⟨d, hd⟩ : ∃ d, m - i = d := ⟨_, rfl⟩
    have ed : (m : Int) - (i : Int) = (d : Int) := by omega
    rcases Nat.lt_trichotomy i j with hij | hij | hij
    · obtain ⟨q, hq⟩ : ∃ q, m + j - i = q := ⟨_, rfl⟩
      obtain ⟨s, hs⟩ : ∃ s, m + j = s := ⟨_, rfl⟩
      have es : (m : Int) + (j : Int) = (s : Int) := by omega
      have eq : (s : Int) - (i : Int) = (q : Int) := by omega
      have hne : ((i : Int) != (j : Int)) = true := by simp; omega
      have hgt : ¬ (j : Int) < (i : Int) := by omega
      have C := Lib.hid (SW.out d q i cur wr CL.out OW.out (by omega) (by omega))
      have RR := Lib.hid (fun cur' => hd ▸ hq ▸ RS.out.right (cur' := cur') hij)
      have hsl : (s : Int) ≤ len := by omega
      clear hd hq hs
      go_wp2_with fail
      refine C.out.mono ?_
      rintro e w1 ⟨rfl, cur', h1, h2, h3⟩
      have R1 := Lib.hid (RR.out cur' h1); have L1 := Lib.hid (h1.len.trans CL.out)
      have O1 := Lib.hid (show OwnX E w1 base (.slice (some ⟨g, 0, none⟩) len c) cur' by have := h2; rw [CL.out] at this; exact this)
      have G1 := Lib.hid (HG.out.trans h3)
      clear h1 h2 h3 C RR
      go_wp2
      go_roundw
      case rel => exact ⟨i, j - i, cur', rfl, by go_num, hi, by omega, him, by omega, R1.out, L1.out, O1.out, G1.out⟩
      case measure => simp [intOf]; omega
    · subst hij
      have hne : ((i : Int) != (i : Int)) = false := by simp
      have C := Lib.hid (SW.out d m i cur wr CL.out OW.out (by omega) (by omega))
      have RR := Lib.hid (fun cur' => hd ▸ RS.out.done (cur' := cur'))
      clear hd
      go_wp2_with fail
      refine C.out.mono ?_
      rintro e w1 ⟨rfl, cur', h1, h2, h3⟩
      have R1 := Lib.hid (RR.out cur' h1)
      have O1 := Lib.hid (show OwnX E w1 base (.slice (some ⟨g, 0, none⟩) len c) cur' by have := h2; rw [CL.out] at this; exact this)
      have G1 := Lib.hid (HG.out.trans h3)
      clear h1 h2 h3 C RR
      go_wp2
      refine bodyPost_end (v := .tuple #[]) (by simp [results, Tryd.results144, go_sem]) rfl ⟨rfl, cur', R1.out, by rw [HLEN.out]; exact O1.out, G1.out⟩
    · have hne : ((i : Int) != (j : Int)) = true := by simp; omega
      have hgt : (j : Int) < (i : Int) := by omega
      have C := Lib.hid (SW.out d m j cur wr CL.out OW.out (by omega) (by omega))
      have RR := Lib.hid (fun cur' => hd ▸ RS.out.left (cur' := cur') hij)
      clear hd
      go_wp2_with fail
      refine C.out.mono ?_
      rintro e w1 ⟨rfl, cur', h1, h2, h3⟩
      have R1 := Lib.hid (RR.out cur' h1); have L1 := Lib.hid (h1.len.trans CL.out)
      have O1 := Lib.hid (show OwnX E w1 base (.slice (some ⟨g, 0, none⟩) len c) cur' by have := h2; rw [CL.out] at this; exact this)
      have G1 := Lib.hid (HG.out.trans h3)
      clear h1 h2 h3 C RR
      go_wp2
      go_roundw
      case rel => exact ⟨i - j, j, cur', by go_num, rfl, by omega, hj, by omega, hjl, R1.out, L1.out, O1.out, G1.out⟩
      case measure => simp [intOf]; omega
end
end Go.Proofs.YtmjeifbadjdnfaaDoor
