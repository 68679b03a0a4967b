/- Contract of the library's insertionSortCmpFunc at cells, over any program that has its body; the lay at this program. No condition but room. -/
import Derived.Test.YtmjeifbadjdnfaaDoorSw
import Derived.Test.YtmjeifbadjdnfaaDoorHa
set_option linter.unusedVariables false
set_option linter.unusedSimpArgs false
set_option maxRecDepth 1000000
namespace Go.Proofs.YtmjeifbadjdnfaaDoor
open Go.RowKit Go.Sort Go.Lib

section
variable {P : Program} {α : Type} [Inhabited α] {E : El α}
theorem arr_get (d : Array α) (k : Nat) (h : k < d.size) : d.toList[k]? = some d[k]! := by rw [toList_get, if_pos h]
set_option maxHeartbeats 4000000 in
theorem ins_gen (H : SoLay P E) {gf : Nat} {cf : α → α → Int} (C : SoCmp P E gf cf) (a b g c base : Nat) (l : List α) (w : World) (HO : OwnX E w base (.slice (some ⟨g, 0, none⟩) l.length c) l) (hab : a ≤ b) (hb : b ≤ l.length) (hl : l.length < 4611686018427387904) :
    Calls P 132 #[.slice (some ⟨g, 0, none⟩) l.length c, .int .i64 a, .int .i64 b, .func (.func gf) #[] #[]] w (SwapPost E w base g c l (· = (insertionSort (fun x y => decide (cf x y < 0)) l.toArray a b).toList)) := by
  have mixed := H.mixed; have t0 := H.t0; have a0 := H.a0; have z0 := H.z0; have v0 := H.v0; have t3 := H.t3; have a3 := H.a3; have z3 := H.z3; have v3 := H.v3; have t4 := H.t4; have a4 := H.a4; have z4 := H.z4; have v4 := H.v4; have tS := H.tS; have aS := H.aS; have zS := H.zS; have vS := H.vS; have tf := H.tf; have af := H.af; have zf := H.zf; have vf := H.vf; have aE := H.aE; have zE := H.zE
  have uS := run_underlying H.tS; have u3 := run_underlying H.t3
  have F4 := H.f4
  have eg := C.eg
  have HO0 := Lib.hid HO
  have CC := Lib.hid C
  obtain ⟨len, hlen⟩ : ∃ len, l.length = len := ⟨_, rfl⟩
  rw [hlen] at hb hl HO0 ⊢
  have HLEN := Lib.hid hlen
  clear HO hlen C
  go_enter F4, Tryd.ntmps132
  go_wp2
  go_loopw [8] (fun vi wr => ∃ (i : Nat) (dk : Array α), vi = .int .i64 (i : Int) ∧ a < i ∧ i ≤ b + 1 ∧ dk.size = len ∧ Hid (insOuter (fun x y => decide (cf x y < 0)) a b i dk = insOuter (fun x y => decide (cf x y < 0)) a b (a + 1) l.toArray) ∧ OwnX E wr base (.slice (some ⟨g, 0, none⟩) len c) dk.toList ∧ w.grownBy wr (some g)) (fun vi _ => b + 1 - (intOf vi).toNat)
  case atStart => exact ⟨a + 1, l.toArray, by go_num, by omega, by omega, by rw [List.size_toArray, HLEN.out], Lib.hid rfl, by simpa using HO0.out, World.grownBy.refl _ _⟩
  case round =>
    obtain ⟨i, dk, rfl, hai, hib, hsk, HI, hO, hg⟩ := hrel
    have OW := Lib.hid hO; have GW := Lib.hid hg
    clear hO hg
    by_cases hlt : i < b
    · have hz : (i : Int) < (b : Int) := by omega
      go_wp2
      go_loopw [9] (fun vj wq => ∃ (j : Nat) (dj : Array α), vj = .int .i64 (j : Int) ∧ a ≤ j ∧ j ≤ i ∧ dj.size = len ∧ Hid (insInner (fun x y => decide (cf x y < 0)) a j dj = insInner (fun x y => decide (cf x y < 0)) a i dk) ∧ OwnX E wq base (.slice (some ⟨g, 0, none⟩) len c) dj.toList ∧ w.grownBy wq (some g)) (fun vj _ => (intOf vj).toNat)
      case atStart => exact ⟨i, dk, rfl, by omega, Nat.le_refl _, hsk, Lib.hid rfl, OW.out, GW.out⟩
      case round =>
        obtain ⟨j, dj, rfl, haj, hji, hsj, HJ, hO, hg⟩ := hrel
        have OWJ := Lib.hid hO; have GWJ := Lib.hid hg
        clear hO hg
        have OUT := Lib.hid (fun (hs : j ≤ a ∨ (fun x y => decide (cf x y < 0)) dj[j]! dj[j - 1]! = false) => show insOuter (fun x y => decide (cf x y < 0)) a b (i + 1) dj = insOuter (fun x y => decide (cf x y < 0)) a b (a + 1) l.toArray by
          rw [← HI.out, insOuter_go _ _ _ _ _ hlt, ← HJ.out, insInner_stop _ _ _ _ hs])
        by_cases hja : a < j
        · obtain ⟨jp, rfl⟩ : ∃ jp, j = jp + 1 := ⟨j - 1, by omega⟩
          simp only [Nat.add_sub_cancel] at OUT
          have hx := arr_get dj (jp + 1) (by omega)
          have hy := arr_get dj jp (by omega)
          have SW := Lib.hid (swp_toList dj (jp + 1) jp)
          have GOI := Lib.hid (fun h => insInner_go (fun x y => decide (cf x y < 0)) a (jp + 1) dj hja h)
          simp only [Nat.add_sub_cancel] at GOI
          generalize dj[jp + 1]! = x at *
          generalize dj[jp]! = y at *
          obtain ⟨q, hq⟩ : ∃ q, jp + 1 = q := ⟨_, rfl⟩
          rw [hq] at hx SW GOI hja hji haj HJ OUT ⊢
          have eq1 : (q : Int) - 1 = (jp : Int) := by omega
          have ew : IntKind.i64.wrap ((q : Int) - 1) = (jp : Int) := by rw [IntKind.wrap_i64]; omega
          have ew2 : IntKind.i64.wrap (jp : Int) = (jp : Int) := by rw [IntKind.wrap_i64]; omega
          have pq : (q : Int) < (len : Int) := by omega
          have pj : (jp : Int) < (len : Int) := by omega
          have hjaz : (a : Int) < (q : Int) := by omega
          have q1' : 1 ≤ q := by omega
          have HQ := Lib.hid hq
          obtain ⟨cx, ex⟩ : ∃ cx, cx = E.enc x := ⟨_, rfl⟩
          obtain ⟨cy, ey⟩ : ∃ cy, cy = E.enc y := ⟨_, rfl⟩
          have lx := OwnX.lds (P := P) OWJ.out q x hx cx ex
          have ly := OwnX.lds (P := P) OWJ.out jp y hy cy ey
          have qc := Lib.hid (fun d os => CC.out.qc wr d os x y cx cy ex ey)
          have HX := Lib.hid hx; have HY := Lib.hid hy; have EX := Lib.hid ex; have EY := Lib.hid ey
          obtain ⟨r, hr0⟩ : ∃ r, cf x y = r := ⟨_, rfl⟩
          rw [hr0] at qc
          by_cases hr : r < 0
          · have HN := Lib.hid (GOI.out (by show decide (cf x y < 0) = true; rw [hr0]; exact decide_eq_true hr))
            have hb1 : decide (r < 0) = true := decide_eq_true hr
            clear OUT hx hy ex ey hr0 hq GOI
            go_wp2_with fail
            refine wp_region_quiet_below mixed (by kernel_rfl) ?_
            repeat (quiet_step (first | with_reducible exact qc.out _ _))
            refine wpQuiet_nil ?_
            intro w3 hw3
            have hb3 : Below wr.heap.size wr w3 := by obtain ⟨p, rfl⟩ := hw3; exact below_regrown _ _ _
            have O3 := OwnX.drew (OWJ.out.below hb3)
            have G3 := Lib.hid (show w.grownBy w3 (some g) from GWJ.out.trans (gb_below hb3 _))
            clear hw3 hb3 lx ly
            have hdl : dj.toList.length = len := by rw [Array.length_toList, hsj]
            have lx := OwnX.ld (P := P) O3 q x HX.out
            have ly := OwnX.ld (P := P) O3 jp y HY.out
            obtain ⟨s1, hO2, hg2⟩ := OwnX.sto (P := P) O3 q (by rw [hdl]; have := HQ.out; omega) y
            obtain ⟨s2, hO3, hg3⟩ := OwnX.sto (P := P) hO2 jp (by rw [List.length_set, hdl]; have := HQ.out; omega) x
            rw [← SW.out] at hO3
            have hex : (E.enc x).length = E.size := E.len x
            have hey : (E.enc y).length = E.size := E.len y
            have OWN := Lib.hid hO3
            have GR := Lib.hid (show w.grownBy _ (some g) from World.grownBy.trans (World.grownBy.trans (World.grownBy.trans G3.out (gb_drew _ _)) hg2) hg3)
            have HN2 := Lib.hid (HN.out.symm.trans HJ.out)
            clear hO3 hO2 hg3 hg2 O3 hdl EX EY HX HY HN
            generalize E.enc x = cx' at *
            generalize E.enc y = cy' at *
            go_wp2_with fail
            go_big_region_o
            all_goals go_wp2
            go_roundw
            case rel => exact ⟨jp, swp dj q jp, by first | rfl | go_num, by have := HQ.out; omega, by have := HQ.out; omega, by rw [size_swp]; exact hsj, HN2, OWN.out, GR.out⟩
            case measure => simp [intOf]; have := HQ.out; omega
          · have HN := Lib.hid (OUT.out (Or.inr (by rw [hr0]; exact decide_eq_false hr)))
            have hb1 : decide (r < 0) = false := decide_eq_false hr
            clear OUT hx hy ex ey hr0 hq GOI
            go_wp2_with fail
            refine wp_region_quiet_below mixed (by kernel_rfl) ?_
            repeat (quiet_step (first | with_reducible exact qc.out _ _))
            refine wpQuiet_nil ?_
            intro w3 hw3
            have hb3 : Below wr.heap.size wr w3 := by obtain ⟨p, rfl⟩ := hw3; exact below_regrown _ _ _
            have O3 := Lib.hid (OWJ.out.below hb3)
            have G3 := Lib.hid (show w.grownBy w3 (some g) from GWJ.out.trans (gb_below hb3 _))
            clear hw3 hb3 lx ly
            go_wp2
            go_roundw
            case rel => exact ⟨i + 1, dj, by go_num, by omega, by omega, hsj, HN, O3.out, G3.out⟩
            case measure => simp [intOf]; omega
        · have hjaz : decide ((j : Int) > (a : Int)) = false := decide_eq_false (by omega)
          have hjaz' : ¬ (a : Int) < (j : Int) := by omega
          have HN := Lib.hid (OUT.out (Or.inl (by omega)))
          clear OUT
          have O3 := Lib.hid (OwnX.drew OWJ.out)
          have G3 := Lib.hid (show w.grownBy wr.drew (some g) from GWJ.out.trans (gb_drew _ _))
          go_wp2_with fail
          go_big_region_o
          all_goals go_wp2
          go_roundw
          case rel => exact ⟨i + 1, dj, by go_num, by omega, by omega, hsj, HN, O3.out, G3.out⟩
          case measure => simp [intOf]; omega
    · have hz : ¬ (i : Int) < (b : Int) := by omega
      go_wp2
      refine bodyPost_end (v := .tuple #[]) (by simp [results, Tryd.results132, go_sem]) rfl ⟨rfl, dk.toList, by unfold insertionSort; rw [← HI.out, insOuter_stop _ _ _ _ _ hlt], by rw [HLEN.out]; exact OW.out, GW.out⟩
end
theorem soLay : SoLay Tryd.prog eC := {
  mixed := by kernel_rfl
  f1 := Tryd.func153
  f2 := Tryd.func144
  f3 := Tryd.func133
  f4 := Tryd.func132
  t0 := Tryd.underlying0
  a0 := Tryd.isAgg0
  z0 := Tryd.sizeOf0
  v0 := Tryd.zeroValue0
  t3 := Tryd.underlying3
  a3 := Tryd.isAgg3
  z3 := Tryd.sizeOf3
  v3 := Tryd.zeroValue3
  tu := Tryd.underlying72
  au := Tryd.isAgg72
  zu := Tryd.sizeOf72
  vu := Tryd.zeroValue72
  t4 := Tryd.underlying4
  a4 := Tryd.isAgg4
  z4 := Tryd.sizeOf4
  v4 := Tryd.zeroValue4
  tS := Tryd.underlying22
  aS := Tryd.isAgg22
  zS := Tryd.sizeOf22
  vS := Tryd.zeroValue22
  tf := Tryd.underlying119
  af := Tryd.isAgg119
  zf := Tryd.sizeOf119
  vf := Tryd.zeroValue119
  aE := Tryd.isAgg35
  zE := Tryd.sizeOf35 }
end Go.Proofs.YtmjeifbadjdnfaaDoor
