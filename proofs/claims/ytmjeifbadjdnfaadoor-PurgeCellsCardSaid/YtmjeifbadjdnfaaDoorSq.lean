/- Contract of the library's symMergeCmpFunc at cells where one part is one element, over any program that has its body. Conditions: parts that are sorted. -/
import Derived.Test.YtmjeifbadjdnfaaDoorSp
import Derived.Lib.QuietBelow
set_option linter.unusedVariables false
set_option linter.unusedSimpArgs false
set_option maxRecDepth 1000000
namespace Go.Proofs.YtmjeifbadjdnfaaDoor
open Go.RowKit Go.Sort Go.Lib

section
variable {P : Program} {α : Type} {E : El α}
/-- the order of the sort: a function of the program, and what it answers -/
structure SoCmp (P : Program) {α : Type} (E : El α) (gf : Nat) (cf : α → α → Int) : Prop where
  eg : ∀ args w, (callFunc gf args).run P w = .ok (.enter gf args) w
  cmp : ∀ W x y, Calls P gf #[.agg (E.enc x).toArray, .agg (E.enc y).toArray] W fun e w' => e = .returned (.int .i64 (cf x y)) ∧ Below W.heap.size W w'
  ord : LtOk (fun x y => decide (cf x y < 0))
theorem SoCmp.qc {gf : Nat} {cf : α → α → Int} (C : SoCmp P E gf cf) (W : World) (d : Nat) (os : Array Obj) (x y : α) (cx cy : List Value) (ex : cx = E.enc x) (ey : cy = E.enc y) :
    Calls P gf #[.agg cx.toArray, .agg cy.toArray] (grow (redrawn W d) os) fun e w'' => e = .returned (.int .i64 (cf x y)) ∧ ∃ p : Regrown, w'' = grow (redrawn W p.d) p.os := by
  subst ex ey
  exact Calls.regrown_of (C.cmp _ x y)
theorem gb_below {w w1 : World} (h : Below w.heap.size w w1) (r : Option Nat) : w.grownBy w1 r := ⟨h.os, h.tape, h.output, h.size, fun k hk _ => h.block k hk⟩
/-- an element, loaded in whatever world that W grows into -/
theorem OwnX.lds {W : World} {base g n c : Nat} {l : List α} (h : OwnX E W base (.slice (some ⟨g, 0, none⟩) n c) l) (i : Nat) (x : α) (hx : l[i]? = some x) (cx : List Value) (ex : cx = E.enc x) :
    ∀ d os, Sem.run P (loadCellsFrom ⟨g, i * E.size, none⟩ 0 E.size #[]) (grow (redrawn W d) os) = .ok cx.toArray (grow (redrawn W d) os) := fun d os => by
  subst ex
  exact (h.below (below_regrown W d os)).ld i x hx

set_option maxHeartbeats 4000000 in
theorem one1_gen (H : SoLay P E) {gf : Nat} {cf : α → α → Int} (C : SoCmp P E gf cf) (a b g c base : Nat) (l : List α) (w : World) (HO : OwnX E w base (.slice (some ⟨g, 0, none⟩) l.length c) l) (h1 : a + 1 < b) (hb : b ≤ l.length) (hl : l.length < 4611686018427387904) (hs : SrtOn (fun x y => decide (cf x y < 0)) l (a + 1) b) :
    Calls P 133 #[.slice (some ⟨g, 0, none⟩) l.length c, .int .i64 a, .int .i64 ((a + 1 : Nat) : Int), .int .i64 b, .func (.func gf) #[] #[]] w (SwapPost E w base g c l (MG (fun x y => decide (cf x y < 0)) a b l)) := by
  have mixed := H.mixed; have t0 := H.t0; have a0 := H.a0; have z0 := H.z0; have v0 := H.v0; have t3 := H.t3; have a3 := H.a3; have z3 := H.z3; have v3 := H.v3; have t4 := H.t4; have a4 := H.a4; have z4 := H.z4; have v4 := H.v4; have tS := H.tS; have aS := H.aS; have zS := H.zS; have vS := H.vS; have tf := H.tf; have af := H.af; have zf := H.zf; have vf := H.vf; have aE := H.aE; have zE := H.zE
  have tu := H.tu; have au := H.au; have zu := H.zu; have vu := H.vu
  have uS := run_underlying H.tS; have u3 := run_underlying H.t3; have uu := run_underlying H.tu
  have F3 := H.f3
  have eg := C.eg
  have HO0 := Lib.hid HO
  have CC := Lib.hid C
  obtain ⟨len, hlen⟩ : ∃ len, l.length = len := ⟨_, rfl⟩
  obtain ⟨m, hm⟩ : ∃ m, a + 1 = m := ⟨_, rfl⟩
  have HS := Lib.hid hs
  rw [hlen] at hb hl HO0 ⊢
  rw [hm] at h1 ⊢
  have HLEN := Lib.hid hlen
  have HM := Lib.hid hm
  have em : (m : Int) - (a : Int) = 1 := by omega
  have EM := Lib.hid em
  clear HO hlen hs hm C em
  go_enter F3, Tryd.ntmps133
  have em := EM.out
  go_wp2
  clear em
  go_loopw [10, 11] (fun vi vj wr => ∃ (i j : Nat), vi = .int .i64 (i : Int) ∧ vj = .int .i64 (j : Int) ∧ Hid (One1 (fun x y => decide (cf x y < 0)) l a b i j) ∧ Below w.heap.size w wr) (fun vi vj _ => (intOf vj - intOf vi).toNat)
  case atStart => exact ⟨m, b, rfl, rfl, by rw [← HM.out]; exact Lib.hid (One1.start l (by have := HM.out; omega)), Below.refl _ _⟩
  case round =>
    obtain ⟨i, j, rfl, rfl, ho, hbl⟩ := hrel
    have HB := Lib.hid hbl; clear hbl
    have hi1 := ho.out.b1; have hi2 := ho.out.b2; have hi3 := ho.out.b3
    by_cases hlt : i < j
    · have hz : (i : Int) < (j : Int) := by omega
      obtain ⟨s, hs⟩ : ∃ s, i + j = s := ⟨_, rfl⟩
      obtain ⟨h, hh⟩ : ∃ h, s / 2 = h := ⟨_, rfl⟩
      have es : (i : Int) + (j : Int) = (s : Int) := by omega
      have eh : (s : Int) / 2 = (h : Int) := by omega
      have ks : s ≤ 2 * len := by omega
      have kh : i ≤ h ∧ h < j := by omega
      clear hs hh
      obtain ⟨y, hy⟩ : ∃ y, l[h]? = some y := ⟨_, List.getElem?_eq_getElem (by rw [HLEN.out]; omega)⟩
      obtain ⟨x, hx⟩ : ∃ x, l[a]? = some x := ⟨_, List.getElem?_eq_getElem (by rw [HLEN.out]; omega)⟩
      obtain ⟨cx, ex⟩ : ∃ cx, cx = E.enc x := ⟨_, rfl⟩
      obtain ⟨cy, ey⟩ : ∃ cy, cy = E.enc y := ⟨_, rfl⟩
      have hO := HO0.out.below HB.out
      have lx := OwnX.lds (P := P) hO a x hx cx ex
      have ly := OwnX.lds (P := P) hO h y hy cy ey
      have q1 := Lib.hid (fun d os => CC.out.qc wr d os y x cy cx ey ex)
      have UP := Lib.hid (fun hl => ho.out.up CC.out.ord HS.out kh.1 kh.2 hx hy (decide_eq_true hl))
      have DN := Lib.hid (fun hl => ho.out.down CC.out.ord HS.out kh.1 kh.2 hx hy (decide_eq_false hl))
      have ph : (h : Int) < (len : Int) := by omega
      have pa : (a : Int) < (len : Int) := by omega
      clear hO hx hy ex ey ho
      generalize cf y x = r at *
      by_cases hr : r < 0
      · have HN := Lib.hid (UP.out hr); clear UP DN
        go_wp2_with fail
        refine wp_region_quiet_below mixed (by kernel_rfl) ?_
        repeat (quiet_step (first | with_reducible exact q1.out _ _))
        refine wpQuiet_nil ?_
        intro w3 hw3
        have hb3 : Below wr.heap.size wr w3 := by obtain ⟨p, rfl⟩ := hw3; exact below_regrown _ _ _
        have HB3 := Lib.hid (below_tr HB.out hb3)
        clear hw3 hb3 lx ly
        go_wp2
        go_roundw
        case rel => exact ⟨h + 1, j, by go_num, rfl, HN, HB3.out⟩
        case measure => simp [intOf]; omega
      · have HN := Lib.hid (DN.out hr); clear UP DN
        go_wp2_with fail
        refine wp_region_quiet_below mixed (by kernel_rfl) ?_
        repeat (quiet_step (first | with_reducible exact q1.out _ _))
        refine wpQuiet_nil ?_
        intro w3 hw3
        have hb3 : Below wr.heap.size wr w3 := by obtain ⟨p, rfl⟩ := hw3; exact below_regrown _ _ _
        have HB3 := Lib.hid (below_tr HB.out hb3)
        clear hw3 hb3 lx ly
        go_wp2
        go_roundw
        case rel => exact ⟨i, h, rfl, rfl, HN, HB3.out⟩
        case measure => simp [intOf]; omega
    · have hz : ¬ (i : Int) < (j : Int) := by omega
      obtain rfl : i = j := by omega
      have DONE := Lib.hid (ho.out.done CC.out.ord (by rw [HLEN.out]; exact hb) HS.out)
      have OS := Lib.hid (HO0.out.below HB.out)
      have R0 := Lib.hid (rot0 l (show a ≤ a + 1 by omega) (show a + 1 ≤ l.length by rw [HLEN.out]; omega))
      clear ho
      go_wp2
      clear hz
      go_loopw [13] (fun vk wq => ∃ (k : Nat), vk = .int .i64 (k : Int) ∧ a ≤ k ∧ k + 1 ≤ i ∧ OwnX E wq base (.slice (some ⟨g, 0, none⟩) len c) (rotL a (a + 1) (k + 1) l) ∧ w.grownBy wq (some g)) (fun vk _ => i - (intOf vk).toNat)
      case atStart => exact ⟨a, rfl, Nat.le_refl _, by omega, by rw [R0.out]; exact OS.out, gb_below HB.out _⟩
      case round =>
        obtain ⟨k, rfl, hk1, hk2, hO, hg⟩ := hrel
        have em1 : (i : Int) - 1 = ((i - 1 : Nat) : Int) := by omega
        by_cases hlt : k < i - 1
        · have hz : (k : Int) < ((i - 1 : Nat) : Int) := by omega
          obtain ⟨d, hd⟩ : ∃ d, i - 1 = d := ⟨_, rfl⟩
          rw [hd] at em1 hz
          have hcl : (rotL a (a + 1) (k + 1) l).length = len := by rw [rotL_len l (by omega) (by omega) (by rw [HLEN.out]; omega), HLEN.out]
          obtain ⟨x, hx⟩ : ∃ x, (rotL a (a + 1) (k + 1) l)[k]? = some x := ⟨_, List.getElem?_eq_getElem (by rw [hcl]; omega)⟩
          obtain ⟨y, hy⟩ : ∃ y, (rotL a (a + 1) (k + 1) l)[k + 1]? = some y := ⟨_, List.getElem?_eq_getElem (by rw [hcl]; omega)⟩
          have hst := rot1_step hk1 (by rw [HLEN.out]; omega) hx hy
          have hO1 := OwnX.drew hO
          have lx := OwnX.ld (P := P) hO1 k x hx
          have ly := OwnX.ld (P := P) hO1 (k + 1) y hy
          obtain ⟨s1, hO2, hg2⟩ := OwnX.sto (P := P) hO1 k (by rw [hcl]; omega) y
          obtain ⟨s2, hO3, hg3⟩ := OwnX.sto (P := P) hO2 (k + 1) (by rw [List.length_set, hcl]; omega) x
          rw [hst] at hO3
          have hex : (E.enc x).length = E.size := E.len x
          have hey : (E.enc y).length = E.size := E.len y
          have OWN := Lib.hid hO3
          have GR := Lib.hid (show w.grownBy _ (some g) from World.grownBy.trans (World.grownBy.trans (World.grownBy.trans hg (gb_drew _ _)) hg2) hg3)
          have pb : (k : Int) + 1 < (len : Int) := by omega
          have qb : (0 : Int) ≤ (k : Int) + 1 := by omega
          have nb : ((k : Int) + 1).toNat = k + 1 := by omega
          have HD := Lib.hid hd
          clear hst hO3 hO2 hg3 hg2 hO1 hO hg hx hy hcl hd
          generalize E.enc x = cx at *
          generalize E.enc y = cy at *
          go_wp2_with fail
          go_big_region_o
          all_goals go_wp2
          go_roundw
          case rel => exact ⟨k + 1, by go_num, by omega, by have := HD.out; omega, OWN.out, GR.out⟩
          case measure => simp [intOf]; have := HD.out; omega
        · have hz : ¬ (k : Int) < ((i - 1 : Nat) : Int) := by omega
          obtain ⟨d, hd⟩ : ∃ d, i - 1 = d := ⟨_, rfl⟩
          rw [hd] at em1 hz
          have ki : k + 1 = i := by omega
          rw [ki] at hO
          have HO := Lib.hid hO; have HG := Lib.hid hg
          clear hO hg hd ki
          go_wp2
          refine bodyPost_ret (v := .tuple #[]) (by simp [results, Tryd.results133, go_sem]) rfl ⟨rfl, _, DONE.out, by rw [HLEN.out]; exact HO.out, HG.out⟩

set_option maxHeartbeats 4000000 in
theorem one2_gen (H : SoLay P E) {gf : Nat} {cf : α → α → Int} (C : SoCmp P E gf cf) (a m g c base : Nat) (l : List α) (w : World) (HO : OwnX E w base (.slice (some ⟨g, 0, none⟩) l.length c) l) (h1 : a + 1 < m) (hb : m + 1 ≤ l.length) (hl : l.length < 4611686018427387904) (hs : SrtOn (fun x y => decide (cf x y < 0)) l a m) :
    Calls P 133 #[.slice (some ⟨g, 0, none⟩) l.length c, .int .i64 a, .int .i64 m, .int .i64 ((m + 1 : Nat) : Int), .func (.func gf) #[] #[]] w (SwapPost E w base g c l (MG (fun x y => decide (cf x y < 0)) a (m + 1) l)) := by
  have mixed := H.mixed; have t0 := H.t0; have a0 := H.a0; have z0 := H.z0; have v0 := H.v0; have t3 := H.t3; have a3 := H.a3; have z3 := H.z3; have v3 := H.v3; have t4 := H.t4; have a4 := H.a4; have z4 := H.z4; have v4 := H.v4; have tS := H.tS; have aS := H.aS; have zS := H.zS; have vS := H.vS; have tf := H.tf; have af := H.af; have zf := H.zf; have vf := H.vf; have aE := H.aE; have zE := H.zE
  have tu := H.tu; have au := H.au; have zu := H.zu; have vu := H.vu
  have uS := run_underlying H.tS; have u3 := run_underlying H.t3; have uu := run_underlying H.tu
  have F3 := H.f3
  have eg := C.eg
  have HO0 := Lib.hid HO
  have CC := Lib.hid C
  obtain ⟨len, hlen⟩ : ∃ len, l.length = len := ⟨_, rfl⟩
  obtain ⟨b, hm⟩ : ∃ b, m + 1 = b := ⟨_, rfl⟩
  obtain ⟨df, hdf⟩ : ∃ df, m - a = df := ⟨_, rfl⟩
  have HS := Lib.hid hs
  rw [hlen] at hb hl HO0 ⊢
  rw [hm] at hb ⊢
  have HLEN := Lib.hid hlen
  have HM := Lib.hid hm
  have em : (b : Int) - (m : Int) = 1 := by omega
  have edf : (m : Int) - (a : Int) = (df : Int) := by omega
  have ndf : ((df : Int) == 1) = false := by simp; omega
  have EM := Lib.hid (And.intro em (And.intro edf ndf))
  clear HO hlen hs hm C em hdf edf ndf
  go_enter F3, Tryd.ntmps133
  obtain ⟨em, edf, ndf⟩ := EM.out
  go_wp2
  clear em edf ndf
  go_loopw [14, 15] (fun vi vj wr => ∃ (i j : Nat), vi = .int .i64 (i : Int) ∧ vj = .int .i64 (j : Int) ∧ Hid (One2 (fun x y => decide (cf x y < 0)) l a m i j) ∧ Below w.heap.size w wr) (fun vi vj _ => (intOf vj - intOf vi).toNat)
  case atStart => exact ⟨a, m, rfl, rfl, Lib.hid (One2.start l (by omega)), Below.refl _ _⟩
  case round =>
    obtain ⟨i, j, rfl, rfl, ho, hbl⟩ := hrel
    have HB := Lib.hid hbl; clear hbl
    have hi1 := ho.out.b1; have hi2 := ho.out.b2; have hi3 := ho.out.b3
    have hmb : m < b := by have := HM.out; omega
    by_cases hlt : i < j
    · have hz : (i : Int) < (j : Int) := by omega
      obtain ⟨s, hs⟩ : ∃ s, i + j = s := ⟨_, rfl⟩
      obtain ⟨h, hh⟩ : ∃ h, s / 2 = h := ⟨_, rfl⟩
      have es : (i : Int) + (j : Int) = (s : Int) := by omega
      have eh : (s : Int) / 2 = (h : Int) := by omega
      have ks : s ≤ 2 * len := by omega
      have kh : i ≤ h ∧ h < j := by omega
      clear hs hh
      obtain ⟨y, hy⟩ : ∃ y, l[m]? = some y := ⟨_, List.getElem?_eq_getElem (by rw [HLEN.out]; omega)⟩
      obtain ⟨x, hx⟩ : ∃ x, l[h]? = some x := ⟨_, List.getElem?_eq_getElem (by rw [HLEN.out]; omega)⟩
      obtain ⟨cx, ex⟩ : ∃ cx, cx = E.enc x := ⟨_, rfl⟩
      obtain ⟨cy, ey⟩ : ∃ cy, cy = E.enc y := ⟨_, rfl⟩
      have hO := HO0.out.below HB.out
      have lx := OwnX.lds (P := P) hO h x hx cx ex
      have ly := OwnX.lds (P := P) hO m y hy cy ey
      have q1 := Lib.hid (fun d os => CC.out.qc wr d os y x cy cx ey ex)
      have DN := Lib.hid (fun hl => ho.out.down CC.out.ord HS.out kh.1 kh.2 hx hy (decide_eq_true hl))
      have UP := Lib.hid (fun hl => ho.out.up CC.out.ord HS.out kh.1 kh.2 hx hy (decide_eq_false hl))
      have ph : (h : Int) < (len : Int) := by omega
      have pa : (m : Int) < (len : Int) := by omega
      clear hO hx hy ex ey ho
      generalize cf y x = r at *
      by_cases hr : r < 0
      · have HN := Lib.hid (DN.out hr); clear UP DN
        go_wp2_with fail
        refine wp_region_quiet_below mixed (by kernel_rfl) ?_
        repeat (quiet_step (first | with_reducible exact q1.out _ _))
        refine wpQuiet_nil ?_
        intro w3 hw3
        have hb3 : Below wr.heap.size wr w3 := by obtain ⟨p, rfl⟩ := hw3; exact below_regrown _ _ _
        have HB3 := Lib.hid (below_tr HB.out hb3)
        clear hw3 hb3 lx ly
        go_wp2
        go_roundw
        case rel => exact ⟨i, h, rfl, rfl, HN, HB3.out⟩
        case measure => simp [intOf]; omega
      · have HN := Lib.hid (UP.out hr); clear UP DN
        have hb1 : decide (r < 0) = false := decide_eq_false hr
        go_wp2_with fail
        refine wp_region_quiet_below mixed (by kernel_rfl) ?_
        repeat (quiet_step (first | with_reducible exact q1.out _ _))
        refine wpQuiet_nil ?_
        intro w3 hw3
        have hb3 : Below wr.heap.size wr w3 := by obtain ⟨p, rfl⟩ := hw3; exact below_regrown _ _ _
        have HB3 := Lib.hid (below_tr HB.out hb3)
        clear hw3 hb3 lx ly
        go_wp2
        go_roundw
        case rel => exact ⟨h + 1, j, by go_num, rfl, HN, HB3.out⟩
        case measure => simp [intOf]; omega
    · have hz : ¬ (i : Int) < (j : Int) := by omega
      obtain rfl : i = j := by omega
      have DONE := Lib.hid (ho.out.done CC.out.ord (by rw [HLEN.out, HM.out]; exact hb) HS.out)
      rw [HM.out] at DONE
      have OS := Lib.hid (HO0.out.below HB.out)
      have R0 := Lib.hid (rotL_none l (show m ≤ m by omega) (show m ≤ m + 1 by omega) (show m + 1 ≤ l.length by rw [HLEN.out, HM.out]; omega) (by omega))
      clear ho
      go_wp2
      clear hz
      go_loopw [17] (fun vk wq => ∃ (k : Nat), vk = .int .i64 (k : Int) ∧ i ≤ k ∧ k ≤ m ∧ OwnX E wq base (.slice (some ⟨g, 0, none⟩) len c) (rotL k m (m + 1) l) ∧ w.grownBy wq (some g)) (fun vk _ => (intOf vk).toNat)
      case atStart => exact ⟨m, rfl, hi3, Nat.le_refl _, by rw [R0.out]; exact OS.out, gb_below HB.out _⟩
      case round =>
        obtain ⟨k1, rfl, hk1, hk2, hO, hg⟩ := hrel
        by_cases hlt : i < k1
        · obtain ⟨k, rfl⟩ : ∃ k, k1 = k + 1 := ⟨k1 - 1, by omega⟩
          have hz : (i : Int) < ((k + 1 : Nat) : Int) := by omega
          have hml : m < l.length := by rw [HLEN.out]; omega
          have hcl : (rotL (k + 1) m (m + 1) l).length = len := by rw [rotL_len l (by omega) (by omega) (by omega), HLEN.out]
          obtain ⟨x, hx⟩ : ∃ x, (rotL (k + 1) m (m + 1) l)[k + 1]? = some x := ⟨_, List.getElem?_eq_getElem (by rw [hcl]; omega)⟩
          obtain ⟨y, hy⟩ : ∃ y, (rotL (k + 1) m (m + 1) l)[k]? = some y := ⟨_, List.getElem?_eq_getElem (by rw [hcl]; omega)⟩
          have hst := rot2_step (by omega) hml hx hy
          have hO1 := OwnX.drew hO
          have lx := OwnX.ld (P := P) hO1 (k + 1) x hx
          have ly := OwnX.ld (P := P) hO1 k y hy
          obtain ⟨s1, hO2, hg2⟩ := OwnX.sto (P := P) hO1 (k + 1) (by rw [hcl]; omega) y
          obtain ⟨s2, hO3, hg3⟩ := OwnX.sto (P := P) hO2 k (by rw [List.length_set, hcl]; omega) x
          rw [hst] at hO3
          have hex : (E.enc x).length = E.size := E.len x
          have hey : (E.enc y).length = E.size := E.len y
          have OWN := Lib.hid hO3
          have GR := Lib.hid (show w.grownBy _ (some g) from World.grownBy.trans (World.grownBy.trans (World.grownBy.trans hg (gb_drew _ _)) hg2) hg3)
          obtain ⟨q, hq⟩ : ∃ q, k + 1 = q := ⟨_, rfl⟩
          have eq1 : (q : Int) - 1 = (k : Int) := by omega
          have pb : (q : Int) < (len : Int) := by omega
          have pk : (k : Int) < (len : Int) := by omega
          have q1 : 1 ≤ q := by omega
          rw [hq] at lx s1 s2 OWN GR hz hk1 hk2 ⊢
          have HQ := Lib.hid hq
          clear hst hO3 hO2 hg3 hg2 hO1 hO hg hx hy hcl hq
          generalize E.enc x = cx at *
          generalize E.enc y = cy at *
          go_wp2_with fail
          go_big_region_o
          all_goals go_wp2
          go_roundw
          case rel => exact ⟨k, by first | rfl | go_num, by have := HQ.out; omega, by have := HQ.out; omega, OWN.out, GR.out⟩
          case measure => simp [intOf]; have := HQ.out; omega
        · have hz : ¬ (i : Int) < (k1 : Int) := by omega
          obtain rfl : k1 = i := by omega
          have HO := Lib.hid hO; have HG := Lib.hid hg
          clear hO hg
          go_wp2
          refine bodyPost_ret (v := .tuple #[]) (by simp [results, Tryd.results133, go_sem]) rfl ⟨rfl, _, DONE.out, by rw [HLEN.out, ← HM.out]; exact HO.out, HG.out⟩
end
end Go.Proofs.YtmjeifbadjdnfaaDoor
