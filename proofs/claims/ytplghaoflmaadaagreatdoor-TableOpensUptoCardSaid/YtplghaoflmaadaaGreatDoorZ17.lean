/- Contract of the library's insertionSortCmpFunc at cells, over any program that has its body; the lay at this program. No condition but room. Plain laws of cells by keys: adding one, the norm of a list, the fold of a sorted one, finding. They speak of no program; no condition. Contracts of purge's having: a map of a list's keys. Conditions: keys of the bounds. -/
import Derived.Test.YtplghaoflmaadaaGreatDoorZ16
import Derived.Test.YtplghaoflmaadaaGreatDoorZ13
import Derived.Test.YtplghaoflmaadaaGreatDoorZ15
import Derived.DeepKeys4
import Derived.Maps.Own
section
set_option linter.unusedVariables false
set_option linter.unusedSimpArgs false
set_option maxRecDepth 1000000
namespace Go.Proofs.YtplghaoflmaadaaGreatDoor
open Go.RowKit Go.Sort Go.Lib

section
variable {P : Program} {α : Type} [Inhabited α] {E : El α}
theorem arr_get (d : Array α) (k : Nat) (h : k < d.size) : d.toList[k]? = some d[k]! := by rw [toList_get, if_pos h]
set_option maxHeartbeats 4000000 in
theorem ins_gen (H : SoLay P E) {gf : Nat} {cf : α → α → Int} (C : SoCmp P E gf cf) (a b g c base : Nat) (l : List α) (w : World) (HO : OwnX E w base (.slice (some ⟨g, 0, none⟩) l.length c) l) (hab : a ≤ b) (hb : b ≤ l.length) (hl : l.length < 4611686018427387904) :
    Calls P 130 #[.slice (some ⟨g, 0, none⟩) l.length c, .int .i64 a, .int .i64 b, .func (.func gf) #[] #[]] w (SwapPost E w base g c l (· = (insertionSort (fun x y => decide (cf x y < 0)) l.toArray a b).toList)) := by
  have mixed := H.mixed; have t0 := H.t0; have a0 := H.a0; have z0 := H.z0; have v0 := H.v0; have t3 := H.t3; have a3 := H.a3; have z3 := H.z3; have v3 := H.v3; have t4 := H.t4; have a4 := H.a4; have z4 := H.z4; have v4 := H.v4; have tS := H.tS; have aS := H.aS; have zS := H.zS; have vS := H.vS; have tf := H.tf; have af := H.af; have zf := H.zf; have vf := H.vf; have aE := H.aE; have zE := H.zE
  have uS := run_underlying H.tS; have u3 := run_underlying H.t3
  have F4 := H.f4
  have eg := C.eg
  have HO0 := Lib.hid HO
  have CC := Lib.hid C
  obtain ⟨len, hlen⟩ : ∃ len, l.length = len := ⟨_, rfl⟩
  rw [hlen] at hb hl HO0 ⊢
  have HLEN := Lib.hid hlen
  clear HO hlen C
  go_enter F4, Tryz.ntmps130
  go_wp2
  go_loopw [8] (fun vi wr => ∃ (i : Nat) (dk : Array α), vi = .int .i64 (i : Int) ∧ a < i ∧ i ≤ b + 1 ∧ dk.size = len ∧ Hid (insOuter (fun x y => decide (cf x y < 0)) a b i dk = insOuter (fun x y => decide (cf x y < 0)) a b (a + 1) l.toArray) ∧ OwnX E wr base (.slice (some ⟨g, 0, none⟩) len c) dk.toList ∧ w.grownBy wr (some g)) (fun vi _ => b + 1 - (intOf vi).toNat)
  case atStart => exact ⟨a + 1, l.toArray, by go_num, by omega, by omega, by rw [List.size_toArray, HLEN.out], Lib.hid rfl, by simpa using HO0.out, World.grownBy.refl _ _⟩
  case round =>
    obtain ⟨i, dk, rfl, hai, hib, hsk, HI, hO, hg⟩ := hrel
    have OW := Lib.hid hO; have GW := Lib.hid hg
    clear hO hg
    by_cases hlt : i < b
    · have hz : (i : Int) < (b : Int) := by omega
      go_wp2
      go_loopw [9] (fun vj wq => ∃ (j : Nat) (dj : Array α), vj = .int .i64 (j : Int) ∧ a ≤ j ∧ j ≤ i ∧ dj.size = len ∧ Hid (insInner (fun x y => decide (cf x y < 0)) a j dj = insInner (fun x y => decide (cf x y < 0)) a i dk) ∧ OwnX E wq base (.slice (some ⟨g, 0, none⟩) len c) dj.toList ∧ w.grownBy wq (some g)) (fun vj _ => (intOf vj).toNat)
      case atStart => exact ⟨i, dk, rfl, by omega, Nat.le_refl _, hsk, Lib.hid rfl, OW.out, GW.out⟩
      case round =>
        obtain ⟨j, dj, rfl, haj, hji, hsj, HJ, hO, hg⟩ := hrel
        have OWJ := Lib.hid hO; have GWJ := Lib.hid hg
        clear hO hg
        have OUT := Lib.hid (fun (hs : j ≤ a ∨ (fun x y => decide (cf x y < 0)) dj[j]! dj[j - 1]! = false) => show insOuter (fun x y => decide (cf x y < 0)) a b (i + 1) dj = insOuter (fun x y => decide (cf x y < 0)) a b (a + 1) l.toArray by
          rw [← HI.out, insOuter_go _ _ _ _ _ hlt, ← HJ.out, insInner_stop _ _ _ _ hs])
        by_cases hja : a < j
        · obtain ⟨jp, rfl⟩ : ∃ jp, j = jp + 1 := ⟨j - 1, by omega⟩
          simp only [Nat.add_sub_cancel] at OUT
          have hx := arr_get dj (jp + 1) (by omega)
          have hy := arr_get dj jp (by omega)
          have SW := Lib.hid (swp_toList dj (jp + 1) jp)
          have GOI := Lib.hid (fun h => insInner_go (fun x y => decide (cf x y < 0)) a (jp + 1) dj hja h)
          simp only [Nat.add_sub_cancel] at GOI
          generalize dj[jp + 1]! = x at *
          generalize dj[jp]! = y at *
          obtain ⟨q, hq⟩ : ∃ q, jp + 1 = q := ⟨_, rfl⟩
          rw [hq] at hx SW GOI hja hji haj HJ OUT ⊢
          have eq1 : (q : Int) - 1 = (jp : Int) := by omega
          have ew : IntKind.i64.wrap ((q : Int) - 1) = (jp : Int) := by rw [IntKind.wrap_i64]; omega
          have ew2 : IntKind.i64.wrap (jp : Int) = (jp : Int) := by rw [IntKind.wrap_i64]; omega
          have pq : (q : Int) < (len : Int) := by omega
          have pj : (jp : Int) < (len : Int) := by omega
          have hjaz : (a : Int) < (q : Int) := by omega
          have q1' : 1 ≤ q := by omega
          have HQ := Lib.hid hq
          obtain ⟨cx, ex⟩ : ∃ cx, cx = E.enc x := ⟨_, rfl⟩
          obtain ⟨cy, ey⟩ : ∃ cy, cy = E.enc y := ⟨_, rfl⟩
          have lx := OwnX.lds (P := P) OWJ.out q x hx cx ex
          have ly := OwnX.lds (P := P) OWJ.out jp y hy cy ey
          have qc := Lib.hid (fun d os => CC.out.qc wr d os x y cx cy ex ey)
          have HX := Lib.hid hx; have HY := Lib.hid hy; have EX := Lib.hid ex; have EY := Lib.hid ey
          obtain ⟨r, hr0⟩ : ∃ r, cf x y = r := ⟨_, rfl⟩
          rw [hr0] at qc
          by_cases hr : r < 0
          · have HN := Lib.hid (GOI.out (by show decide (cf x y < 0) = true; rw [hr0]; exact decide_eq_true hr))
            have hb1 : decide (r < 0) = true := decide_eq_true hr
            clear OUT hx hy ex ey hr0 hq GOI
            go_wp2_with fail
            refine wp_region_quiet_below mixed (by kernel_rfl) ?_
            repeat (quiet_step (first | with_reducible exact qc.out _ _))
            refine wpQuiet_nil ?_
            intro w3 hw3
            have hb3 : Below wr.heap.size wr w3 := by obtain ⟨p, rfl⟩ := hw3; exact below_regrown _ _ _
            have O3 := OwnX.drew (OWJ.out.below hb3)
            have G3 := Lib.hid (show w.grownBy w3 (some g) from GWJ.out.trans (gb_below hb3 _))
            clear hw3 hb3 lx ly
            have hdl : dj.toList.length = len := by rw [Array.length_toList, hsj]
            have lx := OwnX.ld (P := P) O3 q x HX.out
            have ly := OwnX.ld (P := P) O3 jp y HY.out
            obtain ⟨s1, hO2, hg2⟩ := OwnX.sto (P := P) O3 q (by rw [hdl]; have := HQ.out; omega) y
            obtain ⟨s2, hO3, hg3⟩ := OwnX.sto (P := P) hO2 jp (by rw [List.length_set, hdl]; have := HQ.out; omega) x
            rw [← SW.out] at hO3
            have hex : (E.enc x).length = E.size := E.len x
            have hey : (E.enc y).length = E.size := E.len y
            have OWN := Lib.hid hO3
            have GR := Lib.hid (show w.grownBy _ (some g) from World.grownBy.trans (World.grownBy.trans (World.grownBy.trans G3.out (gb_drew _ _)) hg2) hg3)
            have HN2 := Lib.hid (HN.out.symm.trans HJ.out)
            clear hO3 hO2 hg3 hg2 O3 hdl EX EY HX HY HN
            generalize E.enc x = cx' at *
            generalize E.enc y = cy' at *
            go_wp2_with fail
            go_big_region_o
            all_goals go_wp2
            go_roundw
            case rel => exact ⟨jp, swp dj q jp, by first | rfl | go_num, by have := HQ.out; omega, by have := HQ.out; omega, by rw [size_swp]; exact hsj, HN2, OWN.out, GR.out⟩
            case measure => simp [intOf]; have := HQ.out; omega
          · have HN := Lib.hid (OUT.out (Or.inr (by rw [hr0]; exact decide_eq_false hr)))
            have hb1 : decide (r < 0) = false := decide_eq_false hr
            clear OUT hx hy ex ey hr0 hq GOI
            go_wp2_with fail
            refine wp_region_quiet_below mixed (by kernel_rfl) ?_
            repeat (quiet_step (first | with_reducible exact qc.out _ _))
            refine wpQuiet_nil ?_
            intro w3 hw3
            have hb3 : Below wr.heap.size wr w3 := by obtain ⟨p, rfl⟩ := hw3; exact below_regrown _ _ _
            have O3 := Lib.hid (OWJ.out.below hb3)
            have G3 := Lib.hid (show w.grownBy w3 (some g) from GWJ.out.trans (gb_below hb3 _))
            clear hw3 hb3 lx ly
            go_wp2
            go_roundw
            case rel => exact ⟨i + 1, dj, by go_num, by omega, by omega, hsj, HN, O3.out, G3.out⟩
            case measure => simp [intOf]; omega
        · have hjaz : decide ((j : Int) > (a : Int)) = false := decide_eq_false (by omega)
          have hjaz' : ¬ (a : Int) < (j : Int) := by omega
          have HN := Lib.hid (OUT.out (Or.inl (by omega)))
          clear OUT
          have O3 := Lib.hid (OwnX.drew OWJ.out)
          have G3 := Lib.hid (show w.grownBy wr.drew (some g) from GWJ.out.trans (gb_drew _ _))
          go_wp2_with fail
          go_big_region_o
          all_goals go_wp2
          go_roundw
          case rel => exact ⟨i + 1, dj, by go_num, by omega, by omega, hsj, HN, O3.out, G3.out⟩
          case measure => simp [intOf]; omega
    · have hz : ¬ (i : Int) < (b : Int) := by omega
      go_wp2
      refine bodyPost_end (v := .tuple #[]) (by simp [results, Tryz.results130, go_sem]) rfl ⟨rfl, dk.toList, by unfold insertionSort; rw [← HI.out, insOuter_stop _ _ _ _ _ hlt], by rw [HLEN.out]; exact OW.out, GW.out⟩
end
theorem soLay : SoLay Tryz.prog eC := {
  mixed := by kernel_rfl
  f1 := Tryz.func164
  f2 := Tryz.func149
  f3 := Tryz.func131
  f4 := Tryz.func130
  t0 := Tryz.underlying0
  a0 := Tryz.isAgg0
  z0 := Tryz.sizeOf0
  v0 := Tryz.zeroValue0
  t3 := Tryz.underlying3
  a3 := Tryz.isAgg3
  z3 := Tryz.sizeOf3
  v3 := Tryz.zeroValue3
  tu := Tryz.underlying59
  au := Tryz.isAgg59
  zu := Tryz.sizeOf59
  vu := Tryz.zeroValue59
  t4 := Tryz.underlying4
  a4 := Tryz.isAgg4
  z4 := Tryz.sizeOf4
  v4 := Tryz.zeroValue4
  tS := Tryz.underlying22
  aS := Tryz.isAgg22
  zS := Tryz.sizeOf22
  vS := Tryz.zeroValue22
  tf := Tryz.underlying104
  af := Tryz.isAgg104
  zf := Tryz.sizeOf104
  vf := Tryz.zeroValue104
  aE := Tryz.isAgg61
  zE := Tryz.sizeOf61 }
end Go.Proofs.YtplghaoflmaadaaGreatDoor
end

section
set_option linter.unusedVariables false
set_option linter.unusedSimpArgs false
set_option linter.unusedSectionVars false
namespace Go.Proofs.YtplghaoflmaadaaGreatDoor

/-- keys' order -/
structure KeyOrd {κ : Type} (kc : κ → κ → Int) : Prop where
  zero : ∀ a b, kc a b = 0 ↔ a = b
  neg : ∀ a b, kc b a = -kc a b
  tr : ∀ a b c, kc a b < 0 → kc b c < 0 → kc a c < 0
section
variable {κ ν : Type} [DecidableEq κ] {kc : κ → κ → Int} {jn : ν → ν → ν}
theorem KeyOrd.self (h : KeyOrd kc) (a : κ) : kc a a = 0 := (h.zero a a).2 rfl
theorem KeyOrd.ltOk (h : KeyOrd kc) : LtOk (fun a b : κ × ν => decide (kc a.1 b.1 < 0)) where
  irr x := by simp [h.self]
  tr x y z h1 h2 := by simp only [decide_eq_true_eq] at *; exact h.tr _ _ _ h1 h2
  ntr x y z h1 h2 := by
    simp only [decide_eq_false_iff_not] at *
    intro h3
    have n1 := h.neg x.1 y.1
    have n2 := h.neg y.1 z.1
    rcases Int.lt_trichotomy (kc y.1 x.1) 0 with a | a | a
    · have := h.tr _ _ _ a h3; omega
    · have : y.1 = x.1 := (h.zero _ _).1 a
      rw [this] at h2; omega
    · omega
def SortedK (kc : κ → κ → Int) (l : List (κ × ν)) : Prop := l.Pairwise fun a b => kc a.1 b.1 < 0
def findO (l : List (κ × ν)) (k : κ) : Option ν := (l.find? fun c => decide (c.1 = k)).map (·.2)
theorem findO_nil (k : κ) : findO ([] : List (κ × ν)) k = none := rfl
theorem findO_cons (x : κ × ν) (l : List (κ × ν)) (k : κ) : findO (x :: l) k = if x.1 = k then some x.2 else findO l k := by
  unfold findO
  by_cases h : x.1 = k
  · simp [h]
  · simp [h]
theorem findO_none (l : List (κ × ν)) (k : κ) : findO l k = none ↔ ∀ c ∈ l, c.1 ≠ k := by
  simp [findO]
theorem findO_some (l : List (κ × ν)) (k : κ) (v : ν) (h : findO l k = some v) : (k, v) ∈ l := by
  unfold findO at h
  rw [Option.map_eq_some_iff] at h
  obtain ⟨c, h1, h2⟩ := h
  have h3 := List.mem_of_find?_eq_some h1
  have h4 := List.find?_some h1
  simp only [decide_eq_true_eq] at h4
  rw [← h4, ← h2]
  exact h3
theorem findO_app (a b : List (κ × ν)) (k : κ) : findO (a ++ b) k = (findO a k).or (findO b k) := by
  induction a with
  | nil => simp [findO_nil]
  | cons x a ih => rw [List.cons_append, findO_cons, findO_cons, ih]; split <;> simp
theorem SortedK.find (ho : KeyOrd kc) {l : List (κ × ν)} (h : SortedK kc l) {c : κ × ν} (hc : c ∈ l) : findO l c.1 = some c.2 := by
  induction l with
  | nil => simp at hc
  | cons x l ih =>
    obtain ⟨h1, h2⟩ := List.pairwise_cons.1 h
    rw [findO_cons]
    rcases List.mem_cons.1 hc with rfl | hc
    · rw [if_pos rfl]
    · have := h1 c hc
      rw [if_neg (fun e => by rw [e, ho.self] at this; omega)]
      exact ih h2 hc
theorem sortedK_ext (ho : KeyOrd kc) : ∀ (l m : List (κ × ν)), SortedK kc l → SortedK kc m → (∀ k, findO l k = findO m k) → l = m
  | [], [], _, _, _ => rfl
  | [], y :: m, _, _, h => by have := h y.1; rw [findO_cons, if_pos rfl, findO_nil] at this; cases this
  | x :: l, [], _, _, h => by have := h x.1; rw [findO_cons, if_pos rfl, findO_nil] at this; cases this
  | x :: l, y :: m, hl, hm, h => by
    obtain ⟨l1, l2⟩ := List.pairwise_cons.1 hl
    obtain ⟨m1, m2⟩ := List.pairwise_cons.1 hm
    have hx : findO (y :: m) x.1 = some x.2 := by rw [← h, findO_cons, if_pos rfl]
    have hy : findO (x :: l) y.1 = some y.2 := by rw [h, findO_cons, if_pos rfl]
    have hxy : x.1 = y.1 := by
      refine Classical.byContradiction fun hne => ?_
      rcases List.mem_cons.1 (findO_some _ _ _ hx) with e | hxm
      · exact hne (congrArg Prod.fst e)
      · rcases List.mem_cons.1 (findO_some _ _ _ hy) with e | hyl
        · exact hne (congrArg Prod.fst e).symm
        · have a := m1 _ hxm
          have b := l1 _ hyl
          have n := ho.neg x.1 y.1
          simp only at a b
          omega
    have hv : x = y := by
      rw [findO_cons, if_pos hxy.symm] at hx
      obtain ⟨x1, x2⟩ := x; obtain ⟨y1, y2⟩ := y
      simp only [Option.some.injEq] at hx hxy
      rw [hxy, hx]
    subst hv
    congr 1
    refine sortedK_ext ho l m l2 m2 fun k => ?_
    have := h k
    rw [findO_cons, findO_cons] at this
    by_cases hk : x.1 = k
    · subst hk
      have a : findO l x.1 = none := (findO_none _ _).2 fun c hc e => by have := l1 c hc; rw [e, ho.self] at this; omega
      have b : findO m x.1 = none := (findO_none _ _).2 fun c hc e => by have := m1 c hc; rw [e, ho.self] at this; omega
      rw [a, b]
    · rwa [if_neg hk, if_neg hk] at this

/-! adding a cell, as the document says it -/
def addR (kc : κ → κ → Int) (jn : ν → ν → ν) (c : κ × ν) : Bool → List (κ × ν) → List (κ × ν)
  | done, [] => if done then [] else [c]
  | done, x :: r =>
    if kc x.1 c.1 = 0 then (x.1, jn x.2 c.2) :: addR kc jn c true r
    else if 0 < kc x.1 c.1 ∧ done = false then c :: x :: addR kc jn c true r
    else x :: addR kc jn c done r
def normL (kc : κ → κ → Int) (jn : ν → ν → ν) (l : List (κ × ν)) : List (κ × ν) := l.foldl (fun out c => addR kc jn c false out) []
def stepO (jn : ν → ν → ν) (k : κ) (o : Option ν) (c : κ × ν) : Option ν := if c.1 = k then some (match o with | none => c.2 | some v => jn v c.2) else o
theorem addR_done (ho : KeyOrd kc) (c : κ × ν) : ∀ l : List (κ × ν), (∀ x ∈ l, 0 < kc x.1 c.1) → addR kc jn c true l = l
  | [], _ => rfl
  | x :: l, h => by
    have h0 := h x (by simp)
    rw [addR, if_neg (by omega), if_neg (by simp), addR_done ho c l (fun y hy => h y (by simp [hy]))]
theorem addR_mem (c : κ × ν) : ∀ (l : List (κ × ν)) (d : Bool) (y : κ × ν), y ∈ addR kc jn c d l → y.1 = c.1 ∨ y.1 ∈ l.map (·.1)
  | [], d, y, h => by
    rw [addR] at h
    split at h
    · simp at h
    · simp at h; exact .inl (by rw [h])
  | x :: l, d, y, h => by
    rw [addR] at h
    split at h
    · rcases List.mem_cons.1 h with rfl | h
      · exact .inr (by simp)
      · rcases addR_mem c l _ y h with h | h
        · exact .inl h
        · exact .inr (by simp at h ⊢; exact .inr h)
    · split at h
      · rcases List.mem_cons.1 h with rfl | h
        · exact .inl rfl
        · rcases List.mem_cons.1 h with rfl | h
          · exact .inr (by simp)
          · rcases addR_mem c l _ y h with h | h
            · exact .inl h
            · exact .inr (by simp at h ⊢; exact .inr h)
      · rcases List.mem_cons.1 h with rfl | h
        · exact .inr (by simp)
        · rcases addR_mem c l _ y h with h | h
          · exact .inl h
          · exact .inr (by simp at h ⊢; exact .inr h)
theorem addR_law (ho : KeyOrd kc) (c : κ × ν) : ∀ l : List (κ × ν), SortedK kc l → SortedK kc (addR kc jn c false l) ∧ ∀ k, findO (addR kc jn c false l) k = stepO jn k (findO l k) c
  | [], _ => by
    refine ⟨List.pairwise_singleton _ _, fun k => ?_⟩
    rw [show addR kc jn c false [] = [c] from rfl, findO_cons, findO_nil]
    unfold stepO; rfl
  | x :: l, h => by
    obtain ⟨h1, h2⟩ := List.pairwise_cons.1 h
    have nx := ho.neg x.1 c.1
    have hgr : 0 ≤ kc x.1 c.1 → ∀ y ∈ l, 0 < kc y.1 c.1 := by
      intro hx y hy
      have a := h1 y hy
      have n1 := ho.neg y.1 c.1
      rcases Int.lt_or_le 0 (kc x.1 c.1) with hp | hp
      · have := ho.tr c.1 x.1 y.1 (by omega) a
        omega
      · have e : x.1 = c.1 := (ho.zero _ _).1 (by omega)
        rw [e] at a; omega
    have fn : 0 ≤ kc x.1 c.1 → findO l c.1 = none := fun hx => (findO_none _ _).2 fun y hy e => by
      have := hgr hx y hy
      rw [e, ho.self] at this; omega
    rw [addR]
    split
    · rename_i h0
      have e : x.1 = c.1 := (ho.zero _ _).1 h0
      rw [addR_done ho c l (hgr (by omega))]
      refine ⟨List.pairwise_cons.2 ⟨h1, h2⟩, fun k => ?_⟩
      rw [findO_cons, findO_cons]
      unfold stepO
      simp only [e]
      by_cases hk : c.1 = k
      · rw [if_pos hk, if_pos hk, if_pos hk]
      · rw [if_neg hk, if_neg hk, if_neg hk]
    · rename_i h0
      have hne : x.1 ≠ c.1 := fun e => h0 ((ho.zero _ _).2 e)
      split
      · rename_i hp
        rw [addR_done ho c l (hgr (by omega))]
        refine ⟨List.pairwise_cons.2 ⟨fun y hy => ?_, h⟩, fun k => ?_⟩
        · rcases List.mem_cons.1 hy with rfl | hy
          · omega
          · have := hgr (by omega) y hy
            have n := ho.neg y.1 c.1
            omega
        · rw [findO_cons, findO_cons]
          unfold stepO
          by_cases hk : c.1 = k
          · subst hk
            rw [if_pos rfl, if_pos rfl, if_neg hne, fn (by omega)]
          · rw [if_neg hk, if_neg hk]
      · rename_i hp
        obtain ⟨i1, i2⟩ := addR_law ho c l h2
        have hlt : kc x.1 c.1 < 0 := by
          rcases Int.lt_trichotomy (kc x.1 c.1) 0 with a | a | a
          · exact a
          · exact absurd a h0
          · exact absurd ⟨a, rfl⟩ hp
        refine ⟨List.pairwise_cons.2 ⟨fun y hy => ?_, i1⟩, fun k => ?_⟩
        · rcases addR_mem c l _ y hy with e | hm
          · rw [e]; exact hlt
          · rw [List.mem_map] at hm
            obtain ⟨z, hz, e⟩ := hm
            have := h1 z hz
            rwa [e] at this
        · rw [findO_cons, findO_cons, i2]
          unfold stepO
          by_cases hk : c.1 = k
          · subst hk
            rw [if_pos rfl, if_neg hne, if_pos rfl, if_neg hne]
          · rw [if_neg hk, if_neg hk]
theorem normL_from (ho : KeyOrd kc) : ∀ (l out : List (κ × ν)), SortedK kc out → SortedK kc (l.foldl (fun out c => addR kc jn c false out) out) ∧ ∀ k, findO (l.foldl (fun out c => addR kc jn c false out) out) k = l.foldl (stepO jn k) (findO out k)
  | [], out, h => ⟨h, fun _ => rfl⟩
  | c :: l, out, h => by
    obtain ⟨a, b⟩ := addR_law (jn := jn) ho c out h
    obtain ⟨i1, i2⟩ := normL_from ho l _ a
    exact ⟨i1, fun k => by rw [List.foldl_cons, i2, b, List.foldl_cons]⟩
theorem normL_sorted (ho : KeyOrd kc) (l : List (κ × ν)) : SortedK kc (normL kc jn l) := (normL_from ho l [] List.Pairwise.nil).1
theorem normL_find (ho : KeyOrd kc) (l : List (κ × ν)) (k : κ) : findO (normL kc jn l) k = l.foldl (stepO jn k) none := (normL_from ho l [] List.Pairwise.nil).2 k
theorem stepO_filter (k : κ) : ∀ (l : List (κ × ν)) (o : Option ν), l.foldl (stepO jn k) o = (l.filter fun c => decide (c.1 = k)).foldl (stepO jn k) o
  | [], o => rfl
  | c :: l, o => by
    by_cases h : c.1 = k
    · rw [List.filter_cons_of_pos (by simpa using h), List.foldl_cons, List.foldl_cons, stepO_filter k l]
    · rw [List.filter_cons_of_neg (by simpa using h), List.foldl_cons, stepO_filter k l]
      unfold stepO
      rw [if_neg h]
theorem stepO_none (k : κ) (l : List (κ × ν)) (h : ∀ c ∈ l, c.1 ≠ k) : ∀ o, l.foldl (stepO jn k) o = o := by
  intro o
  rw [stepO_filter, List.filter_eq_nil_iff.2 (by simpa using h)]; rfl
theorem stb_norm (ho : KeyOrd kc) {l m : List (κ × ν)} (h : Stb (fun a b : κ × ν => decide (kc a.1 b.1 < 0)) l m) (k : κ) : l.foldl (stepO jn k) none = m.foldl (stepO jn k) none := by
  by_cases hk : ∃ c ∈ l, c.1 = k
  · obtain ⟨c, _, hc⟩ := hk
    have e : ∀ x : κ × ν, decide (x.1 = k) = eqv (fun a b : κ × ν => decide (kc a.1 b.1 < 0)) c x := by
      intro x
      rw [Bool.eq_iff_iff, eqv_iff]
      simp only [decide_eq_true_eq, decide_eq_false_iff_not]
      have n := ho.neg c.1 x.1
      rw [← hc]
      constructor
      · intro e; rw [e, ho.self]; omega
      · intro e; exact ((ho.zero c.1 x.1).1 (by omega)).symm
    rw [stepO_filter k l, stepO_filter k m, show (fun x : κ × ν => decide (x.1 = k)) = eqv (fun a b : κ × ν => decide (kc a.1 b.1 < 0)) c from funext e, h.same c]
  · have h1 : ∀ c ∈ l, c.1 ≠ k := fun c hc e => hk ⟨c, hc, e⟩
    rw [stepO_none k l h1, stepO_none k m fun c hc => h1 c (h.perm.mem_iff.2 hc)]

/-! the fold of a list that is sorted -/
def foldS (jn : ν → ν → ν) (acc : List (κ × ν)) (x : κ × ν) : List (κ × ν) := match acc.getLast? with
  | none => acc ++ [x]
  | some y => if y.1 = x.1 then acc.dropLast ++ [(y.1, jn y.2 x.2)] else acc ++ [x]
theorem foldS_nil (x : κ × ν) : foldS jn [] x = [x] := rfl
theorem foldS_snoc (a : List (κ × ν)) (y x : κ × ν) : foldS jn (a ++ [y]) x = if y.1 = x.1 then a ++ [(y.1, jn y.2 x.2)] else a ++ [y] ++ [x] := by
  unfold foldS; simp
def foldL (jn : ν → ν → ν) (l : List (κ × ν)) : List (κ × ν) := l.foldl (foldS jn) []
theorem foldS_law (ho : KeyOrd kc) (acc : List (κ × ν)) (x : κ × ν) (hs : SortedK kc acc) (hx : ∀ y ∈ acc, ¬ kc x.1 y.1 < 0) : SortedK kc (foldS jn acc x) ∧ (∀ y ∈ foldS jn acc x, ¬ kc x.1 y.1 < 0) ∧ ∀ k, findO (foldS jn acc x) k = stepO jn k (findO acc k) x := by
  rcases List.eq_nil_or_concat acc with rfl | ⟨a, y, rfl⟩
  · rw [foldS_nil]
    refine ⟨List.pairwise_singleton _ _, fun z hz => ?_, fun k => ?_⟩
    · rw [List.mem_singleton] at hz; subst hz; rw [ho.self]; omega
    · rw [findO_cons, findO_nil]; unfold stepO; rfl
  · rw [List.concat_eq_append] at hs hx ⊢
    obtain ⟨s1, s2, s3⟩ := List.pairwise_append.1 hs
    have hy := hx y (by simp)
    have ny := ho.neg x.1 y.1
    rw [foldS_snoc]
    by_cases h : y.1 = x.1
    · rw [if_pos h]
      have s3' : ∀ z ∈ a, kc z.1 y.1 < 0 := fun z hz => s3 z hz y (by simp)
      refine ⟨List.pairwise_append.2 ⟨s1, List.pairwise_singleton _ _, fun z hz w hw => ?_⟩, fun z hz => ?_, fun k => ?_⟩
      · rw [List.mem_singleton] at hw; subst hw; exact s3' z hz
      · rcases List.mem_append.1 hz with hz | hz
        · exact hx z (by simp [hz])
        · rw [List.mem_singleton] at hz; subst hz; exact hy
      · have fa : findO a y.1 = none := (findO_none _ _).2 fun z hz e => by have := s3' z hz; rw [e, ho.self] at this; omega
        rw [findO_app, findO_app, findO_cons, findO_cons, findO_nil]
        unfold stepO
        by_cases hk : x.1 = k
        · subst hk
          rw [if_pos h, if_pos h, if_pos rfl, ← h, fa]; rfl
        · have hk' : ¬ y.1 = k := by rw [h]; exact hk
          simp only [hk, hk', if_false]
    · rw [if_neg h]
      have hlt : kc y.1 x.1 < 0 := by
        have : kc y.1 x.1 ≠ 0 := fun e => h ((ho.zero _ _).1 e)
        omega
      have hall : ∀ z ∈ a ++ [y], kc z.1 x.1 < 0 := by
        intro z hz
        rcases List.mem_append.1 hz with hz | hz
        · exact ho.tr _ _ _ (s3 z hz y (by simp)) hlt
        · rw [List.mem_singleton] at hz; subst hz; exact hlt
      refine ⟨List.pairwise_append.2 ⟨hs, List.pairwise_singleton _ _, fun z hz w hw => ?_⟩, fun z hz => ?_, fun k => ?_⟩
      · rw [List.mem_singleton] at hw; subst hw; exact hall z hz
      · rcases List.mem_append.1 hz with hz | hz
        · exact hx z hz
        · rw [List.mem_singleton] at hz; subst hz; rw [ho.self]; omega
      · rw [findO_app, findO_cons, findO_nil]
        unfold stepO
        by_cases hk : x.1 = k
        · subst hk
          have fa : findO (a ++ [y]) x.1 = none := (findO_none _ _).2 fun z hz e => by have := hall z hz; rw [e, ho.self] at this; omega
          rw [if_pos rfl, if_pos rfl, fa]; rfl
        · rw [if_neg hk, if_neg hk, Option.or_none]
theorem foldL_from (ho : KeyOrd kc) : ∀ (l acc : List (κ × ν)), SortedK kc acc → Srt (fun a b : κ × ν => decide (kc a.1 b.1 < 0)) l → (∀ x ∈ l, ∀ y ∈ acc, ¬ kc x.1 y.1 < 0) →
    SortedK kc (l.foldl (foldS jn) acc) ∧ ∀ k, findO (l.foldl (foldS jn) acc) k = l.foldl (stepO jn k) (findO acc k)
  | [], acc, hs, _, _ => ⟨hs, fun _ => rfl⟩
  | x :: l, acc, hs, hl, hx => by
    obtain ⟨l1, l2⟩ := List.pairwise_cons.1 hl
    obtain ⟨a, b, c⟩ := foldS_law (jn := jn) ho acc x hs (hx x (by simp))
    have hx' : ∀ z ∈ l, ∀ y ∈ foldS jn acc x, ¬ kc z.1 y.1 < 0 := by
      intro z hz y hy
      have h1 := l1 z hz
      have h2 := b y hy
      have := (ho.ltOk (ν := ν)).ntr z x y h1 (by simpa using h2)
      simpa using this
    obtain ⟨i1, i2⟩ := foldL_from ho l _ a l2 hx'
    exact ⟨i1, fun k => by rw [List.foldl_cons, i2, c, List.foldl_cons]⟩
/-- What a stable sort and the fold behind it leave is the norm. -/
theorem foldL_norm (ho : KeyOrd kc) {l m : List (κ × ν)} (h : Stb (fun a b : κ × ν => decide (kc a.1 b.1 < 0)) l m) (hm : Srt (fun a b : κ × ν => decide (kc a.1 b.1 < 0)) m) : foldL jn m = normL kc jn l := by
  obtain ⟨a, b⟩ := foldL_from (jn := jn) ho m [] List.Pairwise.nil hm (by simp)
  refine sortedK_ext ho _ _ a (normL_sorted ho l) fun k => ?_
  show findO (m.foldl (foldS jn) []) k = _
  rw [b, normL_find ho, findO_nil, stb_norm ho h k]
theorem foldS_len (acc : List (κ × ν)) (x : κ × ν) : (foldS jn acc x).length ≤ acc.length + 1 := by
  rcases List.eq_nil_or_concat acc with rfl | ⟨a, y, rfl⟩
  · simp [foldS_nil]
  · rw [List.concat_eq_append, foldS_snoc]
    split <;> simp
end
end Go.Proofs.YtplghaoflmaadaaGreatDoor
end

section
set_option linter.unusedVariables false
set_option linter.unusedSimpArgs false
set_option maxRecDepth 20000
namespace Go.Proofs.YtplghaoflmaadaaGreatDoor
open Go.RowKit Go.Sort
open Go.ChangeMaps (setBlock heap_setBlock_same heap_setBlock_other)

def kyVal (k : Ky) : Value := .agg #[.string k.t, .string k.p, .int .i64 k.r, .string k.c]
structure KyOk (k : Ky) : Prop where
  t : k.t.size ≤ 9223372036854775807
  p : k.p.size ≤ 9223372036854775807
  r : In64 k.r
  c : k.c.size ≤ 9223372036854775807
instance : DecidableEq Ky := fun a b => decidable_of_iff (a.t = b.t ∧ a.p = b.p ∧ a.r = b.r ∧ a.c = b.c) (by cases a; cases b; simp)
theorem kyVal_inj {a b : Ky} (h : kyVal a = kyVal b) : a = b := by
  cases a; cases b
  simp [kyVal] at h
  simp [h]
end Go.Proofs.YtplghaoflmaadaaGreatDoor
end
