/- Contracts of cmp.Or at two numbers, of ring.New's order; a ring's points in memory. No condition. -/
import Derived.Test.YtmjeifbadjdnfaaDoorSt
import Derived.Test.YtmjeifbadjdnfaaDoorKa
import Derived.Test.YtmjeifbadjdnfaaDoorGa
set_option linter.unusedVariables false
set_option linter.unusedSimpArgs false
set_option maxRecDepth 20000
namespace Go.Proofs.YtmjeifbadjdnfaaDoor
open Go.RowKit Go.Sort

/-- Draws and new blocks, as an equation. -/
def Grw (W w : World) : Prop := ∃ q os, w = grow (W.drewN q) os
theorem Grw.refl (W : World) : Grw W W := ⟨0, #[], by rw [grow_empty]; rfl⟩
theorem Grw.drew {W w : World} (h : Grw W w) : Grw W w.drew := by
  obtain ⟨q, os, rfl⟩ := h
  exact ⟨q + 1, os, rfl⟩
theorem Grw.al {W w : World} (h : Grw W w) (o : Obj) : Grw W (w.alloc o) := by
  obtain ⟨q, os, rfl⟩ := h
  exact ⟨q, os ++ #[o], by rw [alloc_eq_grow, grow_grow]⟩
theorem Grw.below {W w : World} (h : Grw W w) : Below W.heap.size W w := by
  obtain ⟨q, os, rfl⟩ := h
  refine ⟨rfl, rfl, rfl, by simp [grow, World.drewN], fun k hk => heap_grow_old _ _ hk⟩
theorem Grw.tr {W w w1 : World} (h : Grw W w) (k : Grw w w1) : Grw W w1 := by
  obtain ⟨q, os, rfl⟩ := h
  obtain ⟨q', os', rfl⟩ := k
  exact ⟨q + q', os ++ os', by
    show grow (grow ((W.drewN q).drewN q') os) os' = _
    rw [grow_grow]
    show grow { W with drawn := W.drawn + q + q' } _ = grow { W with drawn := W.drawn + (q + q') } _
    rw [Nat.add_assoc]⟩

def ptEnc (p : Pt) : List Value := [.int .i64 p.1, .int .i64 p.2]
theorem ptEnc_one : ∀ (x : Pt) (u : Value), u ∈ ptEnc x → u.oneCell' = true := fun x u hu => by
  simp [ptEnc] at hu
  rcases hu with rfl | rfl <;> rfl
theorem infoPt : (Tryd.prog.info? 63).map (fun i => (i.zero, i.size, i.bytes)) = some (some (.agg #[.int .i64 0, .int .i64 0]), 2, 16) := by kernel_rfl
/-- the program's points -/
def eP : El Pt := { st := 52, t := 63, size := 2, bytes := 16, z := .agg #[.int .i64 0, .int .i64 0], enc := ptEnc, len := fun _ => rfl, one := ptEnc_one, info := infoPt, und := Tryd.underlying52, elem := by kernel_rfl, zs := by kernel_rfl, pos := by decide }
theorem infoPq : (Tryd.prog.info? 64).map (fun i => (i.zero, i.size, i.bytes)) = some (some (.agg #[.int .i64 0, .int .i64 0]), 2, 16) := by kernel_rfl
/-- the document's points -/
def eQ : El Pt := { st := 54, t := 64, size := 2, bytes := 16, z := .agg #[.int .i64 0, .int .i64 0], enc := ptEnc, len := fun _ => rfl, one := ptEnc_one, info := infoPq, und := Tryd.underlying54, elem := by kernel_rfl, zs := by kernel_rfl, pos := by decide }

def orI (a b : Int) : Int := if a ≠ 0 then a else b
set_option maxHeartbeats 1000000 in
theorem or_any (g o cap : Nat) (a b : Int) (w : World) (h0 : w.cell? ⟨g, o, none⟩ = some (.int .i64 a)) (h1 : w.cell? ⟨g, o + 1, none⟩ = some (.int .i64 b)) :
    Calls Tryd.prog 48 #[.slice (some ⟨g, o, none⟩) 2 cap] w fun e w' => e = .returned (.int .i64 (orI a b)) ∧ w = w' := by
  unfold orI
  by_cases ha : a = 0
  · subst ha
    rw [if_neg (by simp)]
    by_cases hb : b = 0
    · subst hb
      go_enter Tryd.func48, Tryd.ntmps48
      go_wp2_with fail
      go_loop [5, 8] (fun _ i => ∃ k : Nat, k ≤ 2 ∧ i = .int .i64 k) (fun _ i => 2 - (intOf i).toNat)
      case atStart => exact ⟨0, by omega, rfl⟩
      case round =>
        obtain ⟨k, hk, rfl⟩ := hrel
        have h3 : k = 0 ∨ k = 1 ∨ k = 2 := by omega
        rcases h3 with rfl | rfl | rfl
        · go_wp2_with fail
          go_round
          case rel => exact ⟨1, by omega, rfl⟩
          case measure => simp [intOf]
        · go_wp2_with fail
          go_round
          case rel => exact ⟨2, by omega, rfl⟩
          case measure => simp [intOf]
        · go_wp2_with fail
          go_ret
          exact ⟨rfl, rfl⟩
    · have hb' : (b == 0) = false := by simpa using hb
      have hb2 : (b != 0) = true := by simpa using hb
      go_enter Tryd.func48, Tryd.ntmps48
      go_wp2_with fail
      go_loop [5, 8] (fun _ i => ∃ k : Nat, k ≤ 1 ∧ i = .int .i64 k) (fun _ i => 2 - (intOf i).toNat)
      case atStart => exact ⟨0, by omega, rfl⟩
      case round =>
        obtain ⟨k, hk, rfl⟩ := hrel
        have h3 : k = 0 ∨ k = 1 := by omega
        rcases h3 with rfl | rfl
        · go_wp2_with fail
          go_round
          case rel => exact ⟨1, by omega, rfl⟩
          case measure => simp [intOf]
        · go_wp2_with fail
          go_ret
          exact ⟨rfl, rfl⟩
  · rw [if_pos ha]
    have hb' : (a == 0) = false := by simpa using ha
    have hb2 : (a != 0) = true := by simpa using ha
    go_enter Tryd.func48, Tryd.ntmps48
    go_wp2_with fail
    go_loop [5, 8] (fun _ i => i = .int .i64 (0 : Nat)) (fun _ i => 2 - (intOf i).toNat)
    case atStart => rfl
    case round =>
      obtain rfl := hrel
      go_wp2_with fail
      go_ret
      exact ⟨rfl, rfl⟩

def ptCmp (a b : Pt) : Int := orI (cmpI a.1 b.1) (cmpI a.2 b.2)
theorem ptCmp_le (x y : Pt) : (!(ltOf ptCmp) y x) = ptLe x y := by
  rw [Bool.eq_iff_iff, ptLe_iff]
  simp only [ltOf, ptCmp, orI, cmpI, Bool.not_eq_true', decide_eq_false_iff_not]
  by_cases h1 : y.1 < x.1
  · simp [h1] <;> omega
  · by_cases h2 : x.1 < y.1
    · simp [h1, h2]
    · by_cases h3 : y.2 < x.2
      · simp [h1, h2, h3] <;> omega
      · by_cases h4 : x.2 < y.2
        · simp [h1, h2, h3, h4] <;> omega
        · simp [h1, h2, h3, h4] <;> omega
theorem ptCmp_lt (x y : Pt) : (ltOf ptCmp) x y = !ptLe y x := by rw [← ptCmp_le, Bool.not_not]
theorem ptCmp_swo : SWO (ltOf ptCmp) where
  irrefl x := by rw [ptCmp_lt]; simp [ptLe]
  trans x y z h1 h2 := by
    rw [ptCmp_lt] at *
    simp only [Bool.not_eq_true', Bool.eq_false_iff, ne_eq, ptLe_iff] at *
    omega
  ntrans x y z h1 h2 := by
    rw [ptCmp_lt] at *
    simp only [Bool.not_eq_false', ptLe_iff] at *
    omega
theorem ptCmp_total (x y : Pt) (h1 : (ltOf ptCmp) x y = false) (h2 : (ltOf ptCmp) y x = false) : x = y := by
  rw [ptCmp_lt] at *
  exact ptLe_anti x y (by simpa using h2) (by simpa using h1)

set_option maxHeartbeats 2000000 in
theorem newCmp_any (x y : Pt) (W : World) :
    Calls Tryd.prog 47 #[.agg (ptEnc x).toArray, .agg (ptEnc y).toArray] W fun e w' => e = .returned (.int .i64 (ptCmp x y)) ∧ ∃ q os', w' = grow (W.drewN q) os' := by
  obtain ⟨x1, x2⟩ := x
  obtain ⟨y1, y2⟩ := y
  show Calls Tryd.prog 47 #[.agg #[.int .i64 x1, .int .i64 x2], .agg #[.int .i64 y1, .int .i64 y2]] W fun e w' => e = .returned (.int .i64 (orI (cmpI x1 y1) (cmpI x2 y2))) ∧ Grw W w'
  have HG0 := Lib.hid (((Grw.refl W).al (.cells #[.int .i64 x1, .int .i64 x2] 63)).al (.cells #[.int .i64 y1, .int .i64 y2] 63))
  have C1 := fun W => cmp_i x1 y1 W
  have C2 := fun W => cmp_i x2 y2 W
  generalize cmpI x1 y1 = c1 at *
  generalize cmpI x2 y2 = c2 at *
  have C1' := Lib.hid C1; have C2' := Lib.hid C2
  clear C1 C2
  go_enter Tryd.func47, Tryd.ntmps47
  go_wp2_with fail
  go_region_held3 (fun w' => w'.cell? ⟨W.heap.size, 0, none⟩ = some (.int .i64 x1) ∧ w'.cell? ⟨W.heap.size, 1, none⟩ = some (.int .i64 x2) ∧ w'.cell? ⟨W.heap.size + 1, 0, none⟩ = some (.int .i64 y1) ∧ w'.cell? ⟨W.heap.size + 1, 1, none⟩ = some (.int .i64 y2)) (go_keep)
    (first
      | (go_at_call 49; (first | with_reducible refine (C1'.out _).mono ?_ | with_reducible refine (C2'.out _).mono ?_); rintro e w' ⟨rfl, rfl⟩)
      | (go_at_call 48; refine (or_any _ _ _ c1 c2 _ (by go_simp) (by go_simp)).mono ?_; rintro e w' ⟨rfl, rfl⟩))
  all_goals go_wp2
  all_goals go_ret
  all_goals exact ⟨rfl, by repeat (first | exact HG0.out | exact Grw.refl _ | refine Grw.drew ?_ | refine Grw.al ?_ _)⟩
end Go.Proofs.YtmjeifbadjdnfaaDoor
