/- Cells as values; contracts of the law's dead, of purge's Old. Conditions: numbers are ints. Contracts of cmp.Compare, of key's first, Cmp and Row: each returns what a plain function says, and the world is as it was but for draws and new blocks. No condition. Contract of the reference's Cmp of keys. No condition. -/
import Derived.Test.YtplghaoflmaadaaGreatDoorZ01
import Derived.Test.YtplghaoflmaadaaGreatDoorProg
import Derived.Test.YtplghaoflmaadaaGreatDoorZ00
section
set_option linter.unusedVariables false
set_option linter.unusedSimpArgs false
set_option maxRecDepth 20000
namespace Go.Proofs.YtplghaoflmaadaaGreatDoor
open Go.RowKit Go.Sort

def oldV (v : Vr) (now g : Int) : Bool := v.dead && (decide (v.loc ≤ now) && decide (max g 0 ≤ now - v.loc))
end Go.Proofs.YtplghaoflmaadaaGreatDoor
end

section
set_option linter.unusedVariables false
set_option linter.unusedSimpArgs false
namespace Go.Proofs.YtplghaoflmaadaaGreatDoor
open Go.RowKit

theorem isNaN_s (a : ByteArray) (w : World) : Calls Tryz.prog 126 #[.string a] w fun e w' => e = .returned (.bool false) ∧ w = w' := by
  go_enter Tryz.func126, Tryz.ntmps126
  go_wp2
  go_ret
  exact ⟨by simp, rfl⟩

theorem isNaN_i (a : Int) (w : World) : Calls Tryz.prog 127 #[.int .i64 a] w fun e w' => e = .returned (.bool false) ∧ w = w' := by
  go_enter Tryz.func127, Tryz.ntmps127
  go_wp2
  go_ret
  exact ⟨by simp, rfl⟩

def cmpI (a b : Int) : Int := if a < b then -1 else if b < a then 1 else 0
def cmpS (a b : ByteArray) : Int := if Op.bytesLess a.toList b.toList = true then -1 else if (!a.toList == b.toList) = true then 1 else 0

theorem cmp_i (a b : Int) (w : World) : Calls Tryz.prog 106 #[.int .i64 a, .int .i64 b] w fun e w' => e = .returned (.int .i64 (cmpI a b)) ∧ w = w' := by
  go_enter Tryz.func106, Tryz.ntmps106
  go_wp2_with (first | (go_at_call 127; refine (isNaN_i _ _).mono ?_; rintro e w' ⟨rfl, rfl⟩))
  all_goals go_ret
  all_goals exact ⟨ret_i (by unfold cmpI; first | (rw [if_pos ‹_›]) | (rw [if_neg (by omega), if_pos ‹_›]) | (rw [if_neg (by omega), if_neg (by omega)])), rfl⟩

theorem cmp_s (a b : ByteArray) (w : World) : Calls Tryz.prog 105 #[.string a, .string b] w fun e w' => e = .returned (.int .i64 (cmpS a b)) ∧ w = w' := by
  go_enter Tryz.func105, Tryz.ntmps105
  go_wp2_with (first | (go_at_call 126; refine (isNaN_s _ _).mono ?_; rintro e w' ⟨rfl, rfl⟩))
  all_goals go_ret
  all_goals exact ⟨ret_i (by unfold cmpS; simp [*]), rfl⟩

theorem first1 (a : Int) (w : World) : Calls Tryz.prog 125 #[.int .i64 a] w fun e w' => e = .returned (.bool (a != 0)) ∧ w = w' := by
  go_enter Tryz.func125, Tryz.ntmps125
  go_wp2
  go_ret
  exact ⟨rfl, rfl⟩

/-- the place of the first number that is not 0, from k on -/
def nz (xs : List Int) (k : Nat) : Int := if h : k < xs.length then (if xs[k] != 0 then (k : Int) else nz xs (k + 1)) else -1
  termination_by xs.length - k
theorem nz_bound (xs : List Int) (k : Nat) : nz xs k < xs.length ∧ (nz xs k = -1 ∨ 0 ≤ nz xs k) := by
  fun_induction nz xs k with
  | case1 k h h1 => omega
  | case2 k h h1 ih => exact ih
  | case3 k h => omega

theorem idx_nz (g o cap : Nat) (xs : List Int) (w : World) (hl : xs.length ≤ 9223372036854775807) (hx : ∀ k, (h : k < xs.length) → w.cell? ⟨g, o + k, none⟩ = some (.int .i64 xs[k])) :
    Calls Tryz.prog 122 #[.slice (some ⟨g, o, none⟩) xs.length cap, .func (.func 125) #[] #[]] w fun e w' => e = .returned (.int .i64 (nz xs 0)) ∧ w = w' := by
  go_enter Tryz.func122, Tryz.ntmps122
  go_wp2
  go_loop [8] (fun i => ∃ k : Nat, k ≤ xs.length ∧ i = .int .i64 k ∧ nz xs k = nz xs 0) (fun i => xs.length - (intOf i).toNat)
  case atStart => exact ⟨0, Nat.zero_le _, rfl, rfl⟩
  case round =>
    obtain ⟨k, hk, rfl, hz⟩ := hrel
    have HZ := Lib.hid hz; clear hz
    by_cases hlt : k < xs.length
    · have hc := hx k hlt
      clear hx
      go_wp2_with (first | (go_at_call 125; refine (first1 _ _).mono ?_; rintro e w' ⟨rfl, rfl⟩))
      · go_ret
        exact ⟨ret_i (by rw [← HZ.out, nz, dif_pos hlt, if_pos ‹_›]), rfl⟩
      · go_round
        case rel => exact ⟨k + 1, by omega, by go_num, by rw [← HZ.out, nz.eq_1 xs k, dif_pos hlt]; rw [if_neg (by rw [‹(xs[k] != 0) = false›]; decide)]⟩
        case measure => simp [intOf]; omega
    · go_wp2
      go_ret
      exact ⟨ret_i (by rw [← HZ.out, nz, dif_neg hlt]), rfl⟩

/-- the first number that is not 0 -/
def firstOf (xs : List Int) : Int := if nz xs 0 < 0 then 0 else xs.getD (nz xs 0).toNat 0

theorem first_any (g o cap : Nat) (xs : List Int) (w : World) (hl : xs.length ≤ 9223372036854775807) (hx : ∀ k, (h : k < xs.length) → w.cell? ⟨g, o + k, none⟩ = some (.int .i64 xs[k])) :
    Calls Tryz.prog 104 #[.slice (some ⟨g, o, none⟩) xs.length cap] w fun e w' => e = .returned (.int .i64 (firstOf xs)) ∧ w = w' := by
  obtain ⟨hb, hs⟩ := nz_bound xs 0
  have hc : ∀ n : Nat, nz xs 0 = n → w.cell? ⟨g, o + n, none⟩ = some (.int .i64 (xs.getD n 0)) := by
    intro n hn
    have h : n < xs.length := by omega
    rw [hx n h]; simp [List.getD_eq_getElem?_getD, List.getElem?_eq_getElem h]
  have hf : firstOf xs = if nz xs 0 < 0 then 0 else xs.getD (nz xs 0).toNat 0 := rfl
  have HI := idx_nz g o cap xs w hl hx
  clear hx
  rw [hf]; clear hf
  generalize nz xs 0 = z at *
  rcases hs with rfl | hs
  · have HI' := Lib.hid HI; clear HI hc
    go_enter Tryz.func104, Tryz.ntmps104
    go_wp2_with (first | (go_at_call 122; refine HI'.out.mono ?_; rintro e w' ⟨rfl, rfl⟩))
    go_ret
    exact ⟨rfl, rfl⟩
  · obtain ⟨n, rfl⟩ := Int.eq_ofNat_of_zero_le hs
    have HI' := Lib.hid HI; clear HI
    have hc' := hc n rfl
    clear hc
    go_enter Tryz.func104, Tryz.ntmps104
    go_wp2_with (first | (go_at_call 122; refine HI'.out.mono ?_; rintro e w' ⟨rfl, rfl⟩))
    go_ret
    exact ⟨rfl, rfl⟩

structure KeyV where
  t : ByteArray
  p : ByteArray
  r : Int
  c : ByteArray
def KeyV.val (k : KeyV) : Value := .agg #[.string k.t, .string k.p, .int .i64 k.r, .string k.c]
def cmpK (a b : KeyV) : Int := firstOf [cmpS a.t b.t, cmpS a.p b.p, cmpI a.r b.r, cmpS a.c b.c]

theorem Cmp_any (at_ ap ac bt bp bc : ByteArray) (ar br : Int) (w : World) :
    Calls Tryz.prog 62 #[.agg #[.string at_, .string ap, .int .i64 ar, .string ac], .agg #[.string bt, .string bp, .int .i64 br, .string bc]] w
      fun e w' => e = .returned (.int .i64 (firstOf [cmpS at_ bt, cmpS ap bp, cmpI ar br, cmpS ac bc])) ∧ Below w.heap.size w w' := by
  go_enter Tryz.func62, Tryz.ntmps62
  go_wp2_with fail
  go_region_held3 (fun w' => w'.cell? ⟨w.heap.size, 0, none⟩ = some (.string at_) ∧ w'.cell? ⟨w.heap.size, 1, none⟩ = some (.string ap) ∧ w'.cell? ⟨w.heap.size, 2, none⟩ = some (.int .i64 ar) ∧ w'.cell? ⟨w.heap.size, 3, none⟩ = some (.string ac) ∧
      w'.cell? ⟨w.heap.size + 1, 0, none⟩ = some (.string bt) ∧ w'.cell? ⟨w.heap.size + 1, 1, none⟩ = some (.string bp) ∧ w'.cell? ⟨w.heap.size + 1, 2, none⟩ = some (.int .i64 br) ∧ w'.cell? ⟨w.heap.size + 1, 3, none⟩ = some (.string bc)) (go_keep)
    (first | (go_at_call 105; refine (cmp_s _ _ _).mono ?_; rintro e w' ⟨rfl, rfl⟩) | (go_at_call 106; refine (cmp_i _ _ _).mono ?_; rintro e w' ⟨rfl, rfl⟩) | (go_at_call 104; refine (first_any _ _ _ [cmpS at_ bt, cmpS ap bp, cmpI ar br, cmpS ac bc] _ (by simp) (by intro k h; have h4 : k = 0 ∨ k = 1 ∨ k = 2 ∨ k = 3 := (by simp only [List.length_cons, List.length_nil] at h; omega); rcases h4 with rfl | rfl | rfl | rfl <;> go_simp)).mono ?_; rintro e w' ⟨rfl, rfl⟩))
  all_goals go_wp2
  all_goals go_ret
  all_goals exact ⟨rfl, by (repeat (first | exact Below.refl _ _ | assumption | refine below_alloc ?_ _ | refine Below.drew ?_ | refine below_drewN ?_ _ | refine below_tr ?_ (by assumption)))⟩
end Go.Proofs.YtplghaoflmaadaaGreatDoor
end

section
set_option linter.unusedVariables false
set_option linter.unusedSimpArgs false
set_option maxRecDepth 50000
namespace Go.Proofs.YtplghaoflmaadaaGreatDoor
open Go.RowKit Go.Lib

theorem texts_any (a b : ByteArray) (w : World) : Calls Tryz.prog 76 #[.string a, .string b] w fun e w' => e = .returned (.int .i64 (cmpS a b)) ∧ w = w' := by
  go_enter Tryz.func76, Tryz.ntmps76
  go_wp2
  all_goals go_ret
  all_goals exact ⟨ret_i (by unfold cmpS; simp [*]), rfl⟩

def cmpR (at_ ap ac bt bp bc : ByteArray) (ar br : Int) : Int :=
  if (!at_.toList == bt.toList) = true then cmpS at_ bt else if (!ap.toList == bp.toList) = true then cmpS ap bp else if ar < br then -1 else if br < ar then 1 else cmpS ac bc

theorem rCmp_any (at_ ap ac bt bp bc : ByteArray) (ar br : Int) (w : World) :
    Calls Tryz.prog 28 #[.agg #[.string at_, .string ap, .int .i64 ar, .string ac], .agg #[.string bt, .string bp, .int .i64 br, .string bc]] w
      fun e w' => e = .returned (.int .i64 (cmpR at_ ap ac bt bp bc ar br)) ∧ Below w.heap.size w w' := by
  go_enter Tryz.func28, Tryz.ntmps28
  go_wp2_with (first | (go_at_call_of 76 at_; refine (texts_any _ _ _).mono ?_; rintro e w' ⟨rfl, rfl⟩) | (go_at_call_of 76 ap; refine (texts_any _ _ _).mono ?_; rintro e w' ⟨rfl, rfl⟩) | (go_at_call_of 76 ac; refine (texts_any _ _ _).mono ?_; rintro e w' ⟨rfl, rfl⟩))
  all_goals go_ret
  all_goals refine ⟨ret_i ?_, by (repeat (first | exact Below.refl _ _ | assumption | refine below_alloc ?_ _ | refine Below.drew ?_ | refine below_drewN ?_ _ | refine below_tr ?_ (by assumption)))⟩
  all_goals unfold cmpR
  all_goals grind
end Go.Proofs.YtplghaoflmaadaaGreatDoor
end
