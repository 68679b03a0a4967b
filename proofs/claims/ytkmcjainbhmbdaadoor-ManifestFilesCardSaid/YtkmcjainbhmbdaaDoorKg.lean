/- Contracts of the reference's Print, Cmp and Row of keys. Conditions: the lengths leave room; a number is one of int64. -/
import Derived.Test.YtkmcjainbhmbdaaDoorKf
import Derived.Test.YtkmcjainbhmbdaaDoorKb
set_option linter.unusedVariables false
set_option linter.unusedSimpArgs false
set_option maxRecDepth 50000
namespace Go.Proofs.YtkmcjainbhmbdaaDoor
open Go.RowKit Go.Lib

theorem cat_lists (a b : List UInt8) : ((⟨a.toArray⟩ : ByteArray) ++ ⟨b.toArray⟩) = ⟨(a ++ b).toArray⟩ := ByteArray.mk_append_mk a b

set_option maxHeartbeats 1000000 in
theorem rPrint_any (t p c : ByteArray) (r : Int) (w : World) (h1 : t.size + p.size + c.size ≤ 1000000) (r0 : -9223372036854775808 ≤ r) (r1 : r ≤ 9223372036854775807) :
    Calls Tryd.prog 47 #[.agg #[.string t, .string p, .int .i64 r, .string c]] w fun e w' => e = .returned (sv (printL t.toList p.toList r c.toList)) ∧ Below w.heap.size w w' := by
  rw [printL_eq]
  have a1 := maskL_len t.toList; have a2 := maskL_len p.toList; have a3 := maskL_len c.toList; have a4 := itoa_length_le r r0 r1
  rw [str_len] at a1 a2 a3
  have HM1 := fun W => masked_any t W (by omega)
  have HM2 := fun W => masked_any p W (by omega)
  have HM3 := fun W => masked_any c W (by omega)
  have HI := fun W => Digits_any r r0 r1 W
  generalize itoa r = z at *
  generalize maskL t.toList = mt at *
  generalize maskL p.toList = mp at *
  generalize maskL c.toList = mc at *
  have b1 : mt.length ≤ 9000000 := by omega
  have b2 : mp.length ≤ 9000000 := by omega
  have b3 : mc.length ≤ 9000000 := by omega
  have n1 : ¬ 9223372036854775807 < mt.length + 1 := by omega
  have n2 : ¬ 9223372036854775807 < mt.length + 1 + mp.length := by omega
  have n3 : ¬ 9223372036854775807 < mt.length + 1 + mp.length + 1 := by omega
  have n4 : ¬ 9223372036854775807 < mt.length + 1 + mp.length + 1 + z.length := by omega
  have n5 : ¬ 9223372036854775807 < mt.length + 1 + mp.length + 1 + z.length + 1 := by omega
  have n6 : ¬ 9223372036854775807 < mt.length + 1 + mp.length + 1 + z.length + 1 + mc.length := by omega
  clear a1 a2 a3 h1 r0 r1
  have HM1' := Lib.hid HM1; clear HM1
  have HM2' := Lib.hid HM2; clear HM2
  have HM3' := Lib.hid HM3; clear HM3
  have HI' := Lib.hid HI; clear HI
  go_enter Tryd.func47, Tryd.ntmps47
  go_wp2_with fail
  have hb0 : Below w.heap.size w (w.alloc (kbox t p c r)) := below_alloc (Below.refl _ _) _
  have hc0 : (w.alloc (kbox t p c r)).cell? ⟨w.heap.size, 0, none⟩ = some (.string t) := by simp [kbox]
  have hc1 : (w.alloc (kbox t p c r)).cell? ⟨w.heap.size, 1, none⟩ = some (.string p) := by simp [kbox]
  have hc2 : (w.alloc (kbox t p c r)).cell? ⟨w.heap.size, 2, none⟩ = some (.int .i64 r) := by simp [kbox]
  have hc3 : (w.alloc (kbox t p c r)).cell? ⟨w.heap.size, 3, none⟩ = some (.string c) := by simp [kbox]
  unfold kbox at *
  generalize w.alloc (.cells #[.string t, .string p, .int .i64 r, .string c] 60) = W at *
  have HS : ∀ w', Below W.heap.size W w' → (Below W.heap.size W w' ∧ w'.cell? ⟨w.heap.size, 0, none⟩ = some (.string t) ∧ w'.cell? ⟨w.heap.size, 1, none⟩ = some (.string p) ∧ w'.cell? ⟨w.heap.size, 2, none⟩ = some (.int .i64 r) ∧ w'.cell? ⟨w.heap.size, 3, none⟩ = some (.string c)) := fun w' h => ⟨h, cell_keep h hc0, cell_keep h hc1, cell_keep h hc2, cell_keep h hc3⟩
  have HS' := Lib.hid HS; clear HS
  go_region_held3 (fun w' => Below W.heap.size W w' ∧ w'.cell? ⟨w.heap.size, 0, none⟩ = some (.string t) ∧ w'.cell? ⟨w.heap.size, 1, none⟩ = some (.string p) ∧ w'.cell? ⟨w.heap.size, 2, none⟩ = some (.int .i64 r) ∧ w'.cell? ⟨w.heap.size, 3, none⟩ = some (.string c)) (first | exact HS'.out _ (Below.drew (Below.refl _ _)) | exact HS'.out _ (below_tr (And.left (by assumption)) (by assumption)) | exact HS'.out _ (And.left (by assumption)))
    (first | (go_at_call_of 87 t; refine (HM1'.out _).mono ?_; rintro e w' ⟨rfl, rfl⟩) | (go_at_call_of 87 p; refine (HM2'.out _).mono ?_; rintro e w' ⟨rfl, rfl⟩) | (go_at_call_of 87 c; refine (HM3'.out _).mono ?_; rintro e w' ⟨rfl, rfl⟩) | (go_at_call 65; refine (HI'.out _).mono ?_; rintro e w' ⟨rfl, hb⟩))
  all_goals go_wp2
  all_goals go_ret
  all_goals exact ⟨ret_s (by rw [show (⟨#[47]⟩ : ByteArray) = ⟨[47].toArray⟩ from rfl]; simp only [cat_lists, List.append_assoc, List.cons_append, List.nil_append]), below_tr hb0 (‹Below W.heap.size W _ ∧ _›).1⟩

theorem texts_any (a b : ByteArray) (w : World) : Calls Tryd.prog 81 #[.string a, .string b] w fun e w' => e = .returned (.int .i64 (cmpS a b)) ∧ w = w' := by
  go_enter Tryd.func81, Tryd.ntmps81
  go_wp2
  all_goals go_ret
  all_goals exact ⟨ret_i (by unfold cmpS; simp [*]), rfl⟩

def cmpR (at_ ap ac bt bp bc : ByteArray) (ar br : Int) : Int :=
  if (!at_.toList == bt.toList) = true then cmpS at_ bt else if (!ap.toList == bp.toList) = true then cmpS ap bp else if ar < br then -1 else if br < ar then 1 else cmpS ac bc

theorem rCmp_any (at_ ap ac bt bp bc : ByteArray) (ar br : Int) (w : World) :
    Calls Tryd.prog 37 #[.agg #[.string at_, .string ap, .int .i64 ar, .string ac], .agg #[.string bt, .string bp, .int .i64 br, .string bc]] w
      fun e w' => e = .returned (.int .i64 (cmpR at_ ap ac bt bp bc ar br)) ∧ Below w.heap.size w w' := by
  go_enter Tryd.func37, Tryd.ntmps37
  go_wp2_with (first | (go_at_call_of 81 at_; refine (texts_any _ _ _).mono ?_; rintro e w' ⟨rfl, rfl⟩) | (go_at_call_of 81 ap; refine (texts_any _ _ _).mono ?_; rintro e w' ⟨rfl, rfl⟩) | (go_at_call_of 81 ac; refine (texts_any _ _ _).mono ?_; rintro e w' ⟨rfl, rfl⟩))
  all_goals go_ret
  all_goals refine ⟨ret_i ?_, by (repeat (first | exact Below.refl _ _ | assumption | refine below_alloc ?_ _ | refine Below.drew ?_ | refine below_drewN ?_ _ | refine below_tr ?_ (by assumption)))⟩
  all_goals unfold cmpR
  all_goals grind

theorem rRow_any (t p c : ByteArray) (r : Int) (w : World) :
    Calls Tryd.prog 46 #[.agg #[.string t, .string p, .int .i64 r, .string c]] w fun e w' => e = .returned (.agg #[.string t, .string p, .int .i64 r, .string ⟨#[]⟩]) ∧ Below w.heap.size w w' := by
  go_enter Tryd.func46, Tryd.ntmps46
  go_wp2
  exact bodyPost_ret (v := .agg #[.string t, .string p, .int .i64 r, .string ⟨#[]⟩]) (by simp [results, Tryd.results46, go_sem]) rfl ⟨rfl, by (repeat (first | exact Below.refl _ _ | assumption | refine below_alloc ?_ _ | refine Below.drew ?_ | refine below_drewN ?_ _ | refine below_tr ?_ (by assumption)))⟩
end Go.Proofs.YtkmcjainbhmbdaaDoor
