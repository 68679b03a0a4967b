/- Contracts of the reference's Same and of the law's lives: the document's examples are as it says. No condition. -/
import Derived.Test.YtkmcjainbhmbdaaDoorKg
import Derived.Test.YtkmcjainbhmbdaaDoorKb
import Derived.Test.YtkmcjainbhmbdaaDoorKc
set_option linter.unusedVariables false
set_option linter.unusedSimpArgs false
set_option maxRecDepth 50000
namespace Go.Proofs.YtkmcjainbhmbdaaDoor
open Go.RowKit Go.Lib

theorem Same_any (x y : Value) (a b : List UInt8) (w : World) (hx : ReadsB w x a) (hy : ReadsB w y b) :
    Calls Tryd.prog 22 #[x, y] w fun e w' => e = .returned (.bool (a == b)) ∧ w = w' := by
  have h1 := hx.out
  have h2 := hy.out
  clear hx hy
  go_enter Tryd.func22, Tryd.ntmps22
  go_wp2
  go_ret
  exact ⟨rfl, rfl⟩

theorem cmp_example : firstOf [cmpS ⟨#[116]⟩ ⟨#[116]⟩, cmpS ⟨#[97]⟩ ⟨#[97]⟩, cmpI 1 2, cmpS ⟨#[120]⟩ ⟨#[98]⟩] = -1 := by
  have e1 : cmpS ⟨#[116]⟩ ⟨#[116]⟩ = 0 := by unfold cmpS; simp [ByteArray.toList_eq, Op.bytesLess]
  have e2 : cmpS ⟨#[97]⟩ ⟨#[97]⟩ = 0 := by unfold cmpS; simp [ByteArray.toList_eq, Op.bytesLess]
  have e3 : cmpI 1 2 = -1 := by decide
  rw [e1, e2, e3]
  simp [firstOf, nz]
theorem print_example : printL [116] [97, 47, 98] (-3) [120] = [116, 47, 97, 37, 50, 102, 98, 47, 45, 51, 47, 120] := by
  have e : itoa (-3) = [45, 51] := by simp [itoa, decDigits]
  rw [printL_eq, e]; decide
theorem bytes_example : keyBytes ⟨#[116]⟩ ⟨#[97]⟩ 0 ⟨#[]⟩ = [116, 0, 0, 97, 0, 0, 128, 0, 0, 0, 0, 0, 0, 0, 0, 0] := by
  have e : row8 (rowU 0) = [128, 0, 0, 0, 0, 0, 0, 0] := by decide +kernel
  unfold keyBytes
  rw [e, esc_eq, esc_eq, esc_eq]
  simp only [ByteArray.toList_eq]
  decide
theorem good_example : goodB ⟨#[116]⟩ ⟨#[97]⟩ ⟨#[120]⟩ = true := by
  have e1 : nameB ⟨#[116]⟩ = true := by decide +kernel
  have e2 : nameB ⟨#[120]⟩ = true := by decide +kernel
  unfold goodB strE
  rw [e1, e2]
  simp [ByteArray.toList_eq]; decide

set_option maxHeartbeats 1000000 in
theorem lives4 (w : World) (he : Env w) : Calls Tryd.prog 38 #[] w fun e w' => e = .returned (.bool true) ∧ Below w.heap.size w w' := by
  have H1 := fun W => Cmp_any ⟨#[116]⟩ ⟨#[97]⟩ ⟨#[120]⟩ ⟨#[116]⟩ ⟨#[97]⟩ ⟨#[98]⟩ 1 2 W
  rw [cmp_example] at H1
  have H2 := fun W hE => Print_any ⟨#[116]⟩ ⟨#[97, 47, 98]⟩ ⟨#[120]⟩ (-3) W hE (by decide) (by decide) (by decide)
  simp only [ByteArray.toList_eq] at H2
  rw [print_example] at H2
  have H3 := fun W hE => Bytes_any ⟨#[116]⟩ ⟨#[97]⟩ ⟨#[]⟩ 0 W hE (by decide)
  rw [bytes_example] at H3
  have H4 := fun W => good_any ⟨#[116]⟩ ⟨#[97]⟩ ⟨#[120]⟩ 1 W (by decide) (by decide) (by decide)
  rw [good_example] at H4
  have H1' := Lib.hid H1; clear H1
  have H2' := Lib.hid H2; clear H2
  have H3' := Lib.hid H3; clear H3
  have H4' := Lib.hid H4; clear H4
  have he' := Lib.hid he; clear he
  go_enter Tryd.func38, Tryd.ntmps38
  go_wp2_with fail
  have hb0 : Below w.heap.size w ((w.alloc (kbox ⟨#[116]⟩ ⟨#[97]⟩ ⟨#[120]⟩ 1)).alloc (kbox ⟨#[116]⟩ ⟨#[97]⟩ ⟨#[98]⟩ 2)) := below_alloc (below_alloc (Below.refl _ _) _) _
  have hc0 : ((w.alloc (kbox ⟨#[116]⟩ ⟨#[97]⟩ ⟨#[120]⟩ 1)).alloc (kbox ⟨#[116]⟩ ⟨#[97]⟩ ⟨#[98]⟩ 2)).cell? ⟨w.heap.size, 0, none⟩ = some (.string ⟨#[116]⟩) := by simp [kbox]
  have hc1 : ((w.alloc (kbox ⟨#[116]⟩ ⟨#[97]⟩ ⟨#[120]⟩ 1)).alloc (kbox ⟨#[116]⟩ ⟨#[97]⟩ ⟨#[98]⟩ 2)).cell? ⟨w.heap.size, 1, none⟩ = some (.string ⟨#[97]⟩) := by simp [kbox]
  have hc2 : ((w.alloc (kbox ⟨#[116]⟩ ⟨#[97]⟩ ⟨#[120]⟩ 1)).alloc (kbox ⟨#[116]⟩ ⟨#[97]⟩ ⟨#[98]⟩ 2)).cell? ⟨w.heap.size, 2, none⟩ = some (.int .i64 1) := by simp [kbox]
  have hc3 : ((w.alloc (kbox ⟨#[116]⟩ ⟨#[97]⟩ ⟨#[120]⟩ 1)).alloc (kbox ⟨#[116]⟩ ⟨#[97]⟩ ⟨#[98]⟩ 2)).cell? ⟨w.heap.size, 3, none⟩ = some (.string ⟨#[120]⟩) := by simp [kbox]
  unfold kbox at *
  generalize (w.alloc (.cells #[.string ⟨#[116]⟩, .string ⟨#[97]⟩, .int .i64 1, .string ⟨#[120]⟩] 60)).alloc (.cells #[.string ⟨#[116]⟩, .string ⟨#[97]⟩, .int .i64 2, .string ⟨#[98]⟩] 60) = W at *
  have he1 := he'.out.below hb0
  refine (H1'.out _).mono ?_
  rintro e w1 ⟨rfl, hb1⟩
  go_wp2_with fail
  refine (H2'.out _ (he1.below hb1)).mono ?_
  rintro e w2 ⟨rfl, hb2⟩
  have hb2' := below_tr hb1 hb2
  go_wp2_with fail
  refine (H3'.out _ (he1.below hb2')).mono ?_
  rintro e w3 ⟨v3, rfl, hO3, hb3⟩
  have hb3' := below_tr hb2' hb3
  have hR : ReadsB (w3.alloc (.cells #[.int .u8 116, .int .u8 0, .int .u8 0, .int .u8 97, .int .u8 0, .int .u8 0, .int .u8 128, .int .u8 0, .int .u8 0, .int .u8 0, .int .u8 0, .int .u8 0, .int .u8 0, .int .u8 0, .int .u8 0, .int .u8 0] 5)) v3 _ := (hO3.alloc _).reads
  have hR2 := reads_lit w3 #[.int .u8 116, .int .u8 0, .int .u8 0, .int .u8 97, .int .u8 0, .int .u8 0, .int .u8 128, .int .u8 0, .int .u8 0, .int .u8 0, .int .u8 0, .int .u8 0, .int .u8 0, .int .u8 0, .int .u8 0, .int .u8 0] [116, 0, 0, 97, 0, 0, 128, 0, 0, 0, 0, 0, 0, 0, 0, 0] 16 16 rfl rfl
  have hb4 := below_alloc hb3' (.cells #[.int .u8 116, .int .u8 0, .int .u8 0, .int .u8 97, .int .u8 0, .int .u8 0, .int .u8 128, .int .u8 0, .int .u8 0, .int .u8 0, .int .u8 0, .int .u8 0, .int .u8 0, .int .u8 0, .int .u8 0, .int .u8 0] 5)
  have hSame := Same_any _ _ _ _ _ hR hR2
  have hSame' := Lib.hid hSame; clear hSame hR hR2 hO3
  go_wp2_with fail
  refine hSame'.out.mono ?_
  rintro e w4 ⟨rfl, rfl⟩
  have hd0 := cell_keep hb4 hc0
  have hd1 := cell_keep hb4 hc1
  have hd2 := cell_keep hb4 hc2
  have hd3 := cell_keep hb4 hc3
  go_wp2_with fail
  refine (H4'.out _).mono ?_
  rintro e w5 ⟨rfl, hb5⟩
  go_wp2_with fail
  go_ret
  exact ⟨rfl, below_tr hb0 (below_tr hb4 hb5)⟩
end Go.Proofs.YtkmcjainbhmbdaaDoor
