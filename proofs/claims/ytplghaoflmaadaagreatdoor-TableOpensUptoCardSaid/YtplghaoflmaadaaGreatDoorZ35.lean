/- Contracts of the table laws' at and lives. No condition. Contracts of a table that no call made, and the walk of the law TableNone. No condition. The walk of the law TableNone: it returns true. No condition. -/
import Derived.Test.YtplghaoflmaadaaGreatDoorZ29
import Derived.Test.YtplghaoflmaadaaGreatDoorZ33
import Derived.Test.YtplghaoflmaadaaGreatDoorZ34
section
set_option linter.unusedVariables false
set_option linter.unusedSimpArgs false
set_option maxRecDepth 50000
namespace Go.Proofs.YtplghaoflmaadaaGreatDoor
open Go.RowKit Go.Sort
open Go.Lib hiding intOf

/-- a plain cell -/
def atC (n : Int) : Cel := ⟨⟨⟨#[116]⟩, ⟨#[120]⟩, n, ⟨#[]⟩⟩, ⟨n, false, 0, 0, 0, ⟨#[]⟩⟩⟩
set_option maxHeartbeats 1000000 in
theorem at_any (n : Int) (w : World) : Calls Tryz.prog 30 #[.int .i64 n] w fun e w' => e = .returned (.agg (celEnc (atC n)).toArray) ∧ Below w.heap.size w w' := by
  go_enter Tryz.func30, Tryz.ntmps30
  go_wp2_with fail
  refine ret_gen (fun w2 => Blk w2 w.heap.size 61 #[.string ⟨#[116]⟩, .string ⟨#[120]⟩, .int .i64 n, .string ⟨#[]⟩, .int .i64 n, .bool false, .int .i64 0, .int .i64 0, .int .i64 0, .string ⟨#[]⟩] ∧ Below w.heap.size w w2) ⟨Blk.new _ _ _, below_alloc (Below.refl _ _) _⟩ ?_
  rintro w2 ⟨bk, hb2⟩
  exact bodyPost_ret (v := .agg #[.string ⟨#[116]⟩, .string ⟨#[120]⟩, .int .i64 n, .string ⟨#[]⟩, .int .i64 n, .bool false, .int .i64 0, .int .i64 0, .int .i64 0, .string ⟨#[]⟩]) (by simp [results, Tryz.results30, go_sem, bk.cell 0 rfl, bk.cell 1 rfl, bk.cell 2 rfl, bk.cell 3 rfl, bk.cell 4 rfl, bk.cell 5 rfl, bk.cell 6 rfl, bk.cell 7 rfl, bk.cell 8 rfl, bk.cell 9 rfl]) rfl ⟨rfl, hb2⟩
def atL (n : Nat) : List Cel := (List.range n).map fun (i : Nat) => atC (i : Int)
theorem atL_succ (n : Nat) : atL (n + 1) = atL n ++ [atC (n : Int)] := by unfold atL; rw [List.range_succ, List.map_append]; rfl
theorem atL_len (n : Nat) : (atL n).length = n := by simp [atL]
theorem at9_inc : ∀ i : Fin 8, kcK ((atL 9)[i.1]'(by rw [atL_len]; omega)).k ((atL 9)[i.1 + 1]'(by rw [atL_len]; omega)).k < 0 := by decide +kernel
theorem at9_ok : OkT (atL 9) := by
  refine ⟨by decide +kernel, by decide +kernel, fun i h1 h2 => ?_, fun c hc => ?_⟩
  · have hi : i < 8 := by rw [atL_len] at h1; omega
    exact at9_inc ⟨i, hi⟩
  · have : (atL 9).all goodC = true := by decide +kernel
    exact List.all_eq_true.1 this c hc
theorem at9_in : ∀ c ∈ atL 9, CelIn c := by
  intro c hc
  obtain ⟨i, hi, rfl⟩ := List.mem_map.1 hc
  have := List.mem_range.1 hi
  refine ⟨?_, ?_, ?_, ?_, ?_⟩ <;> unfold In64 <;> simp only [atC] <;> omega
theorem at9_wt : wt (atL 9) ≤ 400 := by decide +kernel
theorem at9_open : openN (tableL (atL 9)) = some (chunk8 (atL 9)) := openN_table _ at9_ok (fit_light at9_in at9_wt).1

set_option maxHeartbeats 2000000 in
theorem lives_any (w : World) (he : Env w) : Calls Tryz.prog 11 #[] w fun e w' => e = .returned (.bool true) ∧ Below w.heap.size w w' := by
  have HE := Lib.hid he
  clear he
  go_enter Tryz.func11, Tryz.ntmps11
  go_wp2_with fail
  go_loopw [1, 2] (fun v1 v2 wr => ∃ n : Nat, v2 = .int .i64 (n : Int) ∧ n ≤ 9 ∧ Hid (OwnX eC wr w.heap.size v1 (atL n)) ∧ Hid (Below w.heap.size w wr)) (fun _ v2 _ => 9 - (intOf v2).toNat)
  case atStart => exact ⟨0, rfl, by decide, Lib.hid (OwnX.nil _ _), Lib.hid (Below.refl _ _)⟩
  case round =>
    obtain ⟨n, rfl, hn, HO, HB⟩ := hrel
    by_cases hlt : n < 9
    · have hz : (n : Int) < 9 := by omega
      have AT := Lib.hid (at_any (n : Int) wr)
      have TL := Lib.hid (atL_succ n)
      have hlen := atL_len n
      generalize atL n = acc at *
      go_wp2_with fail
      refine AT.out.mono ?_
      rintro e w1 ⟨rfl, hb⟩
      have HB1 := Lib.hid (below_tr HB.out hb)
      have HO1 := Lib.hid ((HO.out.below hb).alloc (.cells (celEnc (atC (n : Int))).toArray 61))
      have SX := Lib.hid (SlX.lit (E := eC) w1 (celEnc (atC (n : Int))).toArray [atC (n : Int)] 1 1 rfl (Nat.le_refl _) (by simp [El.cells, eC]))
      have BX := Lib.hid (below_alloc (Below.refl _ w1) (.cells (celEnc (atC (n : Int))).toArray 61))
      have hsz : w.heap.size ≤ (w1.alloc (.cells (celEnc (atC (n : Int))).toArray 61)).heap.size := Nat.le_trans HB1.out.size BX.out.size
      have hr1 : acc.length + [atC (n : Int)].length ≤ 9223372036854775807 := by simp; omega
      have hr2 : (acc.length + [atC (n : Int)].length) * eC.bytes ≤ 140737488355328 := by show (acc.length + 1) * 112 ≤ _; omega
      clear hb AT
      have EC : (celEnc (atC (n : Int))).toArray = #[.string ⟨#[116]⟩, .string ⟨#[120]⟩, .int .i64 (n : Int), .string ⟨#[]⟩, .int .i64 (n : Int), .bool false, .int .i64 0, .int .i64 0, .int .i64 0, .string ⟨#[]⟩] := rfl
      rw [EC] at SX HO1 BX hsz ⊢
      clear EC
      go_wp2_with (at_builtin; go_must (refine ap_g (E := eC) (by rfl) (.tmp 13) (.tmp 16) (by rfl) w.heap.size _ acc _ _ [atC (n : Int)] (by rfl) (by rfl) SX.out HO1.out hsz hr1 hr2 ?_); intro v9 w9 hO9 hG9; have HO9 := Lib.hid (show OwnX eC w9 w.heap.size v9 (atL (n + 1)) by rw [TL.out]; exact hO9); have HB9 := Lib.hid ((below_tr HB1.out BX.out).trans (hG9.below hsz HO1.out.base)); clear hO9 hG9)
      exact ⟨⟨n + 1, by first | rfl | go_num, by omega, HO9, HB9⟩, by simp [intOf]; omega⟩
    · obtain rfl : n = 9 := by omega
      have hz : ¬ ((9 : Nat) : Int) < 9 := by omega
      have ENV := HE.out.below HB.out
      obtain ⟨hfit, hct, hN, _⟩ := fit_light at9_in at9_wt
      have htl := tab_light at9_in at9_wt
      have hop := at9_open
      have hbl : (chunk8 (atL 9)).length = 2 := by rw [chunk8_len, atL_len]
      have hfl : (chunk8 (atL 9)).flatten.length = 9 := by rw [chunk8_flat (atL 9).length (atL 9) (Nat.le_refl _), atL_len]
      have WR := Lib.hid (write_ok _ (atL 9) wr ENV (OwnX.sl HO.out) at9_ok hfit)
      have OPA := Lib.hid (fun v W (he : Env W) (hv : SlB W.heap.size W v (tableL (atL 9))) => open_any v (tableL (atL 9)) W he hv htl)
      rw [hop] at OPA
      have WB := Lib.hid (fun W => write_bad (.slice none 0 0) [] W (SlX.nil _ _ _) (by unfold Room; simp) (by simp) (fun h => by have := h.pos; simp at this))
      have HBL := Lib.hid hbl; have HFL := Lib.hid hfl
      have HENV := Lib.hid ENV
      generalize tableL (atL 9) = TB at *
      generalize chunk8 (atL 9) = bs at *
      generalize atL 9 = L at *
      clear hfit hct hN htl hop hbl hfl ENV
      go_wp2_with fail
      refine WR.out.mono ?_
      rintro e w1 ⟨v1, rfl, hO1, hb1⟩
      have HB1 := Lib.hid (below_tr HB.out hb1)
      have OP := Lib.hid (OPA.out v1 w1 (HENV.out.below hb1) (OwnB.slB hO1))
      clear hO1 hb1 WR
      go_wp2_with fail
      refine OP.out.mono ?_
      rintro e w2 ⟨hb2, g, rfl, ht⟩
      have HB2 := Lib.hid (below_tr HB1.out hb2); have HT := Lib.hid ht
      clear hb2 ht OP
      go_wp2_with fail
      refine (WB.out _).mono ?_
      rintro e w3 ⟨rfl, hb3⟩
      have HB3 := Lib.hid (below_tr HB2.out hb3); have HT3 := Lib.hid (HT.out.keep hb3)
      have BA := Lib.hid (blocks_any g bs w3 HT3.out)
      rw [HBL.out] at BA
      clear hb3
      go_wp2_with fail
      refine BA.out.mono ?_
      rintro e w4 ⟨rfl, hb4⟩
      have HB4 := Lib.hid (below_tr HB3.out hb4); have HT4 := Lib.hid (HT3.out.keep hb4)
      have LA := Lib.hid (len_any g bs w4 HT4.out)
      rw [HFL.out] at LA
      clear hb4 BA
      go_wp2_with fail
      refine LA.out.mono ?_
      rintro e w5 ⟨rfl, hb5⟩
      have HB5 := Lib.hid (below_tr HB4.out hb5)
      clear hb5 LA
      go_wp2_with fail
      go_ret
      exact ⟨by first | rfl | simp, HB5.out⟩
end Go.Proofs.YtplghaoflmaadaaGreatDoor
end

section
set_option linter.unusedVariables false
set_option linter.unusedSimpArgs false
set_option maxRecDepth 50000
namespace Go.Proofs.YtplghaoflmaadaaGreatDoor
open Go.RowKit Go.Sort
open Go.Lib hiding intOf

/-- a pointer at no made table -/
def NoTb (w : World) (q : Option Addr) : Prop := ∀ W, Below w.heap.size w W → Calls Tryz.prog 58 #[.pointer q] W fun e w' => e = .returned (.bool false) ∧ Below W.heap.size W w'
theorem NoTb.keep {w w' : World} {q : Option Addr} (h : NoTb w q) (hb : Below w.heap.size w w') : NoTb w' q := fun W hW => h W (below_tr hb hW)
theorem NoTb.at {w : World} {q : Option Addr} (h : NoTb w q) : Calls Tryz.prog 58 #[.pointer q] w fun e w' => e = .returned (.bool false) ∧ Below w.heap.size w w' := h w (Below.refl _ _)
theorem noTb_nil (w : World) : NoTb w none := fun W _ => made_nil W
theorem noTb_zero {w : World} {g : Nat} {a b : Value} (h : Blk w g 43 #[a, b, .int .i64 0]) : NoTb w (some ⟨g, 0, none⟩) := fun W hW => by
  have := made_any g 0 W ((h.below hW).cell 2 rfl)
  rwa [show decide ((0 : Int) < 0) = false by decide] at this
section
variable {w : World} {q : Option Addr}
theorem len_no (h : NoTb w q) : Calls Tryz.prog 23 #[.pointer q] w fun e w' => e = .returned (.int .i64 0) ∧ Below w.heap.size w w' := by
  have M := Lib.hid h.at
  clear h
  go_enter Tryz.func23, Tryz.ntmps23
  go_wp2_with fail
  refine M.out.mono ?_
  rintro e w1 ⟨rfl, hb⟩
  go_wp2_with fail
  go_ret
  exact ⟨rfl, hb⟩
theorem blocks_no (h : NoTb w q) : Calls Tryz.prog 24 #[.pointer q] w fun e w' => e = .returned (.int .i64 0) ∧ Below w.heap.size w w' := by
  have M := Lib.hid h.at
  clear h
  go_enter Tryz.func24, Tryz.ntmps24
  go_wp2_with fail
  refine M.out.mono ?_
  rintro e w1 ⟨rfl, hb⟩
  go_wp2_with fail
  go_ret
  exact ⟨rfl, hb⟩
theorem all_no (h : NoTb w q) : Calls Tryz.prog 22 #[.pointer q] w fun e w' => e = .returned (.slice none 0 0) ∧ Below w.heap.size w w' := by
  have M := Lib.hid h.at
  clear h
  go_enter Tryz.func22, Tryz.ntmps22
  go_wp2_with fail
  refine M.out.mono ?_
  rintro e w1 ⟨rfl, hb⟩
  go_wp2_with fail
  go_ret
  exact ⟨rfl, hb⟩
theorem scan_no (h : NoTb w q) (kf ku : Ky) : Calls Tryz.prog 21 #[.pointer q, kyVal kf, kyVal ku] w fun e w' => e = .returned (.slice none 0 0) ∧ Below w.heap.size w w' := by
  have B0 := below_alloc (below_alloc (Below.refl _ w) (.cells #[.string kf.t, .string kf.p, .int .i64 kf.r, .string kf.c] 24)) (.cells #[.string ku.t, .string ku.p, .int .i64 ku.r, .string ku.c] 24)
  have M := Lib.hid (h.keep B0).at
  have HB0 := Lib.hid B0
  clear h B0
  unfold kyVal
  go_enter Tryz.func21, Tryz.ntmps21
  go_wp2_with fail
  refine M.out.mono ?_
  rintro e w1 ⟨rfl, hb⟩
  have HB1 := Lib.hid (below_tr HB0.out hb)
  go_wp2_with fail
  go_ret
  exact ⟨rfl, HB1.out⟩
theorem may_no (h : NoTb w q) (k : Ky) : Calls Tryz.prog 20 #[.pointer q, kyVal k] w fun e w' => e = .returned (.bool false) ∧ Below w.heap.size w w' := by
  have B0 := below_alloc (Below.refl _ w) (.cells #[.string k.t, .string k.p, .int .i64 k.r, .string k.c] 24)
  have q1 := Lib.hid (QP.of (P := Tryz.prog) (f := 58) (args := #[.pointer q]) (v := .bool false) (h.keep B0))
  have HB0 := Lib.hid B0
  clear h B0
  unfold kyVal
  go_enter Tryz.func20, Tryz.ntmps20
  go_wp2_with fail
  generalize w.alloc (.cells #[.string k.t, .string k.p, .int .i64 k.r, .string k.c] 24) = W at *
  refine wp_region_quiet_below (by kernel_rfl) (by kernel_rfl) ?_
  repeat (quiet_step (first | with_reducible exact q1.out.at _ _))
  refine wpQuiet_nil ?_
  intro w3 hw3
  have HB3 := Lib.hid (below_tr HB0.out (regrown_below hw3))
  clear hw3
  go_wp2_with fail
  go_ret
  exact ⟨rfl, HB3.out⟩
set_option maxHeartbeats 1000000 in
theorem get_no (h : NoTb w q) (k : Ky) : Calls Tryz.prog 18 #[.pointer q, kyVal k] w fun e w' => e = .returned (.tuple #[.agg #[.int .i64 0, .bool false, .int .i64 0, .int .i64 0, .int .i64 0, .string ⟨#[]⟩], .bool false]) ∧ Below w.heap.size w w' := by
  have b2 := Blk.new (w.alloc (.cells #[.string k.t, .string k.p, .int .i64 k.r, .string k.c] 24)) 49 #[.int .i64 0, .bool false, .int .i64 0, .int .i64 0, .int .i64 0, .string ⟨#[]⟩]
  have B0 := below_alloc (below_alloc (Below.refl _ w) (.cells #[.string k.t, .string k.p, .int .i64 k.r, .string k.c] 24)) (.cells #[.int .i64 0, .bool false, .int .i64 0, .int .i64 0, .int .i64 0, .string ⟨#[]⟩] 49)
  rw [show (w.alloc (.cells #[.string k.t, .string k.p, .int .i64 k.r, .string k.c] 24)).heap.size = w.heap.size + 1 by simp] at b2
  have M := Lib.hid (h.keep B0).at
  have Z1 := Lib.hid b2; have HB0 := Lib.hid B0
  clear b2 B0 h
  unfold kyVal
  go_enter Tryz.func18, Tryz.ntmps18
  go_wp2_with fail
  generalize (w.alloc (.cells #[.string k.t, .string k.p, .int .i64 k.r, .string k.c] 24)).alloc (.cells #[.int .i64 0, .bool false, .int .i64 0, .int .i64 0, .int .i64 0, .string ⟨#[]⟩] 49) = W0 at *
  refine M.out.mono ?_
  rintro e w1 ⟨rfl, hb⟩
  have HB1 := Lib.hid (below_tr HB0.out hb)
  have z := Z1.out.below hb
  have Z2 := Lib.hid z
  have z0 := z.cell 0 rfl; have z1 := z.cell 1 rfl; have z2 := z.cell 2 rfl; have z3 := z.cell 3 rfl; have z4 := z.cell 4 rfl; have z5 := z.cell 5 rfl
  have fz := z.frozen
  clear z hb M Z1
  go_wp2_with fail
  refine ret_gen (fun w2 => Blk w2 (w.heap.size + 1) 49 #[.int .i64 0, .bool false, .int .i64 0, .int .i64 0, .int .i64 0, .string ⟨#[]⟩] ∧ Below w.heap.size w w2) ⟨Z2.out.put6 _ _ _ _ _ _, by repeat (first | with_reducible exact HB1.out | refine Below.setCell ?_ (by simp) _)⟩ ?_
  rintro w2 ⟨bk, hb2⟩
  exact bodyPost_ret (v := .tuple #[.agg #[.int .i64 0, .bool false, .int .i64 0, .int .i64 0, .int .i64 0, .string ⟨#[]⟩], .bool false]) (by simp [results, Tryz.results18, go_sem, bk.cell 0 rfl, bk.cell 1 rfl, bk.cell 2 rfl, bk.cell 3 rfl, bk.cell 4 rfl, bk.cell 5 rfl]) rfl ⟨rfl, hb2⟩
set_option maxHeartbeats 1000000 in
theorem ends_no (h : NoTb w q) : Calls Tryz.prog 19 #[.pointer q] w fun e w' => e = .returned (.tuple #[.agg #[.string ⟨#[]⟩, .string ⟨#[]⟩, .int .i64 0, .string ⟨#[]⟩], .agg #[.string ⟨#[]⟩, .string ⟨#[]⟩, .int .i64 0, .string ⟨#[]⟩], .bool false]) ∧ Below w.heap.size w w' := by
  have b1 := (Blk.new w 24 #[.string ⟨#[]⟩, .string ⟨#[]⟩, .int .i64 0, .string ⟨#[]⟩]).alloc (.cells #[.string ⟨#[]⟩, .string ⟨#[]⟩, .int .i64 0, .string ⟨#[]⟩] 24)
  have b2 := Blk.new (w.alloc (.cells #[.string ⟨#[]⟩, .string ⟨#[]⟩, .int .i64 0, .string ⟨#[]⟩] 24)) 24 #[.string ⟨#[]⟩, .string ⟨#[]⟩, .int .i64 0, .string ⟨#[]⟩]
  have B0 := below_alloc (below_alloc (Below.refl _ w) (.cells #[.string ⟨#[]⟩, .string ⟨#[]⟩, .int .i64 0, .string ⟨#[]⟩] 24)) (.cells #[.string ⟨#[]⟩, .string ⟨#[]⟩, .int .i64 0, .string ⟨#[]⟩] 24)
  rw [show (w.alloc (.cells #[.string ⟨#[]⟩, .string ⟨#[]⟩, .int .i64 0, .string ⟨#[]⟩] 24)).heap.size = w.heap.size + 1 by simp] at b2
  have M := Lib.hid (h.keep B0).at
  have K1 := Lib.hid b1; have K2 := Lib.hid b2; have HB0 := Lib.hid B0
  clear b1 b2 B0 h
  go_enter Tryz.func19, Tryz.ntmps19
  go_wp2_with fail
  generalize (w.alloc (.cells #[.string ⟨#[]⟩, .string ⟨#[]⟩, .int .i64 0, .string ⟨#[]⟩] 24)).alloc (.cells #[.string ⟨#[]⟩, .string ⟨#[]⟩, .int .i64 0, .string ⟨#[]⟩] 24) = W0 at *
  refine M.out.mono ?_
  rintro e w1 ⟨rfl, hb⟩
  have HB1 := Lib.hid (below_tr HB0.out hb)
  have z := K1.out.below hb; have y := K2.out.below hb
  have hne : w.heap.size ≠ w.heap.size + 1 := by omega
  have F1 := Lib.hid ((z.put4 (.string ⟨#[]⟩) (.string ⟨#[]⟩) (.int .i64 0) (.string ⟨#[]⟩)).far4 hne (.string ⟨#[]⟩) (.string ⟨#[]⟩) (.int .i64 0) (.string ⟨#[]⟩))
  have F2 := Lib.hid ((y.far4 (Ne.symm hne) (.string ⟨#[]⟩) (.string ⟨#[]⟩) (.int .i64 0) (.string ⟨#[]⟩)).put4 (.string ⟨#[]⟩) (.string ⟨#[]⟩) (.int .i64 0) (.string ⟨#[]⟩))
  have z0 := z.cell 0 rfl; have z1 := z.cell 1 rfl; have z2 := z.cell 2 rfl; have z3 := z.cell 3 rfl
  have y0 := y.cell 0 rfl; have y1 := y.cell 1 rfl; have y2 := y.cell 2 rfl; have y3 := y.cell 3 rfl
  have fz := z.frozen; have fy := y.frozen
  clear z y hb M K1 K2
  go_wp2_with fail
  refine ret_gen (fun w2 => Blk w2 w.heap.size 24 #[.string ⟨#[]⟩, .string ⟨#[]⟩, .int .i64 0, .string ⟨#[]⟩] ∧ Blk w2 (w.heap.size + 1) 24 #[.string ⟨#[]⟩, .string ⟨#[]⟩, .int .i64 0, .string ⟨#[]⟩] ∧ Below w.heap.size w w2) ⟨F1.out, F2.out, by repeat (first | with_reducible exact HB1.out | refine Below.setCell ?_ (by simp) _)⟩ ?_
  rintro w2 ⟨bk, bj, hb2⟩
  exact bodyPost_ret (v := .tuple #[.agg #[.string ⟨#[]⟩, .string ⟨#[]⟩, .int .i64 0, .string ⟨#[]⟩], .agg #[.string ⟨#[]⟩, .string ⟨#[]⟩, .int .i64 0, .string ⟨#[]⟩], .bool false]) (by simp [results, Tryz.results19, go_sem, bk.cell 0 rfl, bk.cell 1 rfl, bk.cell 2 rfl, bk.cell 3 rfl, bj.cell 0 rfl, bj.cell 1 rfl, bj.cell 2 rfl, bj.cell 3 rfl]) rfl ⟨rfl, hb2⟩
end
end Go.Proofs.YtplghaoflmaadaaGreatDoor
end

section
set_option linter.unusedVariables false
set_option linter.unusedSimpArgs false
set_option maxRecDepth 50000
namespace Go.Proofs.YtplghaoflmaadaaGreatDoor
open Go.RowKit Go.Sort
open Go.Lib hiding intOf

theorem idx2 (p q : Option Addr) (W : World) : (Instr.index 45 (.agg #[.pointer p, .pointer q]) (.int .i64 0)).run Tryz.prog W = .ok (.pointer p) W ∧ (Instr.index 45 (.agg #[.pointer p, .pointer q]) (.int .i64 1)).run Tryz.prog W = .ok (.pointer q) W := by
  refine ⟨?_, ?_⟩ <;> simp [Instr.index, run_underlying Tryz.underlying45, asIntOf, go_sem, part] <;> rfl
def askV (k1 k2 k3 : Ky) : Value := .agg #[.string k1.t, .string k1.p, .int .i64 k1.r, .string k1.c, .string k2.t, .string k2.p, .int .i64 k2.r, .string k2.c, .string k3.t, .string k3.p, .int .i64 k3.r, .string k3.c]
/-- between two rounds -/
structure NoSt (w wr : World) (k1 k2 k3 : Ky) : Prop where
  ask : Blk wr w.heap.size 26 #[.string k1.t, .string k1.p, .int .i64 k1.r, .string k1.c, .string k2.t, .string k2.p, .int .i64 k2.r, .string k2.c, .string k3.t, .string k3.p, .int .i64 k3.r, .string k3.c]
  zt : Blk wr (w.heap.size + 1) 43 #[.slice none 0 0, .pointer none, .int .i64 0]
  bel : Below w.heap.size w wr
theorem NoSt.keep {w wr wr' : World} {k1 k2 k3 : Ky} (h : NoSt w wr k1 k2 k3) (hb : Below wr.heap.size wr wr') : NoSt w wr' k1 k2 k3 := ⟨h.ask.below hb, h.zt.below hb, below_tr h.bel hb⟩
set_option maxHeartbeats 4000000 in
theorem TableNone_walk (k1 k2 k3 : Ky) (w : World) (he : Env w) : Calls Tryz.prog 5 #[askV k1 k2 k3] w fun e w' => e = .returned (.bool true) ∧ Below w.heap.size w w' := by
  have b1 := (Blk.new w 26 #[.string k1.t, .string k1.p, .int .i64 k1.r, .string k1.c, .string k2.t, .string k2.p, .int .i64 k2.r, .string k2.c, .string k3.t, .string k3.p, .int .i64 k3.r, .string k3.c]).alloc (.cells #[.slice none 0 0, .pointer none, .int .i64 0] 43)
  have b2 := Blk.new (w.alloc (.cells #[.string k1.t, .string k1.p, .int .i64 k1.r, .string k1.c, .string k2.t, .string k2.p, .int .i64 k2.r, .string k2.c, .string k3.t, .string k3.p, .int .i64 k3.r, .string k3.c] 26)) 43 #[.slice none 0 0, .pointer none, .int .i64 0]
  have B0 := below_alloc (below_alloc (Below.refl _ w) (.cells #[.string k1.t, .string k1.p, .int .i64 k1.r, .string k1.c, .string k2.t, .string k2.p, .int .i64 k2.r, .string k2.c, .string k3.t, .string k3.p, .int .i64 k3.r, .string k3.c] 26)) (.cells #[.slice none 0 0, .pointer none, .int .i64 0] 43)
  rw [show (w.alloc (.cells #[.string k1.t, .string k1.p, .int .i64 k1.r, .string k1.c, .string k2.t, .string k2.p, .int .i64 k2.r, .string k2.c, .string k3.t, .string k3.p, .int .i64 k3.r, .string k3.c] 26)).heap.size = w.heap.size + 1 by simp] at b2
  have S0 := Lib.hid (NoSt.mk b1 b2 B0)
  have HE := Lib.hid he
  clear b1 b2 B0 he
  unfold askV
  go_enter Tryz.func5, Tryz.ntmps5
  go_wp2_with fail
  generalize (w.alloc (.cells #[.string k1.t, .string k1.p, .int .i64 k1.r, .string k1.c, .string k2.t, .string k2.p, .int .i64 k2.r, .string k2.c, .string k3.t, .string k3.p, .int .i64 k3.r, .string k3.c] 26)).alloc (.cells #[.slice none 0 0, .pointer none, .int .i64 0] 43) = W0 at *
  go_loopw [5, 6, 7, 8, 9, 10, 12] (fun _ _ _ _ _ _ v12 wr => ∃ i : Nat, v12 = .int .i64 (i : Int) ∧ i ≤ 2 ∧ Hid (NoSt w wr k1 k2 k3)) (fun _ _ _ _ _ _ v12 _ => 2 - (intOf v12).toNat)
  case atStart => exact ⟨0, rfl, by decide, S0⟩
  case round =>
    clear S0
    obtain ⟨i, rfl, hi, HS⟩ := hrel
    by_cases hlt : i < 2
    · have hz : (i : Int) < 2 := by omega
      obtain ⟨q, hq⟩ : ∃ q : Option Addr, (∀ W, (Instr.index 45 (.agg #[.pointer none, .pointer (some ⟨w.heap.size + 1, 0, none⟩)]) (.int .i64 (i : Int))).run Tryz.prog W = .ok (.pointer q) W) ∧ NoTb wr q := by
        have h2 : i = 0 ∨ i = 1 := by omega
        rcases h2 with rfl | rfl
        · exact ⟨none, fun W => (idx2 _ _ W).1, noTb_nil _⟩
        · exact ⟨some ⟨w.heap.size + 1, 0, none⟩, fun W => (idx2 _ _ W).2, noTb_zero HS.out.zt⟩
      have hqi := hq.1
      have NT := Lib.hid hq.2
      clear hq
      have ab := HS.out.ask
      have a0 := ab.cell 0 rfl; have a1 := ab.cell 1 rfl; have a2 := ab.cell 2 rfl; have a3 := ab.cell 3 rfl
      have G1 := Lib.hid (get_no NT.out k1)
      unfold kyVal at G1
      clear ab
      have K := Lib.hid (fun W (hb : Below wr.heap.size wr W) => NT.out.keep hb)
      have C1 := Lib.hid (fun W hb => ends_no (K.out W hb))
      have C2 := Lib.hid (fun W hb => may_no (K.out W hb) k1)
      have C3 := Lib.hid (fun W hb => scan_no (K.out W hb) k2 k3)
      have C4 := Lib.hid (fun W hb => all_no (K.out W hb))
      have C5 := Lib.hid (fun W hb => len_no (K.out W hb))
      have C6 := Lib.hid (fun W hb => blocks_no (K.out W hb))
      unfold kyVal at C2 C3
      go_wp2_with fail
      refine G1.out.mono ?_
      rintro e w1 ⟨rfl, hb1⟩
      have HB1 := Lib.hid hb1
      clear hb1 a0 a1 a2 a3
      go_wp2_with fail
      have hbx := Lib.hid (below_alloc HB1.out (.cells #[.int .i64 0, .bool false, .int .i64 0, .int .i64 0, .int .i64 0, .string ⟨#[]⟩] 49))
      refine (C1.out _ hbx.out).mono ?_
      rintro e w2 ⟨rfl, hb2⟩
      have HB2 := Lib.hid (below_tr hbx.out hb2)
      clear hb2 hbx
      go_upto_region 7 with (fail)
      have HB3 := Lib.hid (below_alloc (below_alloc HB2.out (.cells #[.string ⟨#[]⟩, .string ⟨#[]⟩, .int .i64 0, .string ⟨#[]⟩] 24)) (.cells #[.string ⟨#[]⟩, .string ⟨#[]⟩, .int .i64 0, .string ⟨#[]⟩] 24))
      generalize (w2.alloc (.cells #[.string ⟨#[]⟩, .string ⟨#[]⟩, .int .i64 0, .string ⟨#[]⟩] 24)).alloc (.cells #[.string ⟨#[]⟩, .string ⟨#[]⟩, .int .i64 0, .string ⟨#[]⟩] 24) = W3 at *
      have ab := HS.out.ask.below HB3.out
      have a0 := ab.cell 0 rfl; have a1 := ab.cell 1 rfl; have a2 := ab.cell 2 rfl; have a3 := ab.cell 3 rfl
      clear ab
      go_wp2_with fail
      refine (C2.out _ HB3.out).mono ?_
      rintro e w4 ⟨rfl, hb4⟩
      have HB4 := Lib.hid (below_tr HB3.out hb4)
      have ab := HS.out.ask.below HB4.out
      clear a0 a1 a2 a3 hb4
      have a0 := ab.cell 4 rfl; have a1 := ab.cell 5 rfl; have a2 := ab.cell 6 rfl; have a3 := ab.cell 7 rfl
      have a4 := ab.cell 8 rfl; have a5 := ab.cell 9 rfl; have a6 := ab.cell 10 rfl; have a7 := ab.cell 11 rfl
      clear ab
      go_wp2_with fail
      refine (C3.out _ HB4.out).mono ?_
      rintro e w5 ⟨rfl, hb5⟩
      have HB5 := Lib.hid (below_tr HB4.out hb5)
      clear a0 a1 a2 a3 a4 a5 a6 a7 hb5
      go_wp2_with fail
      refine (C4.out _ HB5.out).mono ?_
      rintro e w6 ⟨rfl, hb6⟩
      have HB6 := Lib.hid (below_tr HB5.out hb6)
      clear hb6
      go_wp2_with fail
      refine (C5.out _ HB6.out).mono ?_
      rintro e w7 ⟨rfl, hb7⟩
      have HB7 := Lib.hid (below_tr HB6.out hb7)
      clear hb7
      go_wp2_with fail
      refine (C6.out _ HB7.out).mono ?_
      rintro e w8 ⟨rfl, hb8⟩
      have HB8 := Lib.hid (below_tr HB7.out hb8)
      have S8 := Lib.hid (HS.out.keep HB8.out)
      clear hb8
      go_wp2_with fail
      go_roundw
      case rel => exact ⟨i + 1, by first | rfl | go_num, by omega, S8⟩
      case measure => simp [intOf]; omega
    · obtain rfl : i = 2 := by omega
      have hz : ¬ ((2 : Nat) : Int) < 2 := by omega
      have LV := Lib.hid (lives_any wr (HE.out.below HS.out.bel))
      go_wp2_with fail
      refine LV.out.mono ?_
      rintro e w1 ⟨rfl, hb⟩
      have HB := Lib.hid (below_tr HS.out.bel hb)
      go_wp2_with fail
      go_ret
      exact ⟨rfl, HB.out⟩
end Go.Proofs.YtplghaoflmaadaaGreatDoor
end
