/- The laws KeyCmps, KeyTogether and KeyRows, walked: each returns true. No condition. -/
import Derived.Test.YtkmcjainbhmbdaaDoorKh
import Derived.Test.YtkmcjainbhmbdaaDoorPc
import Derived.Test.YtkmcjainbhmbdaaDoorEq
import Derived.Lib.QuietBelow
set_option linter.unusedVariables false
set_option linter.unusedSimpArgs false
set_option maxRecDepth 50000
namespace Go.Proofs.YtkmcjainbhmbdaaDoor
open Go.RowKit Go.Lib Go.Sort

theorem Cmp_k (at_ ap ac bt bp bc : ByteArray) (ar br : Int) (w : World) :
    Calls Tryd.prog 36 #[.agg #[.string at_, .string ap, .int .i64 ar, .string ac], .agg #[.string bt, .string bp, .int .i64 br, .string bc]] w
      fun e w' => e = .returned (.int .i64 (kcmp at_ ap ar ac bt bp br bc)) ∧ Below w.heap.size w w' := Cmp_any at_ ap ac bt bp bc ar br w
theorem rCmp_k (at_ ap ac bt bp bc : ByteArray) (ar br : Int) (w : World) :
    Calls Tryd.prog 37 #[.agg #[.string at_, .string ap, .int .i64 ar, .string ac], .agg #[.string bt, .string bp, .int .i64 br, .string bc]] w
      fun e w' => e = .returned (.int .i64 (kcmp at_ ap ar ac bt bp br bc)) ∧ Below w.heap.size w w' := by rw [← kcmp_ref]; exact rCmp_any at_ ap ac bt bp bc ar br w
theorem kcmp_range (at_ ap : ByteArray) (ar : Int) (ac bt bp : ByteArray) (br : Int) (bc : ByteArray) : -1 ≤ kcmp at_ ap ar ac bt bp br bc ∧ kcmp at_ ap ar ac bt bp br bc ≤ 1 := by
  have := kcmp_three at_ ap ar ac bt bp br bc; omega

/-- A key's four cells. -/
structure KB (W : World) (g : Nat) (t p c : ByteArray) (r : Int) : Prop where
  c0 : W.cell? ⟨g, 0, none⟩ = some (.string t)
  c1 : W.cell? ⟨g, 1, none⟩ = some (.string p)
  c2 : W.cell? ⟨g, 2, none⟩ = some (.int .i64 r)
  c3 : W.cell? ⟨g, 3, none⟩ = some (.string c)
theorem KB.keep {W W' : World} {g : Nat} {t p c : ByteArray} {r : Int} (h : KB W g t p c r) (hb : Below W.heap.size W W') : KB W' g t p c r := ⟨cell_keep hb h.c0, cell_keep hb h.c1, cell_keep hb h.c2, cell_keep hb h.c3⟩
theorem KB.all {W : World} {g : Nat} {t p c : ByteArray} {r : Int} (h : KB W g t p c r) : ∀ d os, KB (grow (redrawn W d) os) g t p c r := fun d os => h.keep (below_regrown W d os)

set_option maxHeartbeats 2000000 in
theorem KeyCmps_walk (at_ ap ac bt bp bc ct cp cc : ByteArray) (ar br cr : Int) (w : World) (he : Env w) :
    Calls Tryd.prog 7 #[.agg #[.string at_, .string ap, .int .i64 ar, .string ac], .agg #[.string bt, .string bp, .int .i64 br, .string bc], .agg #[.string ct, .string cp, .int .i64 cr, .string cc]] w
      fun e w' => e = .returned (.bool true) ∧ Below w.heap.size w w' := by
  have HAB := fun W => Cmp_k at_ ap ac bt bp bc ar br W
  have HBA := fun W => Cmp_k bt bp bc at_ ap ac br ar W
  have RAB := fun W => rCmp_k at_ ap ac bt bp bc ar br W
  have HBC := fun W => Cmp_k bt bp bc ct cp cc br cr W
  have HAC := fun W => Cmp_k at_ ap ac ct cp cc ar cr W
  have z1 := kcmp_zero at_ ap ar ac bt bp br bc
  have z2 := kcmp_trans at_ ap ar ac bt bp br bc ct cp cr cc
  have z3 := kcmp_range at_ ap ar ac bt bp br bc
  rw [kcmp_neg at_ ap ar ac bt bp br bc] at HBA
  generalize kcmp at_ ap ar ac bt bp br bc = x at *
  generalize kcmp bt bp br bc ct cp cr cc = y at *
  generalize kcmp at_ ap ar ac ct cp cr cc = z at *
  obtain ⟨x1, x2⟩ := z3
  have HL := fun W hE => lives4 W hE
  go_enter Tryd.func7, Tryd.ntmps7
  go_wp2_with fail
  have hb0 : Below w.heap.size w (((w.alloc (kbox at_ ap ac ar)).alloc (kbox bt bp bc br)).alloc (kbox ct cp cc cr)) := below_alloc (below_alloc (below_alloc (Below.refl _ _) _) _) _
  have ca := KB.mk (W := ((w.alloc (kbox at_ ap ac ar)).alloc (kbox bt bp bc br)).alloc (kbox ct cp cc cr)) (g := w.heap.size) (t := at_) (p := ap) (c := ac) (r := ar) (by unfold kbox; go_simp) (by unfold kbox; go_simp) (by unfold kbox; go_simp) (by unfold kbox; go_simp)
  have cb := KB.mk (W := ((w.alloc (kbox at_ ap ac ar)).alloc (kbox bt bp bc br)).alloc (kbox ct cp cc cr)) (g := w.heap.size + 1) (t := bt) (p := bp) (c := bc) (r := br) (by unfold kbox; go_simp) (by unfold kbox; go_simp) (by unfold kbox; go_simp) (by unfold kbox; go_simp)
  have cc_ := KB.mk (W := ((w.alloc (kbox at_ ap ac ar)).alloc (kbox bt bp bc br)).alloc (kbox ct cp cc cr)) (g := w.heap.size + 1 + 1) (t := ct) (p := cp) (c := cc) (r := cr) (by unfold kbox; go_simp) (by unfold kbox; go_simp) (by unfold kbox; go_simp) (by unfold kbox; go_simp)
  have he1 := he.below hb0
  unfold kbox at *
  generalize ((w.alloc (.cells #[.string at_, .string ap, .int .i64 ar, .string ac] 60)).alloc (.cells #[.string bt, .string bp, .int .i64 br, .string bc] 60)).alloc (.cells #[.string ct, .string cp, .int .i64 cr, .string cc] 60) = W at *
  have CA := Lib.hid ca; have CB := Lib.hid cb; have CC := Lib.hid cc_
  have a0 := fun d os => (ca.all d os).c0; have a1 := fun d os => (ca.all d os).c1; have a2 := fun d os => (ca.all d os).c2; have a3 := fun d os => (ca.all d os).c3
  have b0 := fun d os => (cb.all d os).c0; have b1 := fun d os => (cb.all d os).c1; have b2 := fun d os => (cb.all d os).c2; have b3 := fun d os => (cb.all d os).c3
  clear ca cb cc_
  have QAB : ∀ d os, Calls Tryd.prog 36 #[.agg #[.string at_, .string ap, .int .i64 ar, .string ac], .agg #[.string bt, .string bp, .int .i64 br, .string bc]] (grow (redrawn W d) os) fun e w'' => e = .returned (.int .i64 x) ∧ ∃ p : Regrown, w'' = grow (redrawn W p.d) p.os := fun d os => Calls.regrown_of (HAB _)
  have QBA : ∀ d os, Calls Tryd.prog 36 #[.agg #[.string bt, .string bp, .int .i64 br, .string bc], .agg #[.string at_, .string ap, .int .i64 ar, .string ac]] (grow (redrawn W d) os) fun e w'' => e = .returned (.int .i64 (-x)) ∧ ∃ p : Regrown, w'' = grow (redrawn W p.d) p.os := fun d os => Calls.regrown_of (HBA _)
  have QR : ∀ d os, Calls Tryd.prog 37 #[.agg #[.string at_, .string ap, .int .i64 ar, .string ac], .agg #[.string bt, .string bp, .int .i64 br, .string bc]] (grow (redrawn W d) os) fun e w'' => e = .returned (.int .i64 x) ∧ ∃ p : Regrown, w'' = grow (redrawn W p.d) p.os := fun d os => Calls.regrown_of (RAB _)
  have hk : ∀ w, (binOp .eql 60 (.agg #[.string at_, .string ap, .int .i64 ar, .string ac]) (.agg #[.string bt, .string bp, .int .i64 br, .string bc])).run Tryd.prog w = .ok (.bool (x == 0)) w := fun w => by
    rw [key_eql]; congr 2; unfold keyEq; rw [Bool.eq_iff_iff]; simp only [Bool.and_eq_true, beq_iff_eq, and_true]; exact z1.symm
  have wn : IntKind.i64.wrap (-x) = -x := IntWalk.i64_in _ (by omega)
  have wp : IntKind.i64.wrap x = x := IntWalk.i64_in _ (by omega)
  have QAB' := Lib.hid QAB; have HAB' := Lib.hid HAB; clear QAB HAB
  have QBA' := Lib.hid QBA; clear QBA HBA
  have QR' := Lib.hid QR; clear QR RAB
  have HBC' := Lib.hid HBC; clear HBC
  have HAC' := Lib.hid HAC; clear HAC
  have Z2 := Lib.hid z2; clear z2 z1
  have HL' := Lib.hid HL; clear HL
  have he' := Lib.hid he1; clear he1
  refine wp_region_quiet_below (by kernel_rfl) (by kernel_rfl) ?_
  repeat (quiet_step (first | with_reducible exact QAB'.out _ _ | with_reducible exact QBA'.out _ _ | with_reducible exact QR'.out _ _))
  refine wpQuiet_nil ?_
  intro w1 hw1
  have hb1 : Below W.heap.size W w1 := by obtain ⟨p, rfl⟩ := hw1; exact below_regrown _ _ _
  clear hw1
  have hbw := below_tr hb0 hb1
  clear a0 a1 a2 a3 b0 b1 b2 b3
  clear QAB' QBA' QR' hk wn wp
  obtain ⟨a0, a1, a2, a3⟩ := CA.out.keep hb1
  obtain ⟨b0, b1, b2, b3⟩ := CB.out.keep hb1
  by_cases q1 : 0 < x
  · go_wp2_with fail
    refine (HAB'.out _).mono ?_
    rintro e w2 ⟨rfl, hb2⟩
    have hb2' := below_tr hb1 hb2
    go_wp2_with fail
    refine (HL'.out _ (he'.out.below hb2')).mono ?_
    rintro e w3 ⟨rfl, hb3⟩
    go_wp2
    go_ret
    exact ⟨rfl, below_tr hb0 (below_tr hb2' hb3)⟩
  · go_wp2_with fail
    refine (HAB'.out _).mono ?_
    rintro e w2 ⟨rfl, hb2⟩
    have hb2' := below_tr hb1 hb2
    clear a0 a1 a2 a3 b0 b1 b2 b3
    obtain ⟨b0, b1, b2, b3⟩ := CB.out.keep hb2'
    obtain ⟨d0, d1, d2, d3⟩ := CC.out.keep hb2'
    by_cases q2 : 0 < y
    · go_wp2_with fail
      refine (HBC'.out _).mono ?_
      rintro e w3 ⟨rfl, hb3⟩
      have hb3' := below_tr hb2' hb3
      go_wp2_with fail
      refine (HL'.out _ (he'.out.below hb3')).mono ?_
      rintro e w4 ⟨rfl, hb4⟩
      go_wp2
      go_ret
      exact ⟨rfl, below_tr hb0 (below_tr hb3' hb4)⟩
    · have hz := Z2.out (by omega) (by omega)
      go_wp2_with fail
      refine (HBC'.out _).mono ?_
      rintro e w3 ⟨rfl, hb3⟩
      have hb3' := below_tr hb2' hb3
      clear b0 b1 b2 b3 d0 d1 d2 d3
      obtain ⟨a0, a1, a2, a3⟩ := CA.out.keep hb3'
      obtain ⟨d0, d1, d2, d3⟩ := CC.out.keep hb3'
      go_wp2_with fail
      refine (HAC'.out _).mono ?_
      rintro e w4 ⟨rfl, hb4⟩
      have hb4' := below_tr hb3' hb4
      go_wp2_with fail
      refine (HL'.out _ (he'.out.below hb4')).mono ?_
      rintro e w5 ⟨rfl, hb5⟩
      go_wp2
      go_ret
      exact ⟨ret_b (by simp; omega), below_tr hb0 (below_tr hb4' hb5)⟩
end Go.Proofs.YtkmcjainbhmbdaaDoor
