/- Contracts of cmp.Or at numbers, of cell's rank and Cmp. No condition. -/
import Derived.Test.YtmjeifbadjdnfaaDoorHa
import Derived.Test.YtmjeifbadjdnfaaDoorPc
import Derived.Test.YtmjeifbadjdnfaaDoorTl
import Derived.Test.YtmjeifbadjdnfaaDoorEq
set_option linter.unusedVariables false
set_option linter.unusedSimpArgs false
set_option maxRecDepth 50000
namespace Go.Proofs.YtmjeifbadjdnfaaDoor
open Go.RowKit Go.Sort
open Go.Lib hiding intOf

/-- the first that is not 0 -/
def orL : List Int → Int
  | [] => 0
  | x :: l => if x = 0 then orL l else x
theorem orL_drop (xs : List Int) (k : Nat) (h : k < xs.length) : orL (xs.drop k) = if xs[k] = 0 then orL (xs.drop (k + 1)) else xs[k] := by
  rw [List.drop_eq_getElem_cons h]; rfl
theorem orN_any (g o cap : Nat) (xs : List Int) (w : World) (hl : xs.length ≤ 1000000) (hx : ∀ k, (h : k < xs.length) → w.cell? ⟨g, o + k, none⟩ = some (.int .i64 xs[k])) :
    Calls Tryd.prog 48 #[.slice (some ⟨g, o, none⟩) xs.length cap] w fun e w' => e = .returned (.int .i64 (orL xs)) ∧ w = w' := by
  have HX := Lib.hid hx; clear hx
  go_enter Tryd.func48, Tryd.ntmps48
  go_wp2_with fail
  go_loop [8] (fun i => ∃ k : Nat, k ≤ xs.length ∧ i = .int .i64 k ∧ Hid (orL xs = orL (xs.drop k))) (fun i => xs.length - (intOf i).toNat)
  case atStart => exact ⟨0, by omega, rfl, Lib.hid (by simp)⟩
  case round =>
    obtain ⟨k, hk, rfl, HD⟩ := hrel
    by_cases hlt : k < xs.length
    · have hz : (k : Int) < (xs.length : Int) := by omega
      have hc := HX.out k hlt
      have hd := orL_drop xs k hlt
      by_cases h0 : xs[k] = 0
      · rw [if_pos h0] at hd
        rw [h0] at hc
        have HN := Lib.hid (HD.out.trans hd)
        clear hd h0
        go_wp2_with fail
        go_round
        case rel => exact ⟨k + 1, by omega, by first | rfl | go_num, HN⟩
        case measure => simp [intOf]; omega
      · rw [if_neg h0] at hd
        have HN := Lib.hid (HD.out.trans hd)
        clear hd
        generalize xs[k] = x at *
        have hb : (x != 0) = true := by simpa using h0
        go_wp2_with fail
        go_ret
        exact ⟨ret_i HN.out.symm, rfl⟩
    · have hz : ¬ (k : Int) < (xs.length : Int) := by omega
      have HN := Lib.hid (HD.out.trans (by rw [List.drop_eq_nil_of_le (by omega)]; rfl : orL (xs.drop k) = 0))
      go_wp2_with fail
      go_ret
      exact ⟨ret_i HN.out.symm, rfl⟩

def rk (d : Bool) : Int := if d then 1 else 0
theorem rank_any (d : Bool) (w : World) : Calls Tryd.prog 136 #[.bool d] w fun e w' => e = .returned (.int .i64 (rk d)) ∧ w = w' := by
  cases d <;> (go_enter Tryd.func136, Tryd.ntmps136; go_wp2; go_ret; exact ⟨rfl, rfl⟩)

/-- '==' of two values, of two versions -/
def valEq (k1 n1 : Int) (s1 : ByteArray) (k2 n2 : Int) (s2 : ByteArray) : Bool := k1 == k2 && (n1 == n2 && (s1.toList == s2.toList && true))
def verEq (a b : Vr) : Bool := a.time == b.time && (a.dead == b.dead && (a.loc == b.loc && (valEq a.kind a.n a.s b.kind b.n b.s && true)))
theorem valEq_iff (k1 n1 : Int) (s1 : ByteArray) (k2 n2 : Int) (s2 : ByteArray) : valEq k1 n1 s1 k2 n2 s2 = true ↔ (k1 = k2 ∧ n1 = n2 ∧ s1 = s2) := by
  unfold valEq
  simp only [Bool.and_eq_true, beq_iff_eq, and_true]
  constructor
  · rintro ⟨h1, h2, h3⟩; exact ⟨h1, h2, toList_inj h3⟩
  · rintro ⟨h1, h2, h3⟩; exact ⟨h1, h2, by rw [h3]⟩
theorem verEq_iff (a b : Vr) : verEq a b = true ↔ a = b := by
  obtain ⟨t, d, l, k, n, s⟩ := a; obtain ⟨t', d', l', k', n', s'⟩ := b
  unfold verEq
  simp only [Bool.and_eq_true, beq_iff_eq, and_true, valEq_iff, Vr.mk.injEq]
theorem valIn (d : Nat) (w : World) (k1 n1 : Int) (s1 : ByteArray) (k2 n2 : Int) (s2 : ByteArray) :
    (Op.equalIn (d + 2) 31 (.agg #[.int .i64 k1, .int .i64 n1, .string s1]) (.agg #[.int .i64 k2, .int .i64 n2, .string s2])).run Tryd.prog w = .ok (valEq k1 n1 s1 k2 n2 s2) w := by
  refine eqS Tryd.underlying31 (by kernel_rfl) ?_
  refine eqF (by rfl) (by go_simp; rfl) (by go_simp; rfl) (by go_simp) ?_
  refine eqF (by rfl) (by go_simp; rfl) (by go_simp; rfl) (by go_simp) ?_
  refine eqF (by rfl) (by go_simp; rfl) (by go_simp; rfl) (by go_simp) ?_
  exact eqN
theorem verIn (d : Nat) (w : World) (a b : Vr) : (Op.equalIn (d + 3) 33 (.agg (vrEnc a).toArray) (.agg (vrEnc b).toArray)).run Tryd.prog w = .ok (verEq a b) w := by
  obtain ⟨t, d1, l, k, n, s⟩ := a; obtain ⟨t', d', l', k', n', s'⟩ := b
  refine eqS Tryd.underlying33 (by kernel_rfl) ?_
  refine eqF (by rfl) (by simp only [vrEnc]; go_simp; rfl) (by simp only [vrEnc]; go_simp; rfl) (by go_simp) ?_
  refine eqF (by rfl) (by simp only [vrEnc]; go_simp; rfl) (by simp only [vrEnc]; go_simp; rfl) (by go_simp) ?_
  refine eqF (by rfl) (by simp only [vrEnc]; go_simp; rfl) (by simp only [vrEnc]; go_simp; rfl) (by go_simp) ?_
  refine eqF (by rfl) (by simp only [vrEnc]; go_simp <;> rfl) (by simp only [vrEnc]; go_simp <;> rfl) (valIn d w k n s k' n' s') ?_
  exact eqN
theorem ver_eql (w : World) (a b : Vr) : (binOp .eql 33 (.agg (vrEnc a).toArray) (.agg (vrEnc b).toArray)).run Tryd.prog w = .ok (.bool (verEq a b)) w := by
  rw [run_eql_struct, verIn 9997]; rfl

/-- the order of versions -/
def cmpV (a b : Vr) : Int := if verEq a b = true then 0 else
  if orL [cmpI a.time b.time, cmpI (rk a.dead) (rk b.dead)] ≠ 0 then orL [cmpI a.time b.time, cmpI (rk a.dead) (rk b.dead)] else
  if a.dead = true then cmpI a.loc b.loc else orL [cmpI a.kind b.kind, cmpI a.n b.n, cmpS a.s b.s]
/-- the six cells of a version -/
structure Six (w : World) (g o : Nat) (v : Vr) : Prop where
  c0 : w.cell? ⟨g, o, none⟩ = some (.int .i64 v.time)
  c1 : w.cell? ⟨g, o + 1, none⟩ = some (.bool v.dead)
  c2 : w.cell? ⟨g, o + 2, none⟩ = some (.int .i64 v.loc)
  c3 : w.cell? ⟨g, o + 3, none⟩ = some (.int .i64 v.kind)
  c4 : w.cell? ⟨g, o + 4, none⟩ = some (.int .i64 v.n)
  c5 : w.cell? ⟨g, o + 5, none⟩ = some (.string v.s)
theorem Six.keep {w w1 : World} {g o : Nat} {v : Vr} (h : Six w g o v) (hb : Below w.heap.size w w1) : Six w1 g o v :=
  ⟨cell_keep hb h.c0, cell_keep hb h.c1, cell_keep hb h.c2, cell_keep hb h.c3, cell_keep hb h.c4, cell_keep hb h.c5⟩
theorem Blk.six {w : World} {g : Nat} {v : Vr} (h : Blk w g 33 (vrEnc v).toArray) : Six w g 0 v := ⟨h.cell 0 rfl, h.cell 1 rfl, h.cell 2 rfl, h.cell 3 rfl, h.cell 4 rfl, h.cell 5 rfl⟩
/-- the three cells of a value -/
structure Thr (w : World) (g : Nat) (k n : Int) (s : ByteArray) : Prop where
  c0 : w.cell? ⟨g, 0, none⟩ = some (.int .i64 k)
  c1 : w.cell? ⟨g, 1, none⟩ = some (.int .i64 n)
  c2 : w.cell? ⟨g, 2, none⟩ = some (.string s)
theorem Thr.keep {w w1 : World} {g : Nat} {k n : Int} {s : ByteArray} (h : Thr w g k n s) (hb : Below w.heap.size w w1) : Thr w1 g k n s := ⟨cell_keep hb h.c0, cell_keep hb h.c1, cell_keep hb h.c2⟩
theorem orN_new (w : World) (cs : List Int) (t : TypeId) (n c : Nat) (hn : n = cs.length) (hl : cs.length ≤ 1000000) (W : World) (hc : ∀ k u, (cs.map (Value.int .i64))[k]? = some u → W.cell? ⟨w.heap.size, k, none⟩ = some u) :
    Calls Tryd.prog 48 #[.slice (some ⟨w.heap.size, 0, none⟩) n c] W fun e w' => e = .returned (.int .i64 (orL cs)) ∧ W = w' := by
  subst hn
  exact orN_any _ 0 c cs W hl fun k h => by rw [Nat.zero_add]; exact hc k _ (by simp [h])

set_option maxHeartbeats 4000000 in
theorem cmpV_any (a b : Vr) (w : World) : Calls Tryd.prog 116 #[.agg (vrEnc a).toArray, .agg (vrEnc b).toArray] w fun e w' => e = .returned (.int .i64 (cmpV a b)) ∧ Below w.heap.size w w' := by
  have hq := fun w => ver_eql w a b
  have EQ := Lib.hid hq
  have k1 := ((Blk.new w 33 (vrEnc a).toArray).alloc (.cells (vrEnc b).toArray 33)).six
  have k2 := (Blk.new (w.alloc (.cells (vrEnc a).toArray 33)) 33 (vrEnc b).toArray).six
  rw [show (w.alloc (.cells (vrEnc a).toArray 33)).heap.size = w.heap.size + 1 by simp] at k2
  have hb0 := below_alloc (below_alloc (Below.refl _ w) (.cells (vrEnc a).toArray 33)) (.cells (vrEnc b).toArray 33)
  have K1 := Lib.hid k1; have K2 := Lib.hid k2; have HB0 := Lib.hid hb0
  obtain ⟨R, hR⟩ : ∃ R, cmpV a b = R := ⟨_, rfl⟩
  rw [hR]
  unfold cmpV at hR
  have DEF := Lib.hid hR
  clear hR
  generalize verEq a b = ve at *
  clear k1 k2 hb0 hq
  obtain ⟨t, d, l, k, n, s⟩ := a
  obtain ⟨t', d', l', k', n', s'⟩ := b
  simp only [vrEnc] at *
  have eq := EQ.out
  go_enter Tryd.func116, Tryd.ntmps116
  cases ve with
  | true =>
    go_wp2_with fail
    go_ret
    exact ⟨ret_i (by rw [← DEF.out]; rfl), HB0.out⟩
  | false =>
    go_wp2_with fail
    clear eq EQ
    generalize hg : w.heap.size = g at *
    generalize hW : (w.alloc (.cells #[.int .i64 t, .bool d, .int .i64 l, .int .i64 k, .int .i64 n, .string s] 33)).alloc (.cells #[.int .i64 t', .bool d', .int .i64 l', .int .i64 k', .int .i64 n', .string s'] 33) = W at *
    have HW := Lib.hid hW; have HG := Lib.hid hg
    clear hW hg
    have FIN := Lib.hid (fun w4 (h : Below W.heap.size W w4) => show Below w.heap.size w w4 by have h0 := HB0.out; rw [← HG.out] at h0; exact below_tr h0 h)
    have q1 := Lib.hid (QP.same (P := Tryd.prog) (W := W) fun W' => cmp_i t t' W')
    have q2 := Lib.hid (QP.same (P := Tryd.prog) (W := W) fun W' => rank_any d W')
    have q3 := Lib.hid (QP.same (P := Tryd.prog) (W := W) fun W' => rank_any d' W')
    have q4 := Lib.hid (QP.same (P := Tryd.prog) (W := W) fun W' => cmp_i (rk d) (rk d') W')
    have f0 := fun dr os => (K1.out.keep (below_regrown W dr os)).c0
    have f1 := fun dr os => (K1.out.keep (below_regrown W dr os)).c1
    have g0 := fun dr os => (K2.out.keep (below_regrown W dr os)).c0
    have g1 := fun dr os => (K2.out.keep (below_regrown W dr os)).c1
    simp only [Nat.zero_add] at f0 f1 g0 g1
    obtain ⟨x1, hx1⟩ : ∃ x, cmpI t t' = x := ⟨_, rfl⟩
    obtain ⟨x2, hx2⟩ : ∃ x, cmpI (rk d) (rk d') = x := ⟨_, rfl⟩
    obtain ⟨r1, hr1⟩ : ∃ x, rk d = x := ⟨_, rfl⟩
    obtain ⟨r2, hr2⟩ : ∃ x, rk d' = x := ⟨_, rfl⟩
    rw [hx1] at q1; rw [hx2] at q4; rw [hr1] at q2 q4; rw [hr2] at q3 q4
    have H1 := Lib.hid hx1; have H2 := Lib.hid hx2
    clear hx1 hx2 hr1 hr2
    refine wp_region_quiet_tail 12 (by kernel_rfl) (by kernel_rfl) ?_
    simp only [List.take_succ_cons, List.take_zero, List.drop_succ_cons, List.drop_zero]
    repeat (quiet_step (first | with_reducible exact q1.out.at _ _ | with_reducible exact q2.out.at _ _ | with_reducible exact q3.out.at _ _ | with_reducible exact q4.out.at _ _))
    refine wpQuiet_nil ?_
    intro w3 hw3
    have hb3 := regrown_below hw3
    have HB3 := Lib.hid hb3
    clear hw3 hb3 f0 f1 g0 g1 q1 q2 q3 q4
    go_wp2_with fail
    refine (orN_new w3 [x1, x2] 3 2 2 rfl (by simp) _ (fun k u hk => (Blk.new w3 _ #[.int .i64 x1, .int .i64 x2]).cell k (by simpa using hk))).mono ?_
    rintro e w4 ⟨rfl, rfl⟩
    have HB4 := Lib.hid (below_alloc HB3.out (.cells #[.int .i64 x1, .int .i64 x2] 3))
    obtain ⟨o1, ho1⟩ : ∃ o, orL [x1, x2] = o := ⟨_, rfl⟩
    rw [ho1]
    rw [← H1.out, ← H2.out] at ho1
    have HO1 := Lib.hid ho1
    clear ho1
    generalize w3.alloc (.cells #[.int .i64 x1, .int .i64 x2] 3) = w4 at *
    by_cases h0 : o1 = 0
    · subst h0
      obtain ⟨_, m1, m2, m3, m4, m5⟩ := K1.out.keep HB4.out
      obtain ⟨_, _, p2, p3, p4, p5⟩ := K2.out.keep HB4.out
      simp only [Nat.zero_add] at m1 m2 m3 m4 m5 p2 p3 p4 p5
      cases d with
      | true =>
        go_wp2_with (first | (go_at_call 49; refine (cmp_i _ _ _).mono ?_; rintro e w' ⟨rfl, rfl⟩))
        go_ret
        exact ⟨ret_i (by rw [← DEF.out, HO1.out]; simp), FIN.out _ HB4.out⟩
      | false =>
        have HB40 := Lib.hid (Below.refl w4.heap.size w4)
        have hlt4 : g + 1 < w4.heap.size := World.block_lt_of_cell? w4 _ p2
        have z1 : g < w4.heap.size := by omega
        have z2 : g < w4.heap.size + 1 := by omega
        have z3 : g + 1 < w4.heap.size + 1 := by omega
        have B4 := Lib.hid (fun (o1 o2 : Obj) => below_alloc (below_alloc (Below.refl _ w4) o1) o2)
        go_upto_region 8 with (fail)
        go_cut [6, 7] (fun s6 s7 wx => ∃ g6 g7 : Nat, s6 = .pointer (some ⟨g6, 0, none⟩) ∧ s7 = .pointer (some ⟨g7, 0, none⟩) ∧ Thr wx g6 k n s ∧ Thr wx g7 k' n' s' ∧ Below w4.heap.size w4 wx)
        case first =>
          go_big_region
          all_goals (go_wp2_with fail; go_meet; case rel => exact ⟨_, _, rfl, rfl, ⟨by go_simp, by go_simp, by go_simp⟩, ⟨by go_simp, by go_simp, by go_simp⟩, Below.drew (B4.out _ _)⟩)
        case rest =>
          obtain ⟨g6, g7, rfl, rfl, t6, t7, hbc⟩ := hcut
          have T6 := Lib.hid t6; have T7 := Lib.hid t7; have HBC := Lib.hid (below_tr HB4.out hbc)
          clear t6 t7 hbc m1 m2 m3 m4 m5 p2 p3 p4 p5
          have q1 := Lib.hid (QP.same (P := Tryd.prog) (W := wc) fun W' => cmp_i k k' W')
          have q2 := Lib.hid (QP.same (P := Tryd.prog) (W := wc) fun W' => cmp_i n n' W')
          have q3 := Lib.hid (QP.same (P := Tryd.prog) (W := wc) fun W' => cmp_s s s' W')
          have f0 := fun dr os => (T6.out.keep (below_regrown wc dr os)).c0
          have f1 := fun dr os => (T6.out.keep (below_regrown wc dr os)).c1
          have f2 := fun dr os => (T6.out.keep (below_regrown wc dr os)).c2
          have g0 := fun dr os => (T7.out.keep (below_regrown wc dr os)).c0
          have g1 := fun dr os => (T7.out.keep (below_regrown wc dr os)).c1
          have g2 := fun dr os => (T7.out.keep (below_regrown wc dr os)).c2
          obtain ⟨y1, hy1⟩ : ∃ x, cmpI k k' = x := ⟨_, rfl⟩
          obtain ⟨y2, hy2⟩ : ∃ x, cmpI n n' = x := ⟨_, rfl⟩
          obtain ⟨y3, hy3⟩ : ∃ x, cmpS s s' = x := ⟨_, rfl⟩
          rw [hy1] at q1; rw [hy2] at q2; rw [hy3] at q3
          have Y := Lib.hid (And.intro hy1 (And.intro hy2 hy3))
          clear hy1 hy2 hy3
          go_wp2_with fail
          refine wp_region_quiet_tail 15 (by kernel_rfl) (by kernel_rfl) ?_
          simp only [List.take_succ_cons, List.take_zero, List.drop_succ_cons, List.drop_zero]
          repeat (quiet_step (first | with_reducible exact q1.out.at _ _ | with_reducible exact q2.out.at _ _ | with_reducible exact q3.out.at _ _))
          refine wpQuiet_nil ?_
          intro w5 hw5
          have HB5 := Lib.hid (below_tr HBC.out (regrown_below hw5))
          clear hw5 f0 f1 f2 g0 g1 g2 q1 q2 q3
          go_wp2_with fail
          refine (orN_new w5 [y1, y2, y3] 3 3 3 rfl (by simp) _ (fun k u hk => (Blk.new w5 _ #[.int .i64 y1, .int .i64 y2, .int .i64 y3]).cell k (by simpa using hk))).mono ?_
          rintro e w6 ⟨rfl, rfl⟩
          have HB6 := Lib.hid (below_alloc HB5.out (.cells #[.int .i64 y1, .int .i64 y2, .int .i64 y3] 3))
          obtain ⟨o2, ho2⟩ : ∃ o, orL [y1, y2, y3] = o := ⟨_, rfl⟩
          rw [ho2]
          rw [← Y.out.1, ← Y.out.2.1, ← Y.out.2.2] at ho2
          have HO2 := Lib.hid ho2
          clear ho2
          go_wp2_with fail
          go_ret
          exact ⟨ret_i (by rw [← DEF.out, HO1.out, HO2.out]; simp), FIN.out _ HB6.out⟩
    · have hb : (o1 != 0) = true := by simpa using h0
      go_wp2_with fail
      go_ret
      exact ⟨ret_i (by rw [← DEF.out, HO1.out, if_pos h0]; simp), FIN.out _ HB4.out⟩
end Go.Proofs.YtmjeifbadjdnfaaDoor
