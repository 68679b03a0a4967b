/- Contracts of the reference's reader's cell and of its ReadCells. Condition: at most a million bytes. Contract of the reference's ReadCells. Condition: at most a million bytes. The contract of the table's Write at good cells. Conditions: sizes; room. -/
import Derived.Test.YtplghaoflmaadaaGreatDoorZ30
import Derived.Test.YtplghaoflmaadaaGreatDoorZ23
section
set_option linter.unusedVariables false
set_option linter.unusedSimpArgs false
set_option maxRecDepth 50000
namespace Go.Proofs.YtplghaoflmaadaaGreatDoor
open Go.RowKit

theorem TT.lt {o : List UInt8} {b b' : Bool} {u : Nat} {r : List UInt8} (h : TT (rdNum o) 0 b u r b') : u < 18446744073709551616 := by
  rcases h with ⟨e, _⟩ | ⟨_, e, _, _⟩
  · exact (rdNum_len e).1
  · omega
/-- a cell's version behind its time, and the cell -/
def restC (s1 s2 : List UInt8) (n3 : Int) (s4 : List UInt8) (n5 : Int) (l : List UInt8) : Option (Cel × List UInt8) :=
  match rdFlag l with
  | none => none
  | some (true, l) => (rdInt l).map fun p => (⟨⟨⟨s1.toArray⟩, ⟨s2.toArray⟩, n3, ⟨s4.toArray⟩⟩, ⟨n5, true, p.1, 0, 0, ⟨#[]⟩⟩⟩, p.2)
  | some (false, l) => match rdNum l with
    | none => none
    | some (k, l) => match rdInt l with
      | none => none
      | some (n, l) => (rdText l).map fun p => (⟨⟨⟨s1.toArray⟩, ⟨s2.toArray⟩, n3, ⟨s4.toArray⟩⟩, ⟨n5, false, 0, i64I k, n, ⟨p.1.toArray⟩⟩⟩, p.2)
theorem fin5 {l l1 l2 l3 l4 l5 s1 s2 s4 : List UInt8} {u3 u5 : Nat} {b b1 b2 b3 b4 b5 : Bool} (t1 : TT (rdText l) [] b s1 l1 b1) (t2 : TT (rdText l1) [] b1 s2 l2 b2) (t3 : TT (rdNum l2) 0 b2 u3 l3 b3) (t4 : TT (rdText l3) [] b3 s4 l4 b4) (t5 : TT (rdNum l4) 0 b4 u5 l5 b5) :
    (b5 = b ∧ rdCell l = restC s1 s2 (zagI u3) s4 (zagI u5) l5) ∨ (b5 = true ∧ rdCell l = none) := by
  rcases t1 with ⟨e1, rfl⟩ | ⟨e1, _, _, rfl⟩
  · rcases t2 with ⟨e2, rfl⟩ | ⟨e2, _, _, rfl⟩
    · rcases t3 with ⟨e3, rfl⟩ | ⟨e3, _, _, rfl⟩
      · rcases t4 with ⟨e4, rfl⟩ | ⟨e4, _, _, rfl⟩
        · rcases t5 with ⟨e5, rfl⟩ | ⟨e5, _, _, rfl⟩
          · refine .inl ⟨rfl, ?_⟩
            have f3 : rdInt l2 = some (zagI u3, l3) := by unfold rdInt; rw [e3]; rfl
            have f5 : rdInt l4 = some (zagI u5, l5) := by unfold rdInt; rw [e5]; rfl
            simp only [rdCell, rdVer, e1, e2, f3, e4, f5, bind, Option.bind, restC]
            cases rdFlag l5 with
            | none => rfl
            | some q =>
              obtain ⟨d, l6⟩ := q
              cases d with
              | true =>
                simp only [if_true]
                cases rdInt l6 <;> rfl
              | false =>
                simp only [Bool.false_eq_true, if_false]
                cases rdNum l6 with
                | none => rfl
                | some q7 =>
                  simp only
                  cases rdInt q7.2 with
                  | none => rfl
                  | some q8 =>
                    simp only
                    cases rdText q8.2 <;> rfl
          · exact .inr ⟨rfl, by simp [rdCell, rdVer, rdInt, e1, e2, e3, e4, e5]⟩
        · exact .inr ⟨t5.wrong, by simp [rdCell, rdVer, rdInt, e1, e2, e3, e4]⟩
      · obtain rfl := t4.wrong
        exact .inr ⟨t5.wrong, by simp [rdCell, rdVer, rdInt, e1, e2, e3]⟩
    · obtain rfl := t3.wrong; obtain rfl := t4.wrong
      exact .inr ⟨t5.wrong, by simp [rdCell, rdVer, rdInt, e1, e2]⟩
  · obtain rfl := t2.wrong; obtain rfl := t3.wrong; obtain rfl := t4.wrong
    exact .inr ⟨t5.wrong, by simp [rdCell, rdVer, rdInt, e1]⟩
set_option maxHeartbeats 4000000 in
theorem rcell_any (B : Nat) (W : World) (g : Nat) (v : Value) (l : List UInt8) (b : Bool) (h : RW B W g v l b) (hl : l.length ≤ 1000000) :
    Calls Tryz.prog 121 #[.pointer (some ⟨g, 0, none⟩)] W (RcPost B W g l b) := by
  have R0 := Lib.hid (RX.start B W g v l b h hl)
  clear h
  go_enter Tryz.func121, Tryz.ntmps121
  go_wp2_with fail
  refine (RX.text R0.out).mono ?_
  rintro e w1 ⟨s1, l1, b1, v1, rfl, hw, hg, ht⟩
  have r1 := R0.out.next hw hg (ht.le (fun q r h => rdText_le h))
  have T1 := Lib.hid ht; clear ht hw hg
  have R1 : Hid (RX B W g _ l1 b1 #[sv s1, .string ⟨#[]⟩, .int .i64 0, .string ⟨#[]⟩, .int .i64 0, .bool false, .int .i64 0, .int .i64 0, .int .i64 0, .string ⟨#[]⟩]) := Lib.hid (r1.put 0 (sv s1))
  have k1 := r1.k5.cell 0 rfl; have f1 := r1.k5.frozen 0; clear r1
  go_wp2_with fail
  refine (RX.text R1.out).mono ?_
  rintro e w2 ⟨s2, l2, b2, v2, rfl, hw, hg, ht⟩
  have r2 := R1.out.next hw hg (ht.le (fun q r h => rdText_le h))
  have T2 := Lib.hid ht; clear ht hw hg
  have R2 : Hid (RX B W g _ l2 b2 #[sv s1, sv s2, .int .i64 0, .string ⟨#[]⟩, .int .i64 0, .bool false, .int .i64 0, .int .i64 0, .int .i64 0, .string ⟨#[]⟩]) := Lib.hid (r2.put 1 (sv s2))
  have k2 := r2.k5.cell 1 rfl; have f2 := r2.k5.frozen 1; clear r2
  go_wp2_with fail
  refine (RX.num R2.out).mono ?_
  rintro e w3 ⟨u3, l3, b3, v3, rfl, hw, hg, ht⟩
  have r3 := R2.out.next hw hg (ht.le (fun q r h => rdNum_le h))
  have Z := Lib.hid (rZag_any u3 ht.lt)
  have T3 := Lib.hid ht; clear ht hw hg
  have R3 : Hid (RX B W g _ l3 b3 #[sv s1, sv s2, .int .i64 (zagI u3), .string ⟨#[]⟩, .int .i64 0, .bool false, .int .i64 0, .int .i64 0, .int .i64 0, .string ⟨#[]⟩]) := Lib.hid (r3.put 2 (.int .i64 (zagI u3)))
  have k3 := r3.k5.cell 2 rfl; have f3 := r3.k5.frozen 2; clear r3
  go_wp2_with fail
  refine (Z.out _).mono ?_
  rintro e w' ⟨rfl, rfl⟩
  clear Z
  go_wp2_with fail
  refine (RX.text R3.out).mono ?_
  rintro e w4 ⟨s4, l4, b4, v4, rfl, hw, hg, ht⟩
  have r4 := R3.out.next hw hg (ht.le (fun q r h => rdText_le h))
  have T4 := Lib.hid ht; clear ht hw hg
  have R4 : Hid (RX B W g _ l4 b4 #[sv s1, sv s2, .int .i64 (zagI u3), sv s4, .int .i64 0, .bool false, .int .i64 0, .int .i64 0, .int .i64 0, .string ⟨#[]⟩]) := Lib.hid (r4.put 3 (sv s4))
  have k4 := r4.k5.cell 3 rfl; have f4 := r4.k5.frozen 3; clear r4
  go_wp2_with fail
  refine (RX.num R4.out).mono ?_
  rintro e w5 ⟨u5, l5, b5, v5, rfl, hw, hg, ht⟩
  have r5 := R4.out.next hw hg (ht.le (fun q r h => rdNum_le h))
  have Z := Lib.hid (rZag_any u5 ht.lt)
  have T5 := Lib.hid ht; clear ht hw hg
  have R5 : Hid (RX B W g _ l5 b5 #[sv s1, sv s2, .int .i64 (zagI u3), sv s4, .int .i64 (zagI u5), .bool false, .int .i64 0, .int .i64 0, .int .i64 0, .string ⟨#[]⟩]) := Lib.hid (r5.put 4 (.int .i64 (zagI u5)))
  have k5 := r5.k5.cell 4 rfl; have f5 := r5.k5.frozen 4; clear r5
  go_wp2_with fail
  refine (Z.out _).mono ?_
  rintro e w' ⟨rfl, rfl⟩
  clear Z
  have F5 := Lib.hid (fin5 T1.out T2.out T3.out T4.out T5.out)
  have L5 := Lib.hid (Nat.le_trans (T5.out.le (fun q r h => rdNum_le h)) (Nat.le_trans (T4.out.le (fun q r h => rdText_le h)) (Nat.le_trans (T3.out.le (fun q r h => rdNum_le h)) (Nat.le_trans (T2.out.le (fun q r h => rdText_le h)) (T1.out.le (l := l) (fun q r h => rdText_le h))))))
  clear T1 T2 T3 T4 T5 R0 R1 R2 R3 R4
  cases l5 with
  | nil =>
    obtain ⟨a0, c0, m0, m1, _, m2⟩ := R5.out.nil
    have RB := Lib.hid R5.out.bad
    have z0 := RB.out.k5.cell 0 rfl; have x0 := RB.out.k2.frozen 0; have y0 := RB.out.k2.cell 0 rfl
    have z1 := RB.out.k5.cell 1 rfl; have x1 := RB.out.k2.frozen 1; have y1 := RB.out.k2.cell 1 rfl
    have z2 := RB.out.k5.cell 2 rfl; have x2 := RB.out.k2.frozen 2; have y2 := RB.out.k2.cell 2 rfl
    have z3 := RB.out.k5.cell 3 rfl; have x3 := RB.out.k2.frozen 3; have y3 := RB.out.k2.cell 3 rfl
    have z4 := RB.out.k5.cell 4 rfl; have x4 := RB.out.k2.frozen 4; have y4 := RB.out.k2.cell 4 rfl
    have z5 := RB.out.k5.cell 5 rfl; have x5 := RB.out.k2.frozen 5; have y5 := RB.out.k2.cell 5 rfl
    have z6 := RB.out.k5.cell 6 rfl; have x6 := RB.out.k2.frozen 6; have y6 := RB.out.k2.cell 6 rfl
    have z7 := RB.out.k5.cell 7 rfl; have x7 := RB.out.k2.frozen 7; have y7 := RB.out.k2.cell 7 rfl
    have z8 := RB.out.k5.cell 8 rfl; have x8 := RB.out.k2.frozen 8; have y8 := RB.out.k2.cell 8 rfl
    have z9 := RB.out.k5.cell 9 rfl; have x9 := RB.out.k2.frozen 9; have y9 := RB.out.k2.cell 9 rfl
    go_wp2_with fail
    refine ret_gen (R := fun w2 => Blk w2 W.heap.size 61 #[sv s1, sv s2, .int .i64 (zagI u3), sv s4, .int .i64 (zagI u5), .bool false, .int .i64 0, .int .i64 0, .int .i64 0, .string ⟨#[]⟩] ∧ W.grownBy w2 (some g) ∧ ∃ v, RW B w2 g v [] true) (RB.out.res _ _ _ _ _ _ _ _ _ _) ?_
    rintro wz ⟨bk, hgz, vz, hrz⟩
    refine bodyPost_ret (v := .agg #[sv s1, sv s2, .int .i64 (zagI u3), sv s4, .int .i64 (zagI u5), .bool false, .int .i64 0, .int .i64 0, .int .i64 0, .string ⟨#[]⟩]) (by simp [results, Tryz.results121, go_sem, bk.cell 0 rfl, bk.cell 1 rfl, bk.cell 2 rfl, bk.cell 3 rfl, bk.cell 4 rfl, bk.cell 5 rfl, bk.cell 6 rfl, bk.cell 7 rfl, bk.cell 8 rfl, bk.cell 9 rfl]) rfl ⟨⟨⟨⟨s1.toArray⟩, ⟨s2.toArray⟩, zagI u3, ⟨s4.toArray⟩⟩, ⟨zagI u5, false, 0, 0, 0, ⟨#[]⟩⟩⟩, _, _, vz, rfl, hrz, hgz, ?_⟩
    refine .inr ⟨rfl, ?_, by simp⟩
    rcases F5.out with ⟨_, e⟩ | ⟨_, e⟩
    · rw [e]; rfl
    · exact e
  | cons y l6 =>
    obtain ⟨aa, ac, m0, m1, m2, m3, m4, m5, m6, a', c', mc, r6⟩ := R5.out.cut1
    obtain ⟨ag, ao, rfl⟩ : ∃ ag ao, aa = ⟨ag, ao, none⟩ := ⟨aa.block, aa.off, by cases aa; simp at m6; subst m6; rfl⟩
    have hq1 : ((l6.length : Int) + 1 == 0) = false := by rw [beq_eq_false_iff_ne]; omega
    have hyl := y.toNat_lt
    have HFL := Lib.hid (show rdFlag (y :: l6) = if 1 < y.toNat then none else some (y.toNat == 1, l6) from rfl)
    by_cases hy : 1 < y.toNat
    · have hq2 : (1 : Int) < (y.toNat : Int) := by omega
      have RB := Lib.hid R5.out.bad
      have hw1 := R5.out.rd
      obtain ⟨vv, hvv⟩ := hw1
      have m7 := hvv.blk.cell 1 rfl; clear hvv r6 mc
      have z0 := RB.out.k5.cell 0 rfl; have x0 := RB.out.k2.frozen 0; have y0 := RB.out.k2.cell 0 rfl
      have z1 := RB.out.k5.cell 1 rfl; have x1 := RB.out.k2.frozen 1; have y1 := RB.out.k2.cell 1 rfl
      have z2 := RB.out.k5.cell 2 rfl; have x2 := RB.out.k2.frozen 2; have y2 := RB.out.k2.cell 2 rfl
      have z3 := RB.out.k5.cell 3 rfl; have x3 := RB.out.k2.frozen 3; have y3 := RB.out.k2.cell 3 rfl
      have z4 := RB.out.k5.cell 4 rfl; have x4 := RB.out.k2.frozen 4; have y4 := RB.out.k2.cell 4 rfl
      have z5 := RB.out.k5.cell 5 rfl; have x5 := RB.out.k2.frozen 5; have y5 := RB.out.k2.cell 5 rfl
      have z6 := RB.out.k5.cell 6 rfl; have x6 := RB.out.k2.frozen 6; have y6 := RB.out.k2.cell 6 rfl
      have z7 := RB.out.k5.cell 7 rfl; have x7 := RB.out.k2.frozen 7; have y7 := RB.out.k2.cell 7 rfl
      have z8 := RB.out.k5.cell 8 rfl; have x8 := RB.out.k2.frozen 8; have y8 := RB.out.k2.cell 8 rfl
      have z9 := RB.out.k5.cell 9 rfl; have x9 := RB.out.k2.frozen 9; have y9 := RB.out.k2.cell 9 rfl
      go_wp2_with fail
      refine ret_gen (R := fun w2 => Blk w2 W.heap.size 61 #[sv s1, sv s2, .int .i64 (zagI u3), sv s4, .int .i64 (zagI u5), .bool false, .int .i64 0, .int .i64 0, .int .i64 0, .string ⟨#[]⟩] ∧ W.grownBy w2 (some g) ∧ ∃ v, RW B w2 g v (y :: l6) true) (RB.out.res _ _ _ _ _ _ _ _ _ _) ?_
      rintro wz ⟨bk, hgz, vz, hrz⟩
      refine bodyPost_ret (v := .agg #[sv s1, sv s2, .int .i64 (zagI u3), sv s4, .int .i64 (zagI u5), .bool false, .int .i64 0, .int .i64 0, .int .i64 0, .string ⟨#[]⟩]) (by simp [results, Tryz.results121, go_sem, bk.cell 0 rfl, bk.cell 1 rfl, bk.cell 2 rfl, bk.cell 3 rfl, bk.cell 4 rfl, bk.cell 5 rfl, bk.cell 6 rfl, bk.cell 7 rfl, bk.cell 8 rfl, bk.cell 9 rfl]) rfl ⟨⟨⟨⟨s1.toArray⟩, ⟨s2.toArray⟩, zagI u3, ⟨s4.toArray⟩⟩, ⟨zagI u5, false, 0, 0, 0, ⟨#[]⟩⟩⟩, _, _, vz, rfl, hrz, hgz, ?_⟩
      refine .inr ⟨rfl, ?_, L5.out⟩
      rcases F5.out with ⟨_, e⟩ | ⟨_, e⟩
      · rw [e, restC, HFL.out, if_pos hy]
      · exact e
    · have hq2 : ¬ (1 : Int) < (y.toNat : Int) := by omega
      have R6 := Lib.hid r6; clear r6
      have kd := R6.out.k5.cell 5 rfl; have fd := R6.out.k5.frozen 5
      by_cases h1 : y.toNat = 1
      · have hq3 : ((y.toNat : Int) == 1) = true := by rw [beq_iff_eq]; omega
        have R6b : Hid (RX B W g _ l6 b5 #[sv s1, sv s2, .int .i64 (zagI u3), sv s4, .int .i64 (zagI u5), .bool true, .int .i64 0, .int .i64 0, .int .i64 0, .string ⟨#[]⟩]) := Lib.hid (R6.out.put 5 (.bool true))
        have hfl : rdFlag (y :: l6) = some (true, l6) := by rw [HFL.out, if_neg hy, h1]; rfl
        have HF := Lib.hid hfl; clear hfl hy h1 R5
        go_wp2_with fail
        refine (RX.num R6b.out).mono ?_
        rintro e w7 ⟨u7, l7, b7, v7, rfl, hw, hg, ht⟩
        have r7 := R6b.out.next hw hg (ht.le (fun q r h => rdNum_le h))
        have Z := Lib.hid (rZag_any u7 ht.lt)
        have T7 := Lib.hid ht; clear ht hw hg
        have R7 : Hid (RX B W g _ l7 b7 #[sv s1, sv s2, .int .i64 (zagI u3), sv s4, .int .i64 (zagI u5), .bool true, .int .i64 (zagI u7), .int .i64 0, .int .i64 0, .string ⟨#[]⟩]) := Lib.hid (r7.put 6 (.int .i64 (zagI u7)))
        have k7 := r7.k5.cell 6 rfl; have f7 := r7.k5.frozen 6; clear r7
        go_wp2_with fail
        refine (Z.out _).mono ?_
        rintro e w' ⟨rfl, rfl⟩
        clear Z
        have z0 := R7.out.k5.cell 0 rfl; have x0 := R7.out.k2.frozen 0; have y0 := R7.out.k2.cell 0 rfl
        have z1 := R7.out.k5.cell 1 rfl; have x1 := R7.out.k2.frozen 1; have y1 := R7.out.k2.cell 1 rfl
        have z2 := R7.out.k5.cell 2 rfl; have x2 := R7.out.k2.frozen 2; have y2 := R7.out.k2.cell 2 rfl
        have z3 := R7.out.k5.cell 3 rfl; have x3 := R7.out.k2.frozen 3; have y3 := R7.out.k2.cell 3 rfl
        have z4 := R7.out.k5.cell 4 rfl; have x4 := R7.out.k2.frozen 4; have y4 := R7.out.k2.cell 4 rfl
        have z5 := R7.out.k5.cell 5 rfl; have x5 := R7.out.k2.frozen 5; have y5 := R7.out.k2.cell 5 rfl
        have z6 := R7.out.k5.cell 6 rfl; have x6 := R7.out.k2.frozen 6; have y6 := R7.out.k2.cell 6 rfl
        have z7 := R7.out.k5.cell 7 rfl; have x7 := R7.out.k2.frozen 7; have y7 := R7.out.k2.cell 7 rfl
        have z8 := R7.out.k5.cell 8 rfl; have x8 := R7.out.k2.frozen 8; have y8 := R7.out.k2.cell 8 rfl
        have z9 := R7.out.k5.cell 9 rfl; have x9 := R7.out.k2.frozen 9; have y9 := R7.out.k2.cell 9 rfl
        go_wp2_with fail
        refine ret_gen (R := fun w2 => Blk w2 W.heap.size 61 #[sv s1, sv s2, .int .i64 (zagI u3), sv s4, .int .i64 (zagI u5), .bool true, .int .i64 (zagI u7), .int .i64 0, .int .i64 0, .string ⟨#[]⟩] ∧ W.grownBy w2 (some g) ∧ ∃ v, RW B w2 g v l7 b7) (R7.out.res _ _ _ _ _ _ _ _ _ _) ?_
        rintro wz ⟨bk, hgz, vz, hrz⟩
        refine bodyPost_ret (v := .agg #[sv s1, sv s2, .int .i64 (zagI u3), sv s4, .int .i64 (zagI u5), .bool true, .int .i64 (zagI u7), .int .i64 0, .int .i64 0, .string ⟨#[]⟩]) (by simp [results, Tryz.results121, go_sem, bk.cell 0 rfl, bk.cell 1 rfl, bk.cell 2 rfl, bk.cell 3 rfl, bk.cell 4 rfl, bk.cell 5 rfl, bk.cell 6 rfl, bk.cell 7 rfl, bk.cell 8 rfl, bk.cell 9 rfl]) rfl ⟨⟨⟨⟨s1.toArray⟩, ⟨s2.toArray⟩, zagI u3, ⟨s4.toArray⟩⟩, ⟨zagI u5, true, zagI u7, 0, 0, ⟨#[]⟩⟩⟩, _, _, vz, rfl, hrz, hgz, ?_⟩
        rcases F5.out with ⟨rfl, e⟩ | ⟨rfl, e⟩
        · rcases T7.out with ⟨e7, rfl⟩ | ⟨e7, _, e8, rfl⟩
          · exact .inl ⟨rfl, by rw [e, restC, HF.out]; simp only; unfold rdInt; rw [e7]; rfl⟩
          · exact .inr ⟨rfl, by rw [e, restC, HF.out]; simp only; unfold rdInt; rw [e7]; rfl, by rw [e8]; simp⟩
        · exact .inr ⟨T7.out.wrong, e, by have h1 := T7.out.le (l := l6) (fun q r h => rdNum_le h); have h2 := L5.out; simp at h2; omega⟩
      · have hq3 : ((y.toNat : Int) == 1) = false := by rw [beq_eq_false_iff_ne]; omega
        have hfl : rdFlag (y :: l6) = some (false, l6) := by rw [HFL.out, if_neg hy]; simp; omega
        have HF := Lib.hid hfl; clear hfl hy h1 R5
        go_wp2_with fail
        refine (RX.num R6.out).mono ?_
        rintro e w7 ⟨u7, l7, b7, v7, rfl, hw, hg, ht⟩
        have r7 := R6.out.next hw hg (ht.le (fun q r h => rdNum_le h))
        have T7 := Lib.hid ht; clear ht hw hg
        have R7 : Hid (RX B W g _ l7 b7 #[sv s1, sv s2, .int .i64 (zagI u3), sv s4, .int .i64 (zagI u5), .bool false, .int .i64 0, .int .i64 (wrap64 (u7 : Int)), .int .i64 0, .string ⟨#[]⟩]) := Lib.hid (r7.put 7 (.int .i64 (wrap64 (u7 : Int))))
        have k7 := r7.k5.cell 7 rfl; have f7 := r7.k5.frozen 7; clear r7
        go_wp2_with fail
        refine (RX.num R7.out).mono ?_
        rintro e w8 ⟨u8, l8, b8, v8, rfl, hw, hg, ht⟩
        have r8 := R7.out.next hw hg (ht.le (fun q r h => rdNum_le h))
        have Z := Lib.hid (rZag_any u8 ht.lt)
        have T8 := Lib.hid ht; clear ht hw hg
        have R8 : Hid (RX B W g _ l8 b8 #[sv s1, sv s2, .int .i64 (zagI u3), sv s4, .int .i64 (zagI u5), .bool false, .int .i64 0, .int .i64 (wrap64 (u7 : Int)), .int .i64 (zagI u8), .string ⟨#[]⟩]) := Lib.hid (r8.put 8 (.int .i64 (zagI u8)))
        have k8 := r8.k5.cell 8 rfl; have f8 := r8.k5.frozen 8; clear r8
        go_wp2_with fail
        refine (Z.out _).mono ?_
        rintro e w' ⟨rfl, rfl⟩
        clear Z
        go_wp2_with fail
        refine (RX.text R8.out).mono ?_
        rintro e w9 ⟨s9, l9, b9, v9, rfl, hw, hg, ht⟩
        have r9 := R8.out.next hw hg (ht.le (fun q r h => rdText_le h))
        have T9 := Lib.hid ht; clear ht hw hg
        have R9 : Hid (RX B W g _ l9 b9 #[sv s1, sv s2, .int .i64 (zagI u3), sv s4, .int .i64 (zagI u5), .bool false, .int .i64 0, .int .i64 (wrap64 (u7 : Int)), .int .i64 (zagI u8), sv s9]) := Lib.hid (r9.put 9 (sv s9))
        have k9 := r9.k5.cell 9 rfl; have f9 := r9.k5.frozen 9; clear r9
        have HU := Lib.hid (i64_of u7 T7.out.lt)
        rw [HU.out] at R9
        have z0 := R9.out.k5.cell 0 rfl; have x0 := R9.out.k2.frozen 0; have y0 := R9.out.k2.cell 0 rfl
        have z1 := R9.out.k5.cell 1 rfl; have x1 := R9.out.k2.frozen 1; have y1 := R9.out.k2.cell 1 rfl
        have z2 := R9.out.k5.cell 2 rfl; have x2 := R9.out.k2.frozen 2; have y2 := R9.out.k2.cell 2 rfl
        have z3 := R9.out.k5.cell 3 rfl; have x3 := R9.out.k2.frozen 3; have y3 := R9.out.k2.cell 3 rfl
        have z4 := R9.out.k5.cell 4 rfl; have x4 := R9.out.k2.frozen 4; have y4 := R9.out.k2.cell 4 rfl
        have z5 := R9.out.k5.cell 5 rfl; have x5 := R9.out.k2.frozen 5; have y5 := R9.out.k2.cell 5 rfl
        have z6 := R9.out.k5.cell 6 rfl; have x6 := R9.out.k2.frozen 6; have y6 := R9.out.k2.cell 6 rfl
        have z7 := R9.out.k5.cell 7 rfl; have x7 := R9.out.k2.frozen 7; have y7 := R9.out.k2.cell 7 rfl
        have z8 := R9.out.k5.cell 8 rfl; have x8 := R9.out.k2.frozen 8; have y8 := R9.out.k2.cell 8 rfl
        have z9 := R9.out.k5.cell 9 rfl; have x9 := R9.out.k2.frozen 9; have y9 := R9.out.k2.cell 9 rfl
        go_wp2_with fail
        refine ret_gen (R := fun w2 => Blk w2 W.heap.size 61 #[sv s1, sv s2, .int .i64 (zagI u3), sv s4, .int .i64 (zagI u5), .bool false, .int .i64 0, .int .i64 (i64I u7), .int .i64 (zagI u8), sv s9] ∧ W.grownBy w2 (some g) ∧ ∃ v, RW B w2 g v l9 b9) (R9.out.res _ _ _ _ _ _ _ _ _ _) ?_
        rintro wz ⟨bk, hgz, vz, hrz⟩
        refine bodyPost_ret (v := .agg #[sv s1, sv s2, .int .i64 (zagI u3), sv s4, .int .i64 (zagI u5), .bool false, .int .i64 0, .int .i64 (i64I u7), .int .i64 (zagI u8), sv s9]) (by simp [results, Tryz.results121, go_sem, bk.cell 0 rfl, bk.cell 1 rfl, bk.cell 2 rfl, bk.cell 3 rfl, bk.cell 4 rfl, bk.cell 5 rfl, bk.cell 6 rfl, bk.cell 7 rfl, bk.cell 8 rfl, bk.cell 9 rfl]) rfl ⟨⟨⟨⟨s1.toArray⟩, ⟨s2.toArray⟩, zagI u3, ⟨s4.toArray⟩⟩, ⟨zagI u5, false, 0, i64I u7, zagI u8, ⟨s9.toArray⟩⟩⟩, _, _, vz, rfl, hrz, hgz, ?_⟩
        have hle : l9.length ≤ l.length := by have h1 := T9.out.le (l := l8) (fun q r h => rdText_le h); have h3 := T8.out.le (l := l7) (fun q r h => rdNum_le h); have h4 := T7.out.le (l := l6) (fun q r h => rdNum_le h); have h2 := L5.out; simp at h2; omega
        rcases F5.out with ⟨rfl, e⟩ | ⟨rfl, e⟩
        · rcases T7.out with ⟨e7, rfl⟩ | ⟨e7, _, _, rfl⟩
          · rcases T8.out with ⟨e8, rfl⟩ | ⟨e8, _, _, rfl⟩
            · rcases T9.out with ⟨e9, rfl⟩ | ⟨e9, _, _, rfl⟩
              · exact .inl ⟨rfl, by rw [e, restC, HF.out]; simp only [e7]; unfold rdInt; simp [e8, e9]⟩
              · exact .inr ⟨rfl, by rw [e, restC, HF.out]; simp only [e7]; unfold rdInt; simp [e8, e9], hle⟩
            · exact .inr ⟨T9.out.wrong, by rw [e, restC, HF.out]; simp only [e7]; unfold rdInt; simp [e8], hle⟩
          · have := T8.out.wrong; subst this; exact .inr ⟨T9.out.wrong, by rw [e, restC, HF.out]; simp only [e7], hle⟩
        · have h7 := T7.out.wrong; subst h7; have h8 := T8.out.wrong; subst h8; exact .inr ⟨T9.out.wrong, e, hle⟩
end Go.Proofs.YtplghaoflmaadaaGreatDoor
end

section
set_option linter.unusedVariables false
set_option linter.unusedSimpArgs false
set_option maxRecDepth 50000
namespace Go.Proofs.YtplghaoflmaadaaGreatDoor
open Go.RowKit

/-- what was read so far -/
def RSt (l l1 : List UInt8) (u i : Nat) (acc : List Cel) (rest : List UInt8) (b : Bool) : Prop :=
  (b = false ∧ i ≤ u ∧ acc.length + rest.length ≤ 1000000 ∧ rdNum l = some (u, l1) ∧ rdMany u l1 = (rdMany (u - i) rest).map fun p => (acc ++ p.1, p.2)) ∨ (b = true ∧ rdCells l = none)
set_option maxHeartbeats 4000000 in
theorem rReadCells_any (v : Value) (l : List UInt8) (w : World) (hv : SlB w.heap.size w v l) (hl : l.length ≤ 1000000) :
    Calls Tryz.prog 96 #[v] w (RdsPost w (rdCells l)) := by
  have HV := Lib.hid hv
  obtain ⟨a, c, rfl, hc, hx⟩ := hv.ex
  clear hv hx
  have R0 : Hid (RW w.heap.size (w.alloc (.cells #[.slice a l.length c, .bool false] 158)) w.heap.size (.slice a l.length c) l false) :=
    Lib.hid ⟨Blk.new w _ _, HV.out.below (below_al (Below.refl _ _) _ (Nat.le_refl _)), Nat.le_refl _⟩
  have HB0 := Lib.hid (below_alloc (Below.refl _ w) (.cells #[.slice a l.length c, .bool false] 158))
  go_enter Tryz.func96, Tryz.ntmps96
  go_wp2_with fail
  refine (rNum_any _ _ _ _ _ _ R0.out hl).mono ?_
  rintro e w1 ⟨u, l1, b1, v1, rfl, hw, hg, ht⟩
  have HB1 := Lib.hid (HB0.out.grown hg HB0.out.size (by intro k hk; injection hk with hk; omega))
  have hst : RSt l l1 u 0 [] l1 b1 := by
    rcases ht with ⟨e1, rfl⟩ | ⟨e1, _, _, rfl⟩
    · exact .inl ⟨rfl, Nat.zero_le _, by have := rdNum_le e1; simp; omega, e1, by simp⟩
    · exact .inr ⟨rfl, by unfold rdCells; rw [e1]⟩
  have hu : (u : Int) < 18446744073709551616 := by have := ht.lt; omega
  have hl1 : l1.length ≤ 1000000 := Nat.le_trans (ht.le (l := l) (fun q r h => rdNum_le h)) hl
  have HST := Lib.hid hst; have HW := Lib.hid hw
  clear hst hw hg ht HB0 R0
  go_wp2_with fail
  go_loopw [6, 7] (fun v6 v7 wr => ∃ (i : Nat) (acc : List Cel) (rest : List UInt8) (b : Bool) (v' : Value), v7 = .int .u64 (i : Int) ∧ i ≤ u ∧ OwnX eC wr w.heap.size v6 acc ∧ RW w.heap.size wr w.heap.size v' rest b ∧ Below w.heap.size w wr ∧ rest.length ≤ 1000000 ∧ Hid (RSt l l1 u i acc rest b)) (fun _ v7 _ => u - (intOf v7).toNat)
  case atStart => exact ⟨0, [], l1, b1, v1, rfl, Nat.zero_le _, OwnX.nil _ _, HW.out, HB1.out, hl1, HST⟩
  case round =>
    clear HST HW HB1
    obtain ⟨i, acc, rest, b, v', rfl, hi, hO, hRW, hB, hrl, HS⟩ := hrel
    have c0 := hRW.blk.cell 0 rfl; have c1 := hRW.blk.cell 1 rfl
    obtain ⟨ar, cr, rfl, hcr, -⟩ := hRW.sl.ex
    have HO := Lib.hid hO; have HRW := Lib.hid hRW; have HB := Lib.hid hB
    clear hO hRW hB
    have hfin : ∀ hb : b = false → i = u, rdCells l = if b = true then none else if rest.length = 0 then some acc else none := by
      intro hb
      rcases HS.out with ⟨rfl, _, _, e1, e2⟩ | ⟨rfl, e⟩
      · obtain rfl := hb rfl
        rw [if_neg (by simp)]
        unfold rdCells
        rw [e1]
        simp only
        rw [e2, Nat.sub_self, rdMany]
        cases rest <;> simp
      · rw [if_pos rfl, e]
    have HF := Lib.hid hfin; clear hfin
    by_cases hlt : i < u ∧ b = false
    · obtain ⟨hlt, rfl⟩ := hlt
      have hz : (i : Int) < (u : Int) := by omega
      have C := Lib.hid (rcell_any _ _ _ _ _ _ HRW.out hrl)
      have hacc : acc.length + rest.length ≤ 1000000 ∧ rdNum l = some (u, l1) ∧ rdMany u l1 = (rdMany (u - i) rest).map fun p => (acc ++ p.1, p.2) := by
        rcases HS.out with ⟨_, _, h1, h2, h3⟩ | ⟨h, _⟩
        · exact ⟨h1, h2, h3⟩
        · cases h
      have HA := Lib.hid hacc; clear hacc HF
      go_wp2_with fail
      refine C.out.mono ?_
      rintro e w2 ⟨x, r, b', v2, rfl, hrw2, hg2, hx⟩
      have hO2 := HO.out.grown hg2 (.inr (Ne.symm (HRW.out.blk.ne_own HO.out (by decide))))
      have hB2 := HB.out.grown hg2 HB.out.size (by intro k hk; injection hk with hk; omega)
      have hcells : eC.cells [x] = celEnc x := List.append_nil _
      have hnext : RSt l l1 u (i + 1) (acc ++ [x]) r b' ∧ r.length ≤ 1000000 := by
        obtain ⟨a1, a2, a3⟩ := HA.out
        obtain ⟨m, hm⟩ : ∃ m, u - i = m + 1 := ⟨u - i - 1, by omega⟩
        rw [hm] at a3
        have hm2 : u - (i + 1) = m := by omega
        rcases hx with ⟨rfl, e⟩ | ⟨rfl, e, hle⟩
        · have := rdCell_lt e
          refine ⟨.inl ⟨rfl, by omega, by rw [List.length_append]; simp; omega, a2, ?_⟩, by omega⟩
          rw [a3, hm2, rdMany, e]
          simp only [Option.map_map]
          congr 1; funext p; simp
        · refine ⟨.inr ⟨rfl, ?_⟩, by omega⟩
          unfold rdCells
          rw [a2]; simp only
          rw [a3, rdMany, e]; rfl
      have hal : acc.length + 1 ≤ 1000001 := by have := HA.out.1; omega
      obtain ⟨⟨xt, xp, xr, xq⟩, ⟨x4, x5, x6, x7, x8, x9⟩⟩ := x
      simp only [celEnc] at hcells ⊢
      have HC := Lib.hid hcells; have HN := Lib.hid hnext; have HRW2 := Lib.hid hrw2; have HO2 := Lib.hid hO2; have HB2 := Lib.hid hB2
      clear hcells hnext hrw2 hO2 hB2 hx hg2 C HA
      go_wp2_with (at_builtin; go_must (refine ap_g (E := eC) rfl (.tmp 25) (.tmp 28) rfl w.heap.size u6 acc _ _ [⟨⟨xt, xp, xr, xq⟩, ⟨x4, x5, x6, x7, x8, x9⟩⟩] rfl rfl (SlX.lit (E := eC) w2 #[.string xt, .string xp, .int .i64 xr, .string xq, .int .i64 x4, .bool x5, .int .i64 x6, .int .i64 x7, .int .i64 x8, .string x9] [⟨⟨xt, xp, xr, xq⟩, ⟨x4, x5, x6, x7, x8, x9⟩⟩] 1 1 rfl (Nat.le_refl _) HC.out.symm) (HO2.out.alloc (.cells #[.string xt, .string xp, .int .i64 xr, .string xq, .int .i64 x4, .bool x5, .int .i64 x6, .int .i64 x7, .int .i64 x8, .string x9] 61)) (Nat.le_trans HB2.out.size (by simp)) (by rw [List.length_singleton]; omega) (by show (acc.length + 1) * 112 ≤ _; omega) ?_); intro v4 w4 hO4 hG4)
      have hb4 : Below w.heap.size w w4 := (below_al HB2.out (.cells #[.string xt, .string xp, .int .i64 xr, .string xq, .int .i64 x4, .bool x5, .int .i64 x6, .int .i64 x7, .int .i64 x8, .string x9] 61) HB2.out.size).trans (hG4.below (Nat.le_trans HB2.out.size (by simp)) HO2.out.base)
      have hbw : Below w.heap.size w2 w4 := (below_al (Below.refl _ w2) (.cells #[.string xt, .string xp, .int .i64 xr, .string xq, .int .i64 x4, .bool x5, .int .i64 x6, .int .i64 x7, .int .i64 x8, .string x9] 61) HB2.out.size).trans (hG4.below (Nat.le_trans HB2.out.size (by simp)) HO2.out.base)
      have hrw4 : RW w.heap.size w4 w.heap.size v2 r b' := ⟨(HRW2.out.blk.alloc (.cells #[.string xt, .string xp, .int .i64 xr, .string xq, .int .i64 x4, .bool x5, .int .i64 x6, .int .i64 x7, .int .i64 x8, .string x9] 61)).growV (HO2.out.alloc (.cells #[.string xt, .string xp, .int .i64 xr, .string xq, .int .i64 x4, .bool x5, .int .i64 x6, .int .i64 x7, .int .i64 x8, .string x9] 61)) hG4 (by decide), HRW2.out.sl.below hbw, Nat.le_refl _⟩
      have HO4 := Lib.hid hO4; have HB4 := Lib.hid hb4; have HRW4 := Lib.hid hrw4
      clear hO4 hb4 hrw4 hbw hG4
      go_roundw
      case rel => exact ⟨i + 1, acc ++ [⟨⟨xt, xp, xr, xq⟩, ⟨x4, x5, x6, x7, x8, x9⟩⟩], r, b', v2, by go_num, by omega, HO4.out, HRW4.out, HB4.out, HN.out.2, Lib.hid HN.out.1⟩
      case measure => (first | (simp [intOf]; done) | (simp [intOf]; omega))
    · have HN := Lib.hid hlt; clear hlt
      cases b with
      | true =>
        have HBAD := Lib.hid ((HF.out (by simp)).trans (if_pos rfl))
        by_cases hlt : i < u
        all_goals
          have hz := hlt
          go_wp2_with fail
          go_ret2
          exact ⟨HB.out, by rw [HBAD.out]; rfl⟩
      | false =>
        have hiu : i = u := by have := HN.out; simp at this; omega
        subst hiu
        have hz : ¬ (i : Int) < (i : Int) := by omega
        by_cases h0 : rest.length = 0
        · have HOK := Lib.hid (((HF.out (fun _ => rfl)).trans (if_neg (by simp))).trans (if_pos h0))
          have q : ¬ (0 : Int) < (rest.length : Int) := by omega
          go_wp2_with fail
          go_ret2
          exact ⟨HB.out, by rw [HOK.out]; exact ⟨_, rfl, HO.out⟩⟩
        · have HBAD := Lib.hid (((HF.out (fun _ => rfl)).trans (if_neg (by simp))).trans (if_neg h0))
          have q : (0 : Int) < (rest.length : Int) := by omega
          clear h0 HF HS HN hrl
          obtain ⟨rn, hrn⟩ : ∃ n, rest.length = n := ⟨_, rfl⟩
          rw [hrn] at c0 q hcr
          obtain ⟨m, rfl⟩ : ∃ m, rn = m + 1 := ⟨rn - 1, by omega⟩
          clear hrn q
          have q : (0 : Int) < (m : Int) + 1 := by omega
          go_wp2_with fail
          go_ret2
          exact ⟨HB.out, by rw [HBAD.out]; rfl⟩
end Go.Proofs.YtplghaoflmaadaaGreatDoor
end

section
set_option linter.unusedVariables false
set_option linter.unusedSimpArgs false
set_option maxRecDepth 50000
namespace Go.Proofs.YtplghaoflmaadaaGreatDoor
open Go.RowKit Go.Sort Go.Shelf
open Go.Lib hiding intOf
attribute [local go_sem] Oper.semAt_some

set_option maxHeartbeats 4000000 in
theorem write_ok (v : Value) (L : List Cel) (w : World) (he : Env w) (hv : SlX eC w.heap.size w v L) (hk : OkT L) (hf : FitT L) :
    Calls Tryz.prog 12 #[v] w fun e w' => ∃ v', e = .returned (.tuple #[v', .int .i64 0]) ∧ OwnB w' w.heap.size v' (tableL L) ∧ Below w.heap.size w w' := by
  have HV := Lib.hid hv
  obtain ⟨a, cap, rfl, hc, hx⟩ := hv.ex
  obtain ⟨gl, o, rfl, hgl, _⟩ := hx hk.pos
  have HRm := Lib.hid (show Room L.length by unfold Room; have := hk.most; omega)
  have CS := Lib.hid (sorted_any _ L w hv HRm.out)
  have hbad : L.any (fun c => !goodC c) = false := by
    rw [List.any_eq_false]; intro c hc; rw [hk.good c hc]; simp
  have CB := Lib.hid (fun W (hb : Below w.heap.size w W) => hasC_any 31 #[] (enters_of Tryz.func31 (by kernel_rfl) rfl) w.heap.size w L (fun c => !goodC c) _ W (fun W' _ x hx => bad_any x W' (hf.ct x hx)) (hv.keep hb) hb hb.size HRm.out)
  rw [hbad] at CB
  have INC := Lib.hid hk.inc
  have hn0 : ¬ L.length = 0 := by have := hk.pos; omega
  have hn1 : (L.length : Int) ≤ 20000 := by have := hk.most; omega
  have hn2 : ¬ (20000 : Int) < (L.length : Int) := by omega
  have HOK := Lib.hid hk; have HF := Lib.hid hf; have HE := Lib.hid he
  clear hv hk hf he hbad
  generalize hlen : L.length = len at *
  have HLEN := Lib.hid hlen
  refine (callsIn_wide (n := 5)).1 (callsIn_of_wp_marks Tryz.func12 rfl trivial ?_ rfl)
  refine wpIn_wide.2 ?_
  simp only [Tryz.ntmps12, List.size_toArray, List.length_cons, List.length_nil, Nat.reduceAdd, Nat.reduceSub, Array.replicate_succ, Array.replicate_zero, List.push_toArray, List.append_toArray, List.nil_append, List.cons_append]
  have hb0 : ((len : Int) == 0) = false := by rw [beq_eq_false_iff_ne]; omega
  go_wp2_with fail
  refine CS.out.mono ?_
  rintro e w1 ⟨b, rfl, hbi, hb1⟩
  rw [HLEN.out] at hbi
  obtain rfl : b = true := hbi.2 INC.out
  have CB1 := Lib.hid (CB.out w1 hb1)
  have HB1 := Lib.hid hb1
  clear hbi hb1 CS CB
  go_wp2_with fail
  refine CB1.out.mono ?_
  rintro e w2 ⟨rfl, hb2⟩
  have HB2 := Lib.hid (below_tr HB1.out hb2)
  clear hb2 CB1 HB1
  go_wp2_with (go_at_call 34; refine (chunk_any _ _ _ _).mono ?_; rintro e w3 ⟨rfl, rfl⟩)
  obtain ⟨g, hg⟩ : ∃ g, w2.heap.size = g := ⟨_, rfl⟩
  rw [hg]
  rw [show g + 1 + 1 + 1 + 1 + 1 = g + 5 from rfl, show g + 1 + 1 + 1 + 1 = g + 4 from rfl, show g + 1 + 1 + 1 = g + 3 from rfl, show g + 1 + 1 = g + 2 from rfl]
  generalize hW0 : ((((((w2.alloc (.cells #[.slice none 0 0, .bool false] 75)).alloc (.cells #[.pointer (some ⟨g, 0, none⟩)] 73)).alloc (.cells #[.int .i64 0] 3)).alloc (.cells #[.slice none 0 0] 29)).alloc (.cells #[.slice (some ⟨gl, o, none⟩) len cap] 22)).alloc (.cells #[.int .i64 8] 3)) = W0
  have ws0 : WS w2 g gl o len cap W0 (.slice none 0 0) (.slice none 0 0) [] [] 0 := by
    rw [← hW0]
    refine ⟨?_, ?_, ?_, ?_, ?_, ?_, OwnB.nil _ _, OwnB.nil _ _, fun k hk => (by cases hk), ?_⟩
    · exact (((((Blk.at _ _ hg.symm).alloc _).alloc _).alloc _).alloc _).alloc _
    · exact ((((Blk.at _ _ (by simp [hg])).alloc _).alloc _).alloc _).alloc _
    · exact (((Blk.at _ _ (by simp [hg])).alloc _).alloc _).alloc _
    · exact ((Blk.at _ _ (by simp [hg])).alloc _).alloc _
    · exact (Blk.at _ _ (by simp [hg])).alloc _
    · exact Blk.at _ _ (by simp [hg])
    · rw [← hg]
      exact below_alloc (below_alloc (below_alloc (below_alloc (below_alloc (below_alloc (Below.refl _ _) _) _) _) _) _) _
  have hz0 : W0.heap.size = g + 6 := by rw [← hW0]; simp [hg]
  have hgw : g ≤ w2.heap.size := by omega
  have SEQ := Lib.hid (chunk_stops 4 (by omega) (g + 4) (g + 5) gl o len cap (by omega) (by omega) hc W0 (by omega) (by omega) (ws0.b1.cell 0 rfl) (ws0.b2.cell 0 rfl))
  have WS0 := Lib.hid ws0
  clear hW0 ws0
  refine (wpIn_wide (n := 5)).1 ?_
  refine wpIn_rangeFunc_ownG (F := Fence.wide) (n := 5) rfl (by omega) (gf := 78) (lb := #[.pointer (some ⟨g + 4, 0, none⟩), .pointer (some ⟨g + 5, 0, none⟩)]) rfl trivial
    (enters_of Tryz.func78 (by kernel_rfl) rfl) SEQ.out KpC.trans ?kb (Below.refl _ _) (fun _ => rfl)
    (WI w2 g gl o len cap L) (fun _ _ _ => False) ?own (fun _ _ _ _ _ h _ _ => h) ⟨_, _, WS0.out⟩
    (fun x => { tmps := #[.slice (some ⟨gl, o, none⟩) len cap, undef, .slice none 0 0, .int .i64 0, .func (.func 31) #[] #[], .pointer (some ⟨g + 1, 0, none⟩), .pointer (some ⟨g + 2, 0, none⟩), .pointer (some ⟨g + 3, 0, none⟩), chunkV gl o len x.1, undef, undef, undef, undef, undef, undef, .slice (some ⟨gl, o, none⟩) len cap, .int .i64 (len : Int), .bool false, .bool false, .slice (some ⟨gl, o, none⟩) len cap, .int .i64 (len : Int), .bool false, .bool false, .bool false, .slice (some ⟨gl, o, none⟩) len cap, .bool true, .bool false, .bool false, .bool false, .slice (some ⟨gl, o, none⟩) len cap, .func (.func 31) #[] #[], .bool false, .bool false, .agg #[.slice none 0 0, .bool false], .pointer (some ⟨g, 0, none⟩), .slice (some ⟨gl, o, none⟩) len cap, .func (.func 78) #[] #[.pointer (some ⟨g + 4, 0, none⟩), .pointer (some ⟨g + 5, 0, none⟩)], chunkV gl o len x.1, undef, undef, undef, undef, undef, undef, undef, undef, undef, undef, undef, undef, undef, undef, undef, undef, undef, undef, undef, undef, undef, undef, undef, undef, undef, undef, undef, undef, undef, undef, undef, undef, undef, undef, undef, undef, undef, undef, undef, undef, undef, undef, undef, undef, undef, undef, undef, undef, undef, undef, undef, undef, undef, undef, undef, undef, undef, undef, undef, undef, undef, undef, undef, undef, undef, undef, undef, undef, undef, undef, undef, undef, undef, undef, undef, undef], defers := [] }) ?assign ?body ?done ?stop
  case kb =>
    intro W l o1 o2 hl ho hc1 _
    exact ⟨World.cell?_of_block (World.putObj_heap_other (by rw [hz0] at hl; show g + 4 ≠ l; omega)), World.cell?_of_block (World.putObj_heap_other (by rw [hz0] at hl; show g + 5 ≠ l; omega))⟩
  case own =>
    rintro pre A B row ⟨ov, iv, h⟩ hgr hr
    exact ⟨ov, iv, h.grown hgw hgr (fun r e => ⟨by have := (hr r e).1; omega, (hr r e).2⟩)⟩
  case assign =>
    intro l x W K hK
    gi_wp2
    exact hK
  case body =>
    rintro l pre ⟨k, hk⟩ W ⟨ov, iv, hws⟩ hpl
    have hkL : 8 * k < L.length := by rw [HLEN.out]; exact hk
    have hck : 0 < (ckL L k).length := by rw [ckL_len]; omega
    have hck2 : (ckL L k).length ≤ 8 := by rw [ckL_len]; omega
    have SC := Lib.hid (fun W' (hb : Below g w2 W') => show SlX eC W'.heap.size W' (chunkV gl o len k) (ckL L k) from by
      have h1 := (HV.out.below (HB2.out.trans (hb.mono (by rw [← hg]; exact HB2.out.size)))).up (B' := W'.heap.size) (Nat.le_trans HB2.out.size hb.size)
      have h2 := h1.part (8 * k) (min 8 (len - 8 * k)) (by rw [HLEN.out]; omega) (by omega) (min 8 (len - 8 * k)) (Nat.le_refl _)
      unfold chunkV ckL
      rw [List.take_eq_take_min (i := 8), List.length_drop, HLEN.out]
      exact h2)
    have CC := Lib.hid (fun W' (hb : Below g w2 W') => Cells_any (chunkV gl o len k) (ckL L k) W' (SC.out W' hb) (fun c hc => HF.out.cin c (ckL_mem L k c hc)) (Nat.le_trans (ckL_flat L k) (by have := HF.out.flat; omega)) (by omega))
    have hcl : (cellsL (ckL L k)).length ≤ 262144 := by have := cellsL_len (ckL L k) (by omega); have := ckL_flat L k; have := HF.out.flat; omega
    have HCL := Lib.hid hcl
    have HWS := Lib.hid hws
    have hwc := hws.bp.cell 0 rfl
    clear hcl hws
    gi_wp2
    refine region_round_held (S := fun W' => W'.cell? ⟨g + 1, 0, none⟩ = some (.pointer (some ⟨g, 0, none⟩))) (by kernel_rfl) (by kernel_rfl) (fun ⟨_, _, h⟩ => h) l _ ?_
    have S0 : W.drew.cell? ⟨g + 1, 0, none⟩ = some (.pointer (some ⟨g, 0, none⟩)) := hwc
    refine wpAnyH_take (i := 0) (oi := _) (v := .pointer (some ⟨g, 0, none⟩)) rfl (by kernel_rfl) (by kernel_rfl) (by kernel_rfl) (fun _ _ _ h => h) (Or.inl ⟨by rfl, fun w hSw => ?_⟩) S0 ?_
    · go_simp
    (try simp only [Act.put, List.getElem_toArray, List.getElem_cons_zero, List.getElem_cons_succ, List.setIfInBounds_toArray, List.set_cons_zero, List.set_cons_succ])
    refine wpAnyH_take (i := 1) (oi := _) (v := chunkV gl o len k) rfl (by kernel_rfl) (by kernel_rfl) (by kernel_rfl) (fun _ _ _ h => h) (Or.inl ⟨by rfl, fun w hSw => ?_⟩) S0 ?_
    · go_simp
    (try simp only [Act.put, List.getElem_toArray, List.getElem_cons_zero, List.getElem_cons_succ, List.setIfInBounds_toArray, List.set_cons_zero, List.set_cons_succ])
    refine wpAnyH_ready (rs := [2]) (by kernel_rfl) (by simp) ?_
    refine AllReadyH.cons rfl (fun K hK => ?_) AllReadyH.nil
    go_simp; go_at_call 36
    refine (CC.out W.drew (Below.drew HWS.out.bel)).mono ?_
    rintro e w4 ⟨v4, rfl, hO4, hB4⟩
    have ws4 := (HWS.out.below hgw (Below.drew (Below.refl _ _))).below hgw hB4
    have S4 := ws4.bp.cell 0 rfl
    have hz4 : g + 5 < w4.heap.size := ws4.b2.lt
    have F4 := Lib.hid (frame_any g g ov v4 _ (cellsL (ckL L k)) w4 ws4.wr ws4.own (by omega) (fun W5 hb5 => OwnB.slB (own_eB.1 (OwnX.but (own_eB.2 hO4) hb5 (fun k hk e => by subst e; have := HWS.out.b2.lt; simp at hk; omega)))) HCL.out (by
      have h1 := flatMap_le (fun x : Ck len => blockL (ckL L x.1)) 120040 (fun x => by
        unfold blockL
        have hx : 0 < len - 8 * x.1 := by have := x.2; omega
        have h2 := cellsL_len (ckL L x.1) (by rw [ckL_len]; omega)
        have h3 := ckL_flat L x.1
        have h4 := HF.out.flat
        rw [frameL_length _ (by omega)]; omega) pre
      have h5 : pre.length ≤ 2500 := by omega
      have h6 := Nat.mul_le_mul_right 120040 h5
      omega))
    have WS4 := Lib.hid ws4
    have KF4 := Lib.hid (show KeepsFrom W0.heap.size W w4 from keepsFrom_below (below_tr (Below.drew (Below.refl _ _)) hB4))
    have hOW := ws4.own
    clear hO4 hB4 ws4
    refine hK.out _ _ S4 (fun _ => ?_); clear hK K
    (try simp only [Act.put, List.getElem_toArray, List.getElem_cons_zero, List.getElem_cons_succ, List.setIfInBounds_toArray, List.set_cons_zero, List.set_cons_succ])
    refine wpAnyH_ready (rs := [3]) (by kernel_rfl) (by simp) ?_
    refine AllReadyH.cons rfl (fun K hK => ?_) AllReadyH.nil
    go_simp; go_at_call 35
    refine F4.out.mono ?_
    rintro e w5 ⟨rfl, ov5, hf5⟩
    have ws5 := WS4.out.framed hgw hf5
    have KF5 := Lib.hid (show KeepsFrom W0.heap.size W w5 from KF4.out.trans (keepsFrom_but hf5.but (by
      rintro k o1 (h | h) ho
      · subst h; have := WS4.out.wr; unfold Blk at this; rw [this] at ho; cases ho; rfl
      · exact OwnX.cells_of (own_eB.2 hOW) h ho)))
    have S5 := ws5.bp.cell 0 rfl
    have WS5 := Lib.hid ws5
    clear ws5 hf5 F4 KF4 hOW
    refine hK.out _ _ S5 (fun _ => ?_); clear hK K
    (try simp only [Act.put, List.getElem_toArray, List.getElem_cons_zero, List.getElem_cons_succ, List.setIfInBounds_toArray, List.set_cons_zero, List.set_cons_succ])
    refine wpAnyH_ready (rs := [4]) (by kernel_rfl) (by simp) ?_
    refine AllReadyH.cons rfl (fun K hK => ?_) AllReadyH.nil
    go_simp
    refine hK.out _ _ S5 (fun _ => ?_); clear hK K
    (try simp only [Act.put, List.getElem_toArray, List.getElem_cons_zero, List.getElem_cons_succ, List.setIfInBounds_toArray, List.set_cons_zero, List.set_cons_succ])
    refine wpAnyH_done (by kernel_rfl) ?_ _
    clear S0 S4 S5 hwc
    gi_wp2
    have hx0 := List.getElem_mem hck
    have hkx := HF.out.keys _ (ckL_mem L k _ hx0)
    have TN := Lib.hid (fun W' (hb : Below g w2 W') => show Ten W' gl (o + 8 * k * 10) (ckL L k)[0] from by
      have h := SC.out W' hb
      unfold chunkV at h
      rw [show min 8 (len - 8 * k) = (ckL L k).length by rw [ckL_len, HLEN.out]] at h
      simpa using Ten.of h 0 hck)
    have EQ := Lib.hid (entry_head (ckL L k) hck)
    have KLen := kyL_len (ckL L k)[0].k
    have hfl : (frameL (cellsL (ckL L k))).length ≤ 300000 := by rw [frameL_length _ HCL.out]; have := HCL.out; omega
    have HIL := Lib.hid (show (pre.flatMap fun x => entryL (ckL L x.1)).length ≤ 1000000000 by
      have h1 := flatMap_le (fun x : Ck len => entryL (ckL L x.1)) 400000 (fun x => by
        have hx : 0 < len - 8 * x.1 := by have := x.2; omega
        have h2 := cellsL_len (ckL L x.1) (by rw [ckL_len]; omega)
        have h3 := ckL_flat L x.1
        have h4 := HF.out.flat
        have hn : 0 < (ckL L x.1).length := by rw [ckL_len]; omega
        exact entryL_len _ hn h4 h3) pre
      have h5 : pre.length ≤ 2500 := by omega
      have h6 := Nat.mul_le_mul_right 400000 h5
      omega)
    have HS8 := Lib.hid (show 0 < min 8 (len - 8 * k) by omega)
    generalize (ckL L k)[0] = x0 at *
    generalize hfle : (frameL (cellsL (ckL L k))).length = fl at *
    have hwf : IntKind.u64.wrap (fl : Int) = (fl : Int) := by rw [wu64]; omega
    have HFLE := Lib.hid hfle; have HFLB := Lib.hid hfl; have HKX := Lib.hid hkx; have HKL := Lib.hid KLen
    clear hfle hfl hkx KLen hx0
    obtain ⟨⟨t, pp, r, q⟩, ⟨x1, x2, x3, x4, x5, x6⟩⟩ := x0
    obtain ⟨m8, hm8⟩ : ∃ n, min 8 (len - 8 * k) = n := ⟨_, rfl⟩
    have hCV : chunkV gl o len k = .slice (some ⟨gl, o + 8 * k * 10, none⟩) m8 m8 := by unfold chunkV; rw [hm8]
    obtain ⟨qq, hqq⟩ : ∃ n, o + 8 * k * 10 = n := ⟨_, rfl⟩
    rw [hqq] at hCV TN
    have hm0 : 0 < m8 := by rw [← hm8]; exact HS8.out
    rw [hCV]
    clear hCV hqq hm8
    have BY := Lib.hid (fun W' (hb : Below g w2 W') => Bytes_any t pp q r W' (HE.out.below (HB2.out.trans (hb.mono (by rw [← hg]; exact HB2.out.size)))) (by have := HKX.out; simp only at this; omega))
    refine region_round_held (S := fun W' => W'.cell? ⟨gl, qq, none⟩ = some (.string t) ∧ W'.cell? ⟨gl, qq + 1, none⟩ = some (.string pp) ∧ W'.cell? ⟨gl, qq + 2, none⟩ = some (.int .i64 r) ∧ W'.cell? ⟨gl, qq + 3, none⟩ = some (.string q)) (by kernel_rfl) (by kernel_rfl) (fun ⟨_, _, h⟩ => h) l _ ?_
    have SS := Lib.hid (fun W' (hb : Below g w2 W') => (show W'.cell? ⟨gl, qq, none⟩ = some (.string t) ∧ W'.cell? ⟨gl, qq + 1, none⟩ = some (.string pp) ∧ W'.cell? ⟨gl, qq + 2, none⟩ = some (.int .i64 r) ∧ W'.cell? ⟨gl, qq + 3, none⟩ = some (.string q) from ⟨(TN.out W' hb).c0, (TN.out W' hb).c1, (TN.out W' hb).c2, (TN.out W' hb).c3⟩))
    have WS6 := Lib.hid (WS5.out.below hgw (Below.drew (Below.refl _ _)))
    have KF6 := Lib.hid (KF5.out.trans (show KeepsFrom W0.heap.size w5 w5.drew from keepsFrom_below (Below.drew (Below.refl _ _))))
    have S0 := SS.out _ WS6.out.bel
    generalize hX : w5.drew = X0 at *
    clear hX
    refine wpAnyH_take (i := 1) (oi := _) (v := .slice (some ⟨gl, qq, none⟩) m8 m8) rfl (by kernel_rfl) (by kernel_rfl) (by kernel_rfl) (fun _ _ _ h => h) (Or.inl ⟨by rfl, fun w hSw => ?_⟩) S0 ?_
    · go_simp
    (try simp only [Act.put, List.getElem_toArray, List.getElem_cons_zero, List.getElem_cons_succ, List.setIfInBounds_toArray, List.set_cons_zero, List.set_cons_succ])
    refine wpAnyH_take (i := 2) (oi := _) (v := .pointer (some ⟨gl, qq, none⟩)) rfl (by kernel_rfl) (by kernel_rfl) (by kernel_rfl) (fun _ _ _ h => h) (Or.inl ⟨by rfl, fun w hSw => ?_⟩) S0 ?_
    · go_simp
    (try simp only [Act.put, List.getElem_toArray, List.getElem_cons_zero, List.getElem_cons_succ, List.setIfInBounds_toArray, List.set_cons_zero, List.set_cons_succ])
    refine wpAnyH_take (i := 3) (oi := _) (v := .pointer (some ⟨gl, qq, none⟩)) rfl (by kernel_rfl) (by kernel_rfl) (by kernel_rfl) (fun _ _ _ h => h) (Or.inl ⟨by rfl, fun w hSw => ?_⟩) S0 ?_
    · go_simp
    (try simp only [Act.put, List.getElem_toArray, List.getElem_cons_zero, List.getElem_cons_succ, List.setIfInBounds_toArray, List.set_cons_zero, List.set_cons_succ])
    refine wpAnyH_take (i := 4) (oi := _) (v := .agg #[.string t, .string pp, .int .i64 r, .string q]) rfl (by kernel_rfl) (by kernel_rfl) (by kernel_rfl) (fun _ _ _ h => h) (Or.inl ⟨by rfl, fun w hSw => ?_⟩) S0 ?_
    · obtain ⟨s0, s1, s2, s3⟩ := hSw; go_simp
    (try simp only [Act.put, List.getElem_toArray, List.getElem_cons_zero, List.getElem_cons_succ, List.setIfInBounds_toArray, List.set_cons_zero, List.set_cons_succ])
    refine wpAnyH_take (i := 8) (oi := _) (v := .int .i64 (fl : Int)) rfl (by kernel_rfl) (by kernel_rfl) (by kernel_rfl) (fun _ _ _ h => h) (Or.inl ⟨by rfl, fun w hSw => ?_⟩) S0 ?_
    · go_simp
    (try simp only [Act.put, List.getElem_toArray, List.getElem_cons_zero, List.getElem_cons_succ, List.setIfInBounds_toArray, List.set_cons_zero, List.set_cons_succ])
    refine wpAnyH_take (i := 9) (oi := _) (v := .int .u64 (fl : Int)) rfl (by kernel_rfl) (by kernel_rfl) (by kernel_rfl) (fun _ _ _ h => h) (Or.inl ⟨by rfl, fun w hSw => ?_⟩) S0 ?_
    · go_simp
    (try simp only [Act.put, List.getElem_toArray, List.getElem_cons_zero, List.getElem_cons_succ, List.setIfInBounds_toArray, List.set_cons_zero, List.set_cons_succ])
    refine wpAnyH_ready (rs := [0, 5]) (by kernel_rfl) (by simp) ?_
    refine AllReadyH.cons rfl (fun K hK => ?_) (AllReadyH.cons rfl (fun K hK => ?_) AllReadyH.nil)
    · skip
      have hi1 := WS6.out.bi.cell 0 rfl
      go_simp
      refine hK.out _ _ S0 (fun _ => ?_); clear hK K
      (try simp only [Act.put, List.getElem_toArray, List.getElem_cons_zero, List.getElem_cons_succ, List.setIfInBounds_toArray, List.set_cons_zero, List.set_cons_succ])
      refine wpAnyH_ready (rs := [5]) (by kernel_rfl) (by simp) ?_
      refine AllReadyH.cons rfl (fun K hK => ?_) AllReadyH.nil
      go_simp; go_at_call 39
      refine (BY.out X0 WS6.out.bel).mono ?_
      rintro e Y2 ⟨v5, rfl, hO2, hB2⟩
      have WSn2 := Lib.hid (WS6.out.below hgw hB2)
      have KFn2 := Lib.hid (KF6.out.trans (show KeepsFrom W0.heap.size _ _ from keepsFrom_below hB2))
      have Sn2 := SS.out _ WSn2.out.bel
      have O5 := Lib.hid hO2; clear hO2 hB2
      refine hK.out _ _ Sn2 (fun _ => ?_); clear hK K
      (try simp only [Act.put, List.getElem_toArray, List.getElem_cons_zero, List.getElem_cons_succ, List.setIfInBounds_toArray, List.set_cons_zero, List.set_cons_succ])
      refine wpAnyH_ready (rs := [6]) (by kernel_rfl) (by simp) ?_
      refine AllReadyH.cons rfl (fun K hK => ?_) AllReadyH.nil
      have rd3 := O5.out.reads.out
      unfold sv at rd3
      go_simp
      clear rd3
      refine hK.out _ _ Sn2 (fun _ => ?_); clear hK K
      (try simp only [Act.put, List.getElem_toArray, List.getElem_cons_zero, List.getElem_cons_succ, List.setIfInBounds_toArray, List.set_cons_zero, List.set_cons_succ])
      refine wpAnyH_ready (rs := [7]) (by kernel_rfl) (by simp) ?_
      refine AllReadyH.cons rfl (fun K hK => ?_) AllReadyH.nil
      have PT4 := Lib.hid (PutText_any iv _ ⟨(keyBytes t pp r q).toArray⟩ _ Y2 (OwnB.slB WSn2.out.owi) (by rw [size_mk]; have := HKL.out; have := HKX.out; unfold kyL at *; simp only at *; omega) HIL.out)
      go_simp; go_at_call 38
      refine PT4.out.mono ?_
      rintro e Y4 ⟨v7, rfl, hO7, hB7⟩
      have WSn4 := Lib.hid (WSn2.out.below hgw hB7)
      have KFn4 := Lib.hid (KFn2.out.trans (show KeepsFrom W0.heap.size _ _ from keepsFrom_below hB7))
      have Sn4 := SS.out _ WSn4.out.bel
      have O7 := Lib.hid hO7; clear hO7 hB7 PT4
      refine hK.out _ _ Sn4 (fun _ => ?_); clear hK K
      (try simp only [Act.put, List.getElem_toArray, List.getElem_cons_zero, List.getElem_cons_succ, List.setIfInBounds_toArray, List.set_cons_zero, List.set_cons_succ])
      refine wpAnyH_ready (rs := [10]) (by kernel_rfl) (by simp) ?_
      refine AllReadyH.cons rfl (fun K hK => ?_) AllReadyH.nil
      have PU5 := Lib.hid (Put_any _ v7 _ fl Y4 O7.out (by have := HFLB.out; omega) (by have := HIL.out; have := textL_len (keyBytes t pp r q) (by have := HKL.out; have := HKX.out; unfold kyL at *; simp only at *; omega); have := HKL.out; have := HKX.out; unfold kyL at *; simp only [List.length_append, toList_mk] at *; omega))
      have hne7 : ∀ k, ov5.ownBlock = some k → k < Y4.heap.size := fun k hk => OwnX.lt (own_eB.2 WSn4.out.own) k hk
      go_simp; go_at_call 37
      refine PU5.out.mono ?_
      rintro e Y5 ⟨v8, rfl, hO8, hB8⟩
      have WSn5 := Lib.hid (WSn4.out.below hgw hB8)
      have KFn5 := Lib.hid (KFn4.out.trans (show KeepsFrom W0.heap.size _ _ from keepsFrom_below hB8))
      have Sn5 := SS.out _ WSn5.out.bel
      have N8 := Lib.hid (show ∀ k, ov5.ownBlock = some k → v8.ownBlock ≠ some k from fun k hk h8 => by have h1 := hne7 k hk; have h2 := OwnX.base (own_eB.2 hO8) k h8; omega)
      have hp8 := putL_pos fl
      obtain ⟨n8, hn8⟩ : ∃ n8, (((pre.flatMap fun x => entryL (ckL L x.1)) ++ textL (⟨(keyBytes t pp r q).toArray⟩ : ByteArray).toList) ++ putL fl).length = n8 := ⟨_, rfl⟩
      obtain ⟨g8, c8, rfl, hc8, hg8, hgl8, _⟩ := OwnX.formN (own_eB.2 hO8) n8 hn8 (by rw [← hn8, List.length_append]; omega)
      clear hn8
      have O8 := Lib.hid (OwnX.weaken (own_eB.2 hO8) (show g ≤ _ from Nat.le_trans hgw WSn4.out.bel.size)); clear hO8 hB8 PU5 hne7 hp8 hc8
      refine hK.out _ _ Sn5 (fun _ => ?_); clear hK K
      (try simp only [Act.put, List.getElem_toArray, List.getElem_cons_zero, List.getElem_cons_succ, List.setIfInBounds_toArray, List.set_cons_zero, List.set_cons_succ])
      refine wpAnyH_ready (rs := [11]) (by kernel_rfl) (by simp) ?_
      refine AllReadyH.cons rfl (fun K hK => ?_) AllReadyH.nil
      have hc11 := WSn5.out.bi.cell 0 rfl; have hf11 := WSn5.out.bi.frozen 0
      have WSn6 := Lib.hid (WSn5.out.index hgw _ (own_eB.1 O8.out) N8.out)
      have KFn6 := Lib.hid (fun v => KFn5.out.trans ((KeepsOthers.setCell Y5 ⟨g + 3, 0, none⟩ v).from W0.heap.size))
      have Sn6 := SS.out _ WSn6.out.bel
      go_simp
      refine hK.out _ _ Sn6 (fun _ => ?_); clear hK K
      (try simp only [Act.put, List.getElem_toArray, List.getElem_cons_zero, List.getElem_cons_succ, List.setIfInBounds_toArray, List.set_cons_zero, List.set_cons_succ])
      refine wpAnyH_done (by kernel_rfl) ?_ _
      have hn := WSn6.out.bn.cell 0 rfl; have hnf := WSn6.out.bn.frozen 0
      have hwn : IntKind.i64.wrap ((pre.length : Int) + 1) = ((pre.length + 1 : Nat) : Int) := by rw [IntKind.wrap_i64]; omega
      have FINAL := Lib.hid (WSn6.out.count hgw (pre.length + 1))
      have KFF := Lib.hid ((KFn6.out (.slice (some ⟨g8, 0, none⟩) n8 c8)).trans ((KeepsOthers.setCell _ ⟨g + 2, 0, none⟩ (.int .i64 ((pre.length + 1 : Nat) : Int))).from _))
      gi_wp2
      refine ⟨by rw [← hz0]; exact KFF.out, HWS.out.kp FINAL.out, ov5, .slice (some ⟨g8, 0, none⟩) n8 c8, ?_⟩
      have fin := FINAL.out
      rw [toList_mk, List.append_assoc] at fin
      simp only [List.flatMap_append, List.flatMap_cons, List.flatMap_nil, List.append_nil, List.length_append, List.length_singleton]
      rw [EQ.out]
      exact fin
    · skip
      go_simp; go_at_call 39
      refine (BY.out X0 WS6.out.bel).mono ?_
      rintro e Y7 ⟨v5, rfl, hO7, hB7⟩
      have WSn7 := Lib.hid (WS6.out.below hgw hB7)
      have KFn7 := Lib.hid (KF6.out.trans (show KeepsFrom W0.heap.size _ _ from keepsFrom_below hB7))
      have Sn7 := SS.out _ WSn7.out.bel
      have O5 := Lib.hid hO7; clear hO7 hB7
      refine hK.out _ _ Sn7 (fun _ => ?_); clear hK K
      (try simp only [Act.put, List.getElem_toArray, List.getElem_cons_zero, List.getElem_cons_succ, List.setIfInBounds_toArray, List.set_cons_zero, List.set_cons_succ])
      refine wpAnyH_ready (rs := [0, 6]) (by kernel_rfl) (by simp) ?_
      refine AllReadyH.cons rfl (fun K hK => ?_) (AllReadyH.cons rfl (fun K hK => ?_) AllReadyH.nil)
      · skip
        have hi8 := WSn7.out.bi.cell 0 rfl
        go_simp
        refine hK.out _ _ Sn7 (fun _ => ?_); clear hK K
        (try simp only [Act.put, List.getElem_toArray, List.getElem_cons_zero, List.getElem_cons_succ, List.setIfInBounds_toArray, List.set_cons_zero, List.set_cons_succ])
        refine wpAnyH_ready (rs := [6]) (by kernel_rfl) (by simp) ?_
        refine AllReadyH.cons rfl (fun K hK => ?_) AllReadyH.nil
        have rd9 := O5.out.reads.out
        unfold sv at rd9
        go_simp
        clear rd9
        refine hK.out _ _ Sn7 (fun _ => ?_); clear hK K
        (try simp only [Act.put, List.getElem_toArray, List.getElem_cons_zero, List.getElem_cons_succ, List.setIfInBounds_toArray, List.set_cons_zero, List.set_cons_succ])
        refine wpAnyH_ready (rs := [7]) (by kernel_rfl) (by simp) ?_
        refine AllReadyH.cons rfl (fun K hK => ?_) AllReadyH.nil
        have PT10 := Lib.hid (PutText_any iv _ ⟨(keyBytes t pp r q).toArray⟩ _ Y7 (OwnB.slB WSn7.out.owi) (by rw [size_mk]; have := HKL.out; have := HKX.out; unfold kyL at *; simp only at *; omega) HIL.out)
        go_simp; go_at_call 38
        refine PT10.out.mono ?_
        rintro e Y10 ⟨v7, rfl, hO7, hB7⟩
        have WSn10 := Lib.hid (WSn7.out.below hgw hB7)
        have KFn10 := Lib.hid (KFn7.out.trans (show KeepsFrom W0.heap.size _ _ from keepsFrom_below hB7))
        have Sn10 := SS.out _ WSn10.out.bel
        have O7 := Lib.hid hO7; clear hO7 hB7 PT10
        refine hK.out _ _ Sn10 (fun _ => ?_); clear hK K
        (try simp only [Act.put, List.getElem_toArray, List.getElem_cons_zero, List.getElem_cons_succ, List.setIfInBounds_toArray, List.set_cons_zero, List.set_cons_succ])
        refine wpAnyH_ready (rs := [10]) (by kernel_rfl) (by simp) ?_
        refine AllReadyH.cons rfl (fun K hK => ?_) AllReadyH.nil
        have PU11 := Lib.hid (Put_any _ v7 _ fl Y10 O7.out (by have := HFLB.out; omega) (by have := HIL.out; have := textL_len (keyBytes t pp r q) (by have := HKL.out; have := HKX.out; unfold kyL at *; simp only at *; omega); have := HKL.out; have := HKX.out; unfold kyL at *; simp only [List.length_append, toList_mk] at *; omega))
        have hne7 : ∀ k, ov5.ownBlock = some k → k < Y10.heap.size := fun k hk => OwnX.lt (own_eB.2 WSn10.out.own) k hk
        go_simp; go_at_call 37
        refine PU11.out.mono ?_
        rintro e Y11 ⟨v8, rfl, hO8, hB8⟩
        have WSn11 := Lib.hid (WSn10.out.below hgw hB8)
        have KFn11 := Lib.hid (KFn10.out.trans (show KeepsFrom W0.heap.size _ _ from keepsFrom_below hB8))
        have Sn11 := SS.out _ WSn11.out.bel
        have N8 := Lib.hid (show ∀ k, ov5.ownBlock = some k → v8.ownBlock ≠ some k from fun k hk h8 => by have h1 := hne7 k hk; have h2 := OwnX.base (own_eB.2 hO8) k h8; omega)
        have hp8 := putL_pos fl
        obtain ⟨n8, hn8⟩ : ∃ n8, (((pre.flatMap fun x => entryL (ckL L x.1)) ++ textL (⟨(keyBytes t pp r q).toArray⟩ : ByteArray).toList) ++ putL fl).length = n8 := ⟨_, rfl⟩
        obtain ⟨g8, c8, rfl, hc8, hg8, hgl8, _⟩ := OwnX.formN (own_eB.2 hO8) n8 hn8 (by rw [← hn8, List.length_append]; omega)
        clear hn8
        have O8 := Lib.hid (OwnX.weaken (own_eB.2 hO8) (show g ≤ _ from Nat.le_trans hgw WSn10.out.bel.size)); clear hO8 hB8 PU11 hne7 hp8 hc8
        refine hK.out _ _ Sn11 (fun _ => ?_); clear hK K
        (try simp only [Act.put, List.getElem_toArray, List.getElem_cons_zero, List.getElem_cons_succ, List.setIfInBounds_toArray, List.set_cons_zero, List.set_cons_succ])
        refine wpAnyH_ready (rs := [11]) (by kernel_rfl) (by simp) ?_
        refine AllReadyH.cons rfl (fun K hK => ?_) AllReadyH.nil
        have hc11 := WSn11.out.bi.cell 0 rfl; have hf11 := WSn11.out.bi.frozen 0
        have WSn12 := Lib.hid (WSn11.out.index hgw _ (own_eB.1 O8.out) N8.out)
        have KFn12 := Lib.hid (fun v => KFn11.out.trans ((KeepsOthers.setCell Y11 ⟨g + 3, 0, none⟩ v).from W0.heap.size))
        have Sn12 := SS.out _ WSn12.out.bel
        go_simp
        refine hK.out _ _ Sn12 (fun _ => ?_); clear hK K
        (try simp only [Act.put, List.getElem_toArray, List.getElem_cons_zero, List.getElem_cons_succ, List.setIfInBounds_toArray, List.set_cons_zero, List.set_cons_succ])
        refine wpAnyH_done (by kernel_rfl) ?_ _
        have hn := WSn12.out.bn.cell 0 rfl; have hnf := WSn12.out.bn.frozen 0
        have hwn : IntKind.i64.wrap ((pre.length : Int) + 1) = ((pre.length + 1 : Nat) : Int) := by rw [IntKind.wrap_i64]; omega
        have FINAL := Lib.hid (WSn12.out.count hgw (pre.length + 1))
        have KFF := Lib.hid ((KFn12.out (.slice (some ⟨g8, 0, none⟩) n8 c8)).trans ((KeepsOthers.setCell _ ⟨g + 2, 0, none⟩ (.int .i64 ((pre.length + 1 : Nat) : Int))).from _))
        gi_wp2
        refine ⟨by rw [← hz0]; exact KFF.out, HWS.out.kp FINAL.out, ov5, .slice (some ⟨g8, 0, none⟩) n8 c8, ?_⟩
        have fin := FINAL.out
        rw [toList_mk, List.append_assoc] at fin
        simp only [List.flatMap_append, List.flatMap_cons, List.flatMap_nil, List.append_nil, List.length_append, List.length_singleton]
        rw [EQ.out]
        exact fin
      · skip
        have rd13 := O5.out.reads.out
        unfold sv at rd13
        go_simp
        clear rd13
        refine hK.out _ _ Sn7 (fun _ => ?_); clear hK K
        (try simp only [Act.put, List.getElem_toArray, List.getElem_cons_zero, List.getElem_cons_succ, List.setIfInBounds_toArray, List.set_cons_zero, List.set_cons_succ])
        refine wpAnyH_ready (rs := [0]) (by kernel_rfl) (by simp) ?_
        refine AllReadyH.cons rfl (fun K hK => ?_) AllReadyH.nil
        have hi14 := WSn7.out.bi.cell 0 rfl
        go_simp
        refine hK.out _ _ Sn7 (fun _ => ?_); clear hK K
        (try simp only [Act.put, List.getElem_toArray, List.getElem_cons_zero, List.getElem_cons_succ, List.setIfInBounds_toArray, List.set_cons_zero, List.set_cons_succ])
        refine wpAnyH_ready (rs := [7]) (by kernel_rfl) (by simp) ?_
        refine AllReadyH.cons rfl (fun K hK => ?_) AllReadyH.nil
        have PT15 := Lib.hid (PutText_any iv _ ⟨(keyBytes t pp r q).toArray⟩ _ Y7 (OwnB.slB WSn7.out.owi) (by rw [size_mk]; have := HKL.out; have := HKX.out; unfold kyL at *; simp only at *; omega) HIL.out)
        go_simp; go_at_call 38
        refine PT15.out.mono ?_
        rintro e Y15 ⟨v7, rfl, hO7, hB7⟩
        have WSn15 := Lib.hid (WSn7.out.below hgw hB7)
        have KFn15 := Lib.hid (KFn7.out.trans (show KeepsFrom W0.heap.size _ _ from keepsFrom_below hB7))
        have Sn15 := SS.out _ WSn15.out.bel
        have O7 := Lib.hid hO7; clear hO7 hB7 PT15
        refine hK.out _ _ Sn15 (fun _ => ?_); clear hK K
        (try simp only [Act.put, List.getElem_toArray, List.getElem_cons_zero, List.getElem_cons_succ, List.setIfInBounds_toArray, List.set_cons_zero, List.set_cons_succ])
        refine wpAnyH_ready (rs := [10]) (by kernel_rfl) (by simp) ?_
        refine AllReadyH.cons rfl (fun K hK => ?_) AllReadyH.nil
        have PU16 := Lib.hid (Put_any _ v7 _ fl Y15 O7.out (by have := HFLB.out; omega) (by have := HIL.out; have := textL_len (keyBytes t pp r q) (by have := HKL.out; have := HKX.out; unfold kyL at *; simp only at *; omega); have := HKL.out; have := HKX.out; unfold kyL at *; simp only [List.length_append, toList_mk] at *; omega))
        have hne7 : ∀ k, ov5.ownBlock = some k → k < Y15.heap.size := fun k hk => OwnX.lt (own_eB.2 WSn15.out.own) k hk
        go_simp; go_at_call 37
        refine PU16.out.mono ?_
        rintro e Y16 ⟨v8, rfl, hO8, hB8⟩
        have WSn16 := Lib.hid (WSn15.out.below hgw hB8)
        have KFn16 := Lib.hid (KFn15.out.trans (show KeepsFrom W0.heap.size _ _ from keepsFrom_below hB8))
        have Sn16 := SS.out _ WSn16.out.bel
        have N8 := Lib.hid (show ∀ k, ov5.ownBlock = some k → v8.ownBlock ≠ some k from fun k hk h8 => by have h1 := hne7 k hk; have h2 := OwnX.base (own_eB.2 hO8) k h8; omega)
        have hp8 := putL_pos fl
        obtain ⟨n8, hn8⟩ : ∃ n8, (((pre.flatMap fun x => entryL (ckL L x.1)) ++ textL (⟨(keyBytes t pp r q).toArray⟩ : ByteArray).toList) ++ putL fl).length = n8 := ⟨_, rfl⟩
        obtain ⟨g8, c8, rfl, hc8, hg8, hgl8, _⟩ := OwnX.formN (own_eB.2 hO8) n8 hn8 (by rw [← hn8, List.length_append]; omega)
        clear hn8
        have O8 := Lib.hid (OwnX.weaken (own_eB.2 hO8) (show g ≤ _ from Nat.le_trans hgw WSn15.out.bel.size)); clear hO8 hB8 PU16 hne7 hp8 hc8
        refine hK.out _ _ Sn16 (fun _ => ?_); clear hK K
        (try simp only [Act.put, List.getElem_toArray, List.getElem_cons_zero, List.getElem_cons_succ, List.setIfInBounds_toArray, List.set_cons_zero, List.set_cons_succ])
        refine wpAnyH_ready (rs := [11]) (by kernel_rfl) (by simp) ?_
        refine AllReadyH.cons rfl (fun K hK => ?_) AllReadyH.nil
        have hc11 := WSn16.out.bi.cell 0 rfl; have hf11 := WSn16.out.bi.frozen 0
        have WSn17 := Lib.hid (WSn16.out.index hgw _ (own_eB.1 O8.out) N8.out)
        have KFn17 := Lib.hid (fun v => KFn16.out.trans ((KeepsOthers.setCell Y16 ⟨g + 3, 0, none⟩ v).from W0.heap.size))
        have Sn17 := SS.out _ WSn17.out.bel
        go_simp
        refine hK.out _ _ Sn17 (fun _ => ?_); clear hK K
        (try simp only [Act.put, List.getElem_toArray, List.getElem_cons_zero, List.getElem_cons_succ, List.setIfInBounds_toArray, List.set_cons_zero, List.set_cons_succ])
        refine wpAnyH_done (by kernel_rfl) ?_ _
        have hn := WSn17.out.bn.cell 0 rfl; have hnf := WSn17.out.bn.frozen 0
        have hwn : IntKind.i64.wrap ((pre.length : Int) + 1) = ((pre.length + 1 : Nat) : Int) := by rw [IntKind.wrap_i64]; omega
        have FINAL := Lib.hid (WSn17.out.count hgw (pre.length + 1))
        have KFF := Lib.hid ((KFn17.out (.slice (some ⟨g8, 0, none⟩) n8 c8)).trans ((KeepsOthers.setCell _ ⟨g + 2, 0, none⟩ (.int .i64 ((pre.length + 1 : Nat) : Int))).from _))
        gi_wp2
        refine ⟨by rw [← hz0]; exact KFF.out, HWS.out.kp FINAL.out, ov5, .slice (some ⟨g8, 0, none⟩) n8 c8, ?_⟩
        have fin := FINAL.out
        rw [toList_mk, List.append_assoc] at fin
        simp only [List.flatMap_append, List.flatMap_cons, List.flatMap_nil, List.append_nil, List.length_append, List.length_singleton]
        rw [EQ.out]
        exact fin
  case done =>
    rintro D xs W hD hxs ⟨ov, iv, ws⟩ hK
    subst hxs
    have e1 : (upC len ((len + 7) / 8)).flatMap (fun x => blockL (ckL L x.1)) = blocksL L := by rw [← HLEN.out]; exact up_flat L blockL
    have e2 : (upC len ((len + 7) / 8)).flatMap (fun x => entryL (ckL L x.1)) = (chunk8 L).flatMap entryL := by rw [← HLEN.out]; exact up_flat L entryL
    have e3 : (upC len ((len + 7) / 8)).length = (chunk8 L).length := by
      have h := congrArg List.length (upC_val len _ (Nat.le_refl _))
      rw [List.length_map, List.length_range] at h
      rw [h, chunk8_length L.length L (Nat.le_refl _), HLEN.out]
    rw [e1, e2, e3] at ws
    clear e1 e2 e3
    have hLp : 0 < L.length := by rw [HLEN.out]; omega
    have hbl := blocksL_pos L hLp HF.out.flat
    have hix := index_pos L hLp
    have hIL := HF.out.idx
    rw [indexL_eq, List.length_append] at hIL
    have hnc : (chunk8 L).length ≤ 2500 := by rw [chunk8_length L.length L (Nat.le_refl _), HLEN.out]; omega
    have hblm : (blocksL L).length ≤ 400000000 := by
      have h1 : (blocksL L).length ≤ (chunk8 L).length * 120040 := by
        rw [chunk8_get L.length L (Nat.le_refl _) _ rfl]
        unfold blocksL
        rw [chunk8_get L.length L (Nat.le_refl _) _ rfl, List.flatMap_map, List.length_map]
        refine flatMap_le (fun k => blockL (ckL L k)) 120040 (fun k => ?_) _
        have h2 := cellsL_len (ckL L k) (by rw [ckL_len]; omega)
        have h3 := ckL_flat L k
        have h4 := HF.out.flat
        unfold blockL; rw [frameL_length _ (by omega)]; omega
      have h6 := Nat.mul_le_mul_right 120040 hnc
      omega
    obtain ⟨nb, hnb⟩ : ∃ n, (blocksL L).length = n := ⟨_, rfl⟩
    obtain ⟨ni, hni⟩ : ∃ n, ((chunk8 L).flatMap entryL).length = n := ⟨_, rfl⟩
    obtain ⟨nc, hnn⟩ : ∃ n, (chunk8 L).length = n := ⟨_, rfl⟩
    obtain ⟨go, co, rfl, hco, _, _, _⟩ := OwnX.formN (own_eB.2 ws.own) nb hnb (by omega)
    obtain ⟨gi, ci, rfl, hci, _, _, _⟩ := OwnX.formN (own_eB.2 ws.owi) ni hni (by omega)
    rw [hnn] at ws
    have HNB := Lib.hid hnb; have HNI := Lib.hid hni; have HNC := Lib.hid hnn; have HIL := Lib.hid hIL
    have hnc2 : nc ≤ 2500 := by omega
    have hnb2 : nb ≤ 400000000 := by omega
    have hwn : IntKind.u64.wrap (nc : Int) = (nc : Int) := by rw [wu64]; omega
    obtain ⟨s, hs⟩ : ∃ s, W.heap.size = s := ⟨_, rfl⟩
    have hsg : g + 5 < s := by have := ws.b2.lt; omega
    have ts : TS w2 g gl o len cap s D (W.alloc (.cells #[.int .i64 (len : Int), .int .i64 (nb : Int), .int .i64 0, .int .i64 0] 3)) _ _ _ _ nc (len : Int) (nb : Int) 0 0 :=
      ⟨ws.below hgw (below_alloc (Below.refl _ _) _), Blk.at _ _ hs.symm, (Below.heap_alloc W _ D (Array.getElem?_eq_some_iff.1 hK).1).trans hK, hsg⟩
    have TS1 := Lib.hid ts
    have t0 := ws.wr.cell 0 rfl; have t1 := ws.bp.cell 0 rfl
    have tg : g < W.heap.size := ws.wr.lt
    clear ws ts hK hnb hni hnn hIL hbl hix
    go_wp2_with fail
    generalize hX : W.alloc (.cells #[.int .i64 (len : Int), .int .i64 (nb : Int), .int .i64 0, .int .i64 0] 3) = X at *
    clear hX t0 t1 tg
    have TS2 := Lib.hid (TS1.out.below hgw (show Below X.heap.size X X.drew from Below.drew (Below.refl _ _)))
    have S2 := TS2.out.three
    clear TS1
    refine wp_region_noPanic ?_
    refine wp_region_held_drew (S := fun W' => W'.cell? ⟨g + 1, 0, none⟩ = some (.pointer (some ⟨g, 0, none⟩)) ∧ W'.cell? ⟨g + 2, 0, none⟩ = some (.int .i64 (nc : Int)) ∧ W'.cell? ⟨g + 3, 0, none⟩ = some (.slice (some ⟨gi, 0, none⟩) ni ci)) (by kernel_rfl) S2 (fun _ => ?_)
    generalize hX : X.drew = X2 at *
    clear hX
    refine wpAnyH_take (i := 0) (oi := _) (v := .slice (some ⟨s, 0, none⟩) 4 4) rfl (by kernel_rfl) (by kernel_rfl) (by kernel_rfl) (fun _ _ _ h => h) (Or.inl ⟨by rfl, fun w hSw => ?_⟩) S2 ?_
    · obtain ⟨s0, s1, s2⟩ := hSw; go_simp
    (try simp only [Act.put, List.getElem_toArray, List.getElem_cons_zero, List.getElem_cons_succ, List.setIfInBounds_toArray, List.set_cons_zero, List.set_cons_succ])
    refine wpAnyH_take (i := 1) (oi := _) (v := .pointer (some ⟨g, 0, none⟩)) rfl (by kernel_rfl) (by kernel_rfl) (by kernel_rfl) (fun _ _ _ h => h) (Or.inl ⟨by rfl, fun w hSw => ?_⟩) S2 ?_
    · obtain ⟨s0, s1, s2⟩ := hSw; go_simp
    (try simp only [Act.put, List.getElem_toArray, List.getElem_cons_zero, List.getElem_cons_succ, List.setIfInBounds_toArray, List.set_cons_zero, List.set_cons_succ])
    refine wpAnyH_take (i := 2) (oi := _) (v := .int .i64 (nc : Int)) rfl (by kernel_rfl) (by kernel_rfl) (by kernel_rfl) (fun _ _ _ h => h) (Or.inl ⟨by rfl, fun w hSw => ?_⟩) S2 ?_
    · obtain ⟨s0, s1, s2⟩ := hSw; go_simp
    (try simp only [Act.put, List.getElem_toArray, List.getElem_cons_zero, List.getElem_cons_succ, List.setIfInBounds_toArray, List.set_cons_zero, List.set_cons_succ])
    refine wpAnyH_take (i := 3) (oi := _) (v := .int .u64 (nc : Int)) rfl (by kernel_rfl) (by kernel_rfl) (by kernel_rfl) (fun _ _ _ h => h) (Or.inl ⟨by rfl, fun w hSw => ?_⟩) S2 ?_
    · obtain ⟨s0, s1, s2⟩ := hSw; go_simp
    (try simp only [Act.put, List.getElem_toArray, List.getElem_cons_zero, List.getElem_cons_succ, List.setIfInBounds_toArray, List.set_cons_zero, List.set_cons_succ])
    refine wpAnyH_take (i := 5) (oi := _) (v := .slice (some ⟨gi, 0, none⟩) ni ci) rfl (by kernel_rfl) (by kernel_rfl) (by kernel_rfl) (fun _ _ _ h => h) (Or.inl ⟨by rfl, fun w hSw => ?_⟩) S2 ?_
    · obtain ⟨s0, s1, s2⟩ := hSw; go_simp
    (try simp only [Act.put, List.getElem_toArray, List.getElem_cons_zero, List.getElem_cons_succ, List.setIfInBounds_toArray, List.set_cons_zero, List.set_cons_succ])
    refine wpAnyH_ready (rs := [4]) (by kernel_rfl) (by simp) ?_
    refine AllReadyH.cons rfl (fun K hK => ?_) AllReadyH.nil
    have PU := Lib.hid (Put_any X2.heap.size (.slice none 0 0) [] nc X2 (OwnB.nil _ _) (by omega) (by simp))
    go_simp; go_at_call 37
    refine PU.out.mono ?_
    rintro e w4 ⟨v4, rfl, hO4, hB4⟩
    have TS4 := Lib.hid (TS2.out.below hgw hB4)
    have S4 := TS4.out.three
    have HO4 := Lib.hid (own_eB.2 hO4); have HB4 := Lib.hid hB4
    clear hO4 hB4 PU
    refine hK.out _ _ S4 (fun _ => ?_); clear hK K
    (try simp only [Act.put, List.getElem_toArray, List.getElem_cons_zero, List.getElem_cons_succ, List.setIfInBounds_toArray, List.set_cons_zero, List.set_cons_succ])
    refine wpAnyH_ready (rs := [6]) (by kernel_rfl) (by simp) ?_
    refine AllReadyH.cons rfl (fun K hK => ?_) AllReadyH.nil
    have hr1 : ([] ++ putL nc).length + ((chunk8 L).flatMap entryL).length ≤ 9223372036854775807 := by have h1 := HIL.out; rw [HNC.out] at h1; simp only [List.length_append, List.length_nil]; omega
    have hr2 : (([] ++ putL nc).length + ((chunk8 L).flatMap entryL).length) * eB.bytes ≤ 140737488355328 := by have h1 := HIL.out; rw [HNC.out] at h1; show _ * 1 ≤ _; simp only [List.length_append, List.length_nil]; omega
    refine st_x (E := eB) (by rfl) (.tmp 67) (.tmp 68) (by rfl) X2.heap.size v4 _ w4.heap.size _ ((chunk8 L).flatMap entryL) (by rfl) (by rfl) (OwnX.sl (own_eB.2 TS4.out.ws.owi)) HO4.out HB4.out.size hr1 hr2 ?_
    intro v5 w5 hO5 hG5 hH5
    have hB5 : Below X2.heap.size X2 w5 := HB4.out.grown hG5 HB4.out.size (OwnX.base HO4.out)
    have TS5 := Lib.hid (TS2.out.below hgw hB5)
    have S5 := TS5.out.three
    have hO5i : OwnX eB w5 X2.heap.size v5 (indexL L) := by rw [indexL_eq, HNC.out]; exact hO5
    have FR := Lib.hid (frame_any g g _ v5 _ (indexL L) w5 TS5.out.ws.wr TS5.out.ws.own (by have := TS5.out.ws.b2.lt; omega) (fun W5 hb5 => OwnB.slB (own_eB.1 (OwnX.but hO5i hb5 (fun k hk e => by subst e; have := TS2.out.ws.b2.lt; omega)))) HF.out.idx (by rw [HNB.out]; omega))
    have TS6 := Lib.hid (fun w6 ov6 (hf : Framed g g (.slice (some ⟨go, 0, none⟩) nb co) w5 (blocksL L ++ frameL (indexL L)) ov6 w6) => TS5.out.framed hgw hf)
    clear hO5 hG5 hH5 hB5 hO5i HO4 HB4 TS4 TS5 S4
    refine hK.out _ _ S5 (fun _ => ?_); clear hK K
    (try simp only [Act.put, List.getElem_toArray, List.getElem_cons_zero, List.getElem_cons_succ, List.setIfInBounds_toArray, List.set_cons_zero, List.set_cons_succ])
    refine wpAnyH_ready (rs := [7]) (by kernel_rfl) (by simp) ?_
    refine AllReadyH.cons rfl (fun K hK => ?_) AllReadyH.nil
    go_simp; go_at_call 35
    refine FR.out.mono ?_
    rintro e w6 ⟨rfl, ov6, hf6⟩
    have TS7 := Lib.hid (TS6.out w6 ov6 hf6)
    have S7 := TS7.out.three
    clear hf6 TS6 FR
    obtain ⟨nx, hnx⟩ : ∃ n, (frameL (indexL L)).length = n := ⟨_, rfl⟩
    rw [hnx]
    have HNX := Lib.hid hnx; clear hnx
    refine hK.out _ _ S7 (fun _ => ?_); clear hK K
    (try simp only [Act.put, List.getElem_toArray, List.getElem_cons_zero, List.getElem_cons_succ, List.setIfInBounds_toArray, List.set_cons_zero, List.set_cons_succ])
    refine wpAnyH_take (i := 8) (oi := _) (v := .pointer (some ⟨s, 2, none⟩)) rfl (by kernel_rfl) (by kernel_rfl) (by kernel_rfl) (fun _ _ _ h => h) (Or.inl ⟨by rfl, fun w hSw => ?_⟩) S7 ?_
    · obtain ⟨s0, s1, s2⟩ := hSw; go_simp
    (try simp only [Act.put, List.getElem_toArray, List.getElem_cons_zero, List.getElem_cons_succ, List.setIfInBounds_toArray, List.set_cons_zero, List.set_cons_succ])
    refine wpAnyH_ready (rs := [9]) (by kernel_rfl) (by simp) ?_
    refine AllReadyH.cons rfl (fun K hK => ?_) AllReadyH.nil
    have hsc := TS7.out.sz.cell 2 rfl; have hsf := TS7.out.sz.frozen 2
    have TS8 := Lib.hid (TS7.out.at2 (nx : Int))
    have S8 := TS8.out.three
    go_simp
    refine hK.out _ _ S8 (fun _ => ?_); clear hK K
    (try simp only [Act.put, List.getElem_toArray, List.getElem_cons_zero, List.getElem_cons_succ, List.setIfInBounds_toArray, List.set_cons_zero, List.set_cons_succ])
    refine wpAnyH_done (by kernel_rfl) ?_ _
    refine NoPanic.normal ?_
    generalize hX : w6.setCell ⟨s, 2, none⟩ (.int .i64 (nx : Int)) = X8 at *
    clear hX hsc hsf TS7 S7 S5 S2 TS2
    go_wp2_with fail
    have TS9 := Lib.hid (TS8.out.below hgw (show Below X8.heap.size X8 X8.drew from Below.drew (Below.refl _ _)))
    have S9 := TS9.out.three
    clear TS8 S8
    refine wp_region_noPanic ?_
    refine wp_region_held_drew (S := fun W' => W'.cell? ⟨g + 1, 0, none⟩ = some (.pointer (some ⟨g, 0, none⟩)) ∧ W'.cell? ⟨g + 2, 0, none⟩ = some (.int .i64 (nc : Int)) ∧ W'.cell? ⟨g + 3, 0, none⟩ = some (.slice (some ⟨gi, 0, none⟩) ni ci)) (by kernel_rfl) S9 (fun _ => ?_)
    generalize hX : X8.drew = X9 at *
    clear hX
    refine wpAnyH_take (i := 0) (oi := _) (v := .slice (some ⟨s, 0, none⟩) 4 4) rfl (by kernel_rfl) (by kernel_rfl) (by kernel_rfl) (fun _ _ _ h => h) (Or.inl ⟨by rfl, fun w hSw => ?_⟩) S9 ?_
    · obtain ⟨s0, s1, s2⟩ := hSw; go_simp
    (try simp only [Act.put, List.getElem_toArray, List.getElem_cons_zero, List.getElem_cons_succ, List.setIfInBounds_toArray, List.set_cons_zero, List.set_cons_succ])
    refine wpAnyH_take (i := 1) (oi := _) (v := .pointer (some ⟨g, 0, none⟩)) rfl (by kernel_rfl) (by kernel_rfl) (by kernel_rfl) (fun _ _ _ h => h) (Or.inl ⟨by rfl, fun w hSw => ?_⟩) S9 ?_
    · obtain ⟨s0, s1, s2⟩ := hSw; go_simp
    (try simp only [Act.put, List.getElem_toArray, List.getElem_cons_zero, List.getElem_cons_succ, List.setIfInBounds_toArray, List.set_cons_zero, List.set_cons_succ])
    refine wpAnyH_take (i := 2) (oi := _) (v := .slice (some ⟨gl, o, none⟩) len cap) rfl (by kernel_rfl) (by kernel_rfl) (by kernel_rfl) (fun _ _ _ h => h) (Or.inl ⟨by rfl, fun w hSw => ?_⟩) S9 ?_
    · obtain ⟨s0, s1, s2⟩ := hSw; go_simp
    (try simp only [Act.put, List.getElem_toArray, List.getElem_cons_zero, List.getElem_cons_succ, List.setIfInBounds_toArray, List.set_cons_zero, List.set_cons_succ])
    refine wpAnyH_ready (rs := [3]) (by kernel_rfl) (by simp) ?_
    refine AllReadyH.cons rfl (fun K hK => ?_) AllReadyH.nil
    have HV9 := Lib.hid ((HV.out.below (HB2.out.trans (TS9.out.ws.bel.mono (by rw [← hg]; exact HB2.out.size)))).up (B' := X9.heap.size) (Nat.le_trans HB2.out.size TS9.out.ws.bel.size))
    have FI := Lib.hid (filter_any _ L X9 (HE.out.below (HB2.out.trans (TS9.out.ws.bel.mono (by rw [← hg]; exact HB2.out.size)))) HV9.out HF.out.keys HOK.out.most)
    go_simp; go_at_call 40
    refine FI.out.mono ?_
    rintro e wa ⟨gf, rfl, hfl, hBa⟩
    have TSa := Lib.hid (TS9.out.below hgw hBa)
    have Sa := TSa.out.three
    have FB := Lib.hid (fBytes_any gf 7 (bitsL L) wa hfl.r)
    have HBa := Lib.hid hBa
    clear hfl hBa HV9 FI
    refine hK.out _ _ Sa (fun _ => ?_); clear hK K
    (try simp only [Act.put, List.getElem_toArray, List.getElem_cons_zero, List.getElem_cons_succ, List.setIfInBounds_toArray, List.set_cons_zero, List.set_cons_succ])
    refine wpAnyH_ready (rs := [4]) (by kernel_rfl) (by simp) ?_
    refine AllReadyH.cons rfl (fun K hK => ?_) AllReadyH.nil
    go_simp; go_at_call 41
    refine FB.out.mono ?_
    rintro e wb ⟨vb, rfl, hOb, hBb⟩
    have TSb := Lib.hid (TSa.out.below hgw hBb)
    have Sb := TSb.out.three
    have hfl2 := filtL_len L HOK.out.most
    have hObi : OwnX eB wb wa.heap.size vb (filtL L) := own_eB.2 hOb
    have FR := Lib.hid (frame_any g g _ vb _ (filtL L) wb TSb.out.ws.wr TSb.out.ws.own (by have := TSb.out.ws.b2.lt; omega) (fun W5 hb5 => OwnB.slB (own_eB.1 (OwnX.but hObi hb5 (fun k hk e => by subst e; have := TSa.out.ws.b2.lt; omega)))) hfl2 (by have h1 := HF.out.idx; rw [List.length_append, HNB.out, frameL_length _ h1]; omega))
    have TSc := Lib.hid (fun wc ovc (hf : Framed g g ov6 wb ((blocksL L ++ frameL (indexL L)) ++ frameL (filtL L)) ovc wc) => TSb.out.framed hgw hf)
    clear hOb hBb hObi hfl2 FB
    refine hK.out _ _ Sb (fun _ => ?_); clear hK K
    (try simp only [Act.put, List.getElem_toArray, List.getElem_cons_zero, List.getElem_cons_succ, List.setIfInBounds_toArray, List.set_cons_zero, List.set_cons_succ])
    refine wpAnyH_ready (rs := [5]) (by kernel_rfl) (by simp) ?_
    refine AllReadyH.cons rfl (fun K hK => ?_) AllReadyH.nil
    go_simp; go_at_call 35
    refine FR.out.mono ?_
    rintro e wc ⟨rfl, ovc, hfc⟩
    have TSd := Lib.hid (TSc.out wc ovc hfc)
    have Sd := TSd.out.three
    clear hfc TSc FR
    obtain ⟨ny, hny⟩ : ∃ n, (frameL (filtL L)).length = n := ⟨_, rfl⟩
    rw [hny]
    have HNY := Lib.hid hny; clear hny
    refine hK.out _ _ Sd (fun _ => ?_); clear hK K
    (try simp only [Act.put, List.getElem_toArray, List.getElem_cons_zero, List.getElem_cons_succ, List.setIfInBounds_toArray, List.set_cons_zero, List.set_cons_succ])
    refine wpAnyH_take (i := 6) (oi := _) (v := .pointer (some ⟨s, 3, none⟩)) rfl (by kernel_rfl) (by kernel_rfl) (by kernel_rfl) (fun _ _ _ h => h) (Or.inl ⟨by rfl, fun w hSw => ?_⟩) Sd ?_
    · obtain ⟨s0, s1, s2⟩ := hSw; go_simp
    (try simp only [Act.put, List.getElem_toArray, List.getElem_cons_zero, List.getElem_cons_succ, List.setIfInBounds_toArray, List.set_cons_zero, List.set_cons_succ])
    refine wpAnyH_ready (rs := [7]) (by kernel_rfl) (by simp) ?_
    refine AllReadyH.cons rfl (fun K hK => ?_) AllReadyH.nil
    have hsc := TSd.out.sz.cell 3 rfl; have hsf := TSd.out.sz.frozen 3
    have TSe := Lib.hid (TSd.out.at3 (ny : Int))
    have Se := TSe.out.three
    go_simp
    refine hK.out _ _ Se (fun _ => ?_); clear hK K
    (try simp only [Act.put, List.getElem_toArray, List.getElem_cons_zero, List.getElem_cons_succ, List.setIfInBounds_toArray, List.set_cons_zero, List.set_cons_succ])
    refine wpAnyH_done (by kernel_rfl) ?_ _
    refine NoPanic.normal ?_
    generalize hX : wc.setCell ⟨s, 3, none⟩ (.int .i64 (ny : Int)) = Xe at *
    clear hX hsc hsf TSd Sd Sa Sb S9 TS9 TSa TSb
    have hw1 := TSe.out.ws.wr.cell 1 rfl; have hw0 := TSe.out.ws.wr.cell 0 rfl; have hp0 := TSe.out.ws.bp.cell 0 rfl
    have HOT := Lib.hid (show (blocksL L ++ frameL (indexL L)) ++ frameL (filtL L) = outL L from rfl)
    have HOL := Lib.hid (outL_len L HOK.out.most HF.out.flat HF.out.idx)
    have HEL := Lib.hid (endL_len L HOK.out.most HF.out.flat HF.out.idx)
    have hsum : len + nb + nx + ny ≤ 800000 := by
      have h1 := HOL.out
      unfold outL at h1
      rw [List.length_append, List.length_append, HNB.out, HNX.out, HNY.out] at h1
      omega
    go_wp2_with fail
    clear hw1 hw0 hp0
    go_loopw [11, 13, 85] (fun v11 _ v85 wr => ∃ i : Nat, v85 = .int .i64 (i : Int) ∧ i ≤ 4 ∧ OwnB wr g v11 (([len, nb, nx, ny].take i).flatMap putL) ∧ TS w2 g gl o len cap s D wr ovc (.slice (some ⟨gi, 0, none⟩) ni ci) ((blocksL L ++ frameL (indexL L)) ++ frameL (filtL L)) ((chunk8 L).flatMap entryL) nc (len : Int) (nb : Int) (nx : Int) (ny : Int)) (fun _ _ v85 _ => 4 - (intOf v85).toNat)
    case atStart => exact ⟨0, rfl, by omega, OwnB.nil _ _, TSe.out⟩
    case round =>
      obtain ⟨i, rfl, hi, HO, hts⟩ := hrel
      have HTS := Lib.hid hts
      have HOE := Lib.hid HO
      clear hts HO
      by_cases hlt : i < 4
      · have hz : (i : Int) < 4 := by omega
        obtain ⟨u, hcu, hflu, hmu⟩ := HTS.out.num i hlt
        have hu : u ≤ 800000 := by simp only [List.mem_cons, List.not_mem_nil, or_false] at hmu; omega
        have hle : (([len, nb, nx, ny].take i).flatMap putL).length ≤ 1000 := by
          have h1 := HEL.out
          unfold endL numsL at h1
          rw [HLEN.out, HNB.out, HNX.out, HNY.out] at h1
          simp only [List.flatMap_cons, List.flatMap_nil, List.length_append, List.length_nil] at h1
          rcases i with _ | _ | _ | _ | i <;> simp <;> omega
        have PU := Lib.hid (Put_any g _ _ u wr HOE.out (by omega) (by omega))
        have hwu : IntKind.u64.wrap (u : Int) = (u : Int) := by rw [wu64]; omega
        have HFU := Lib.hid hflu
        clear hmu hle hflu
        go_wp2_with fail
        refine PU.out.mono ?_
        rintro e wn ⟨vn, rfl, hOn, hBn⟩
        have TSn := Lib.hid (HTS.out.below hgw hBn)
        have HOn := Lib.hid (OwnB.weaken hOn (Nat.le_trans hgw HTS.out.ws.bel.size))
        clear hOn hBn PU hcu
        go_wp2_with fail
        exact ⟨⟨i + 1, by first | rfl | go_num, by omega, by rw [HFU.out]; exact HOn.out, TSn.out⟩, by simp [intOf]; omega⟩
      · obtain rfl : i = 4 := by omega
        have hz : ¬ ((4 : Nat) : Int) < 4 := by omega
        have hp0 := HTS.out.ws.bp.cell 0 rfl; have hw0 := HTS.out.ws.wr.cell 0 rfl
        have SU1 := cSum_any ovc _ wr.heap.size wr (OwnB.slB HTS.out.ws.own) (by have := HOL.out; rw [HOT.out]; omega)
        rw [HOT.out, (sumN_val (outL L)).1] at SU1
        have hsmr := (sumN_val (outL L)).2
        have HE4 := Lib.hid (show endL L = ([len, nb, nx, ny].take 4).flatMap putL ++ putL (sumN (outL L)) by
          unfold endL numsL; rw [HLEN.out, HNB.out, HNX.out, HNY.out]; simp)
        generalize sumN (outL L) = sm at *
        have SU := Lib.hid SU1
        have hwsm : IntKind.u64.wrap (sm : Int) = (sm : Int) := by rw [wu64]; omega
        have PU := Lib.hid (Put_any g _ _ sm wr HOE.out (by omega) (by have := HEL.out; rw [HE4.out, List.length_append] at this; omega))
        clear SU1 hsmr
        go_wp2_with fail
        refine SU.out.mono ?_
        rintro e wsu ⟨rfl, rfl⟩
        go_wp2_with fail
        refine PU.out.mono ?_
        rintro e wn ⟨vn, rfl, hOn, hBn⟩
        rw [← HE4.out] at hOn
        have TSn := Lib.hid (HTS.out.below hgw hBn)
        have FE := Lib.hid (Frame_any vn (endL L) wn (OwnB.slB hOn) (by have := HEL.out; omega))
        clear hOn hBn PU SU hp0 hw0
        go_wp2_with fail
        refine FE.out.mono ?_
        rintro e wf ⟨vf, rfl, hOf, hBf⟩
        obtain ⟨nf, hnf⟩ : ∃ n, (frameL (endL L)).length = n := ⟨_, rfl⟩
        have hnf2 : nf = (endL L).length + 8 := by rw [← hnf, frameL_length _ (by have := HEL.out; omega)]
        have hel := HEL.out
        obtain ⟨gf2, cf2, rfl, hcf, _, _, _⟩ := OwnX.formN (own_eB.2 hOf) nf hnf (by omega)
        have TSf := Lib.hid (TSn.out.below hgw hBf)
        have HSF := Lib.hid (OwnX.sl (own_eB.2 hOf))
        have HOO := Lib.hid (own_eB.2 TSf.out.ws.own)
        have hgf : g ≤ wf.heap.size := by have := TSf.out.ws.b2.lt; omega
        have hp0 := TSf.out.ws.bp.cell 0 rfl; have hw0 := TSf.out.ws.wr.cell 0 rfl
        have hnf3 : nf ≤ 58 := by omega
        have hw8 : IntKind.u8.wrap (nf : Int) = (nf : Int) := by rw [IntKind.wrap_u8]; omega
        have hr1 : ((blocksL L ++ frameL (indexL L)) ++ frameL (filtL L)).length + (frameL (endL L)).length ≤ 9223372036854775807 := by have h1 := HOL.out; rw [HOT.out, hnf]; omega
        have hr2 : (((blocksL L ++ frameL (indexL L)) ++ frameL (filtL L)).length + (frameL (endL L)).length) * eB.bytes ≤ 140737488355328 := by have h1 := HOL.out; rw [HOT.out, hnf]; show _ * 1 ≤ _; omega
        have hbc := bcells_nat nf (by omega)
        have HNF := Lib.hid hnf; have HBC := Lib.hid hbc
        have hr3 : (((blocksL L ++ frameL (indexL L)) ++ frameL (filtL L)) ++ frameL (endL L)).length + [UInt8.ofNat nf].length ≤ 140737488355328 := by have h1 := HOL.out; rw [List.length_append, HOT.out, hnf]; simp; omega
        clear hnf hnf2 hel hOf hBf FE hbc hcf
        go_wp2_with (first | (at_builtin; (refine ap_g (E := eB) (by rfl) (.tmp 106) (.tmp 107) (by rfl) g _ _ _ _ (frameL (endL L)) (by rfl) (by rfl) HSF.out HOO.out hgf hr1 hr2 ?_); intro v1 w1 hO1 hG1; have HO1 := Lib.hid hO1; have HG1 := Lib.hid hG1; have hg1 : g ≤ w1.heap.size := Nat.le_trans hgf hG1.1.size; clear hO1 hG1) | (at_builtin; go_must (refine ap_gl (by rfl) (.tmp 108) (.tmp 112) (by rfl) g _ _ [UInt8.ofNat nf] _ 1 1 (by rfl) (by rfl) (by rfl) (by simp) HBC.out (own_eB.1 HO1.out) hg1 hr3 ?_); intro v2 w2' hO2 hG2; have HO2 := Lib.hid hO2; have HG2 := Lib.hid hG2; clear hO2 hG2))
        have dk2 := dk_grow (dk_grow TSf.out.dk HOO.out HG1.out) HO1.out HG2.out
        have hbel : Below g wf w2' := (HG1.out.below hgf (OwnX.base HOO.out)).trans (HG2.out.below hg1 (OwnX.base HO1.out))
        have hwg : w.heap.size ≤ g := by rw [← hg]; exact HB2.out.size
        refine ⟨by simp, .inl ⟨_, _, rfl, run_takeDeferred dk2, ?_⟩⟩
        have hb9 : Below w.heap.size w w2' := (HB2.out.trans (TSf.out.ws.bel.mono hwg)).trans (hbel.mono hwg)
        refine ⟨.tuple #[v2, .int .i64 0], by simp [results, Tryz.results12, go_sem], v2, rfl, ?_, ?_⟩
        · have h1 : OwnB (w2'.putObj D (.deferred none)) g v2 _ := ownsRow_putObj HO2.out _ dk2 rfl
          have h2 := h1.weaken hwg
          rw [HOT.out, ← HNF.out] at h2
          exact h2
        · exact hb9.grown (grownBy_putObj' w2' D (.deferred none)) hb9.size (fun k e => by cases e; omega)
  case stop =>
    rintro D c pre W _ _ h _
    exact h.elim
end Go.Proofs.YtplghaoflmaadaaGreatDoor
end
