/- Contracts of cell's Join, of the reference's ints, Cmp and Join of versions; both join alike. No condition. -/
import Derived.Test.YtmjeifbadjdnfaaDoorWa
set_option linter.unusedVariables false
set_option linter.unusedSimpArgs false
set_option maxRecDepth 50000
namespace Go.Proofs.YtmjeifbadjdnfaaDoor
open Go.RowKit Go.Sort
open Go.Lib hiding intOf

theorem ints_any (a b : Int) (w : World) : Calls Tryd.prog 137 #[.int .i64 a, .int .i64 b] w fun e w' => e = .returned (.int .i64 (cmpI a b)) ∧ w = w' := by
  obtain ⟨R, hR⟩ : ∃ R, cmpI a b = R := ⟨_, rfl⟩
  rw [hR]
  have H := Lib.hid hR
  clear hR
  go_enter Tryd.func137, Tryd.ntmps137
  go_wp2
  all_goals go_ret
  all_goals exact ⟨ret_i (by rw [← H.out]; unfold cmpI; grind), rfl⟩

def cmpVR (a b : Vr) : Int :=
  if a.time ≠ b.time then cmpI a.time b.time else
  if a.dead ≠ b.dead then (if a.dead = true then 1 else -1) else
  if a.dead = true then cmpI a.loc b.loc else
  if a.kind ≠ b.kind then cmpI a.kind b.kind else
  if a.n ≠ b.n then cmpI a.n b.n else
  cmpS a.s b.s
theorem cmpVR_1 (a b : Vr) (h : a.time ≠ b.time) : cmpVR a b = cmpI a.time b.time := by unfold cmpVR; rw [if_pos h]
theorem cmpVR_2 (a b : Vr) (h : a.time = b.time) (h2 : a.dead ≠ b.dead) : cmpVR a b = if a.dead = true then 1 else -1 := by unfold cmpVR; rw [if_neg (by simpa using h), if_pos h2]
theorem cmpVR_3 (a b : Vr) (h : a.time = b.time) (h2 : a.dead = true) (h3 : b.dead = true) : cmpVR a b = cmpI a.loc b.loc := by unfold cmpVR; rw [if_neg (by simpa using h), if_neg (by simp [h2, h3]), if_pos h2]
theorem cmpVR_4 (a b : Vr) (h : a.time = b.time) (h2 : a.dead = false) (h3 : b.dead = false) : cmpVR a b =
  if a.kind ≠ b.kind then cmpI a.kind b.kind else if a.n ≠ b.n then cmpI a.n b.n else cmpS a.s b.s := by
  unfold cmpVR; rw [if_neg (by simpa using h), if_neg (by simp [h2, h3]), if_neg (by simp [h2])]

set_option maxHeartbeats 4000000 in
theorem cmpVR_any (a b : Vr) (w : World) : Calls Tryd.prog 118 #[.agg (vrEnc a).toArray, .agg (vrEnc b).toArray] w fun e w' => e = .returned (.int .i64 (cmpVR a b)) ∧ Below w.heap.size w w' := by
  have HB0 := Lib.hid (below_alloc (below_alloc (Below.refl _ w) (.cells (vrEnc a).toArray 33)) (.cells (vrEnc b).toArray 33))
  obtain ⟨R, hR⟩ : ∃ R, cmpVR a b = R := ⟨_, rfl⟩
  rw [hR]
  have H := Lib.hid hR
  clear hR
  by_cases h1 : a.time = b.time
  case neg =>
    have H2 := Lib.hid ((cmpVR_1 a b h1).symm.trans H.out)
    clear H
    obtain ⟨t, d, l, k, n, s⟩ := a
    obtain ⟨t', d', l', k', n', s'⟩ := b
    simp only [vrEnc] at *
    have hb : (t != t') = true := by simpa using h1
    go_enter Tryd.func118, Tryd.ntmps118
    go_wp2_with (first | (go_at_call 137; refine (ints_any _ _ _).mono ?_; rintro e w' ⟨rfl, rfl⟩))
    go_ret
    exact ⟨ret_i H2.out, HB0.out⟩
  by_cases h2 : a.dead = b.dead
  case neg =>
    have H2 := Lib.hid ((cmpVR_2 a b h1 h2).symm.trans H.out)
    clear H
    obtain ⟨t, d, l, k, n, s⟩ := a
    obtain ⟨t', d', l', k', n', s'⟩ := b
    simp only [vrEnc] at *
    obtain rfl := h1
    cases d <;> cases d' <;> first | exact absurd rfl h2 | skip
    all_goals
      have hb : (t != t) = false := by simp
      go_enter Tryd.func118, Tryd.ntmps118
      go_wp2
      go_ret
      exact ⟨ret_i (by rw [← H2.out]; rfl), HB0.out⟩
  by_cases h3 : a.dead = true
  case pos =>
    have H2 := Lib.hid ((cmpVR_3 a b h1 h3 (h2 ▸ h3)).symm.trans H.out)
    clear H
    obtain ⟨t, d, l, k, n, s⟩ := a
    obtain ⟨t', d', l', k', n', s'⟩ := b
    simp only [vrEnc] at *
    subst h1 h2 h3
    have hb : (t != t) = false := by simp
    go_enter Tryd.func118, Tryd.ntmps118
    go_wp2_with (first | (go_at_call 137; refine (ints_any _ _ _).mono ?_; rintro e w' ⟨rfl, rfl⟩))
    go_ret
    exact ⟨ret_i H2.out, HB0.out⟩
  have h4 : a.dead = false := by simpa using h3
  have H2 := Lib.hid ((cmpVR_4 a b h1 h4 (h2 ▸ h4)).symm.trans H.out)
  clear H h3
  obtain ⟨t, d, l, k, n, s⟩ := a
  obtain ⟨t', d', l', k', n', s'⟩ := b
  simp only [vrEnc] at *
  subst h1 h2 h4
  have hb : (t != t) = false := by simp
  by_cases k1 : k = k'
  · subst k1
    have hb2 : (k != k) = false := by simp
    by_cases k2 : n = n'
    · subst k2
      have hb3 : (n != n) = false := by simp
      cases q1 : Op.bytesLess s.toList s'.toList with
      | true =>
        go_enter Tryd.func118, Tryd.ntmps118
        go_wp2
        go_ret
        exact ⟨ret_i (by rw [← H2.out]; simp [q1, cmpS]), HB0.out⟩
      | false =>
        cases q2 : (!s.toList == s'.toList) with
        | true =>
          go_enter Tryd.func118, Tryd.ntmps118
          go_wp2
          go_ret
          exact ⟨ret_i (by rw [← H2.out, if_neg (by simp), if_neg (by simp)]; unfold cmpS; rw [q1, q2]; rfl), HB0.out⟩
        | false =>
          go_enter Tryd.func118, Tryd.ntmps118
          go_wp2
          go_ret
          exact ⟨ret_i (by rw [← H2.out, if_neg (by simp), if_neg (by simp)]; unfold cmpS; rw [q1, q2]; rfl), HB0.out⟩
    · have hb3 : (n != n') = true := by simpa using k2
      go_enter Tryd.func118, Tryd.ntmps118
      go_wp2_with (first | (go_at_call 137; refine (ints_any _ _ _).mono ?_; rintro e w' ⟨rfl, rfl⟩))
      go_ret
      exact ⟨ret_i (by rw [← H2.out]; simp [k2]), HB0.out⟩
  · have hb2 : (k != k') = true := by simpa using k1
    go_enter Tryd.func118, Tryd.ntmps118
    go_wp2_with (first | (go_at_call 137; refine (ints_any _ _ _).mono ?_; rintro e w' ⟨rfl, rfl⟩))
    go_ret
    exact ⟨ret_i (by rw [← H2.out]; simp [k1]), HB0.out⟩

theorem Blk.put6 {w : World} {g : Nat} {t : TypeId} {a0 a1 a2 a3 a4 a5 : Value} (h : Blk w g t #[a0, a1, a2, a3, a4, a5]) (u0 u1 u2 u3 u4 u5 : Value) :
    Blk ((((((w.setCell ⟨g, 0, none⟩ u0).setCell ⟨g, 1, none⟩ u1).setCell ⟨g, 2, none⟩ u2).setCell ⟨g, 3, none⟩ u3).setCell ⟨g, 4, none⟩ u4).setCell ⟨g, 5, none⟩ u5) g t #[u0, u1, u2, u3, u4, u5] :=
  (((((h.put 0 u0).put 1 u1).put 2 u2).put 3 u3).put 4 u4).put 5 u5
def joinP (a b : Vr) : Vr := if cmpV a b < 0 then b else a
def joinR (a b : Vr) : Vr := if 0 < cmpVR b a then b else a
theorem cmpI_lt (a b : Int) : cmpI a b < 0 ↔ a < b := by unfold cmpI; split <;> (try split) <;> omega
theorem cmpI_gt (a b : Int) : 0 < cmpI a b ↔ b < a := by unfold cmpI; split <;> (try split) <;> omega
theorem cmpI_z (a b : Int) : cmpI a b = 0 ↔ a = b := by unfold cmpI; split <;> (try split) <;> omega
theorem orL_lt (x : Int) (l : List Int) : orL (x :: l) < 0 ↔ x < 0 ∨ (x = 0 ∧ orL l < 0) := by rw [orL]; split <;> omega
theorem orL_z (x : Int) (l : List Int) : orL (x :: l) = 0 ↔ x = 0 ∧ orL l = 0 := by rw [orL]; split <;> omega
theorem orL_nil : orL [] = 0 := rfl
theorem cmpS_lt (a b : ByteArray) : cmpS a b < 0 ↔ Op.bytesLess a.toList b.toList = true := by
  unfold cmpS; split
  · simp_all
  · split <;> simp_all
theorem cmpVR_gt (a b : Vr) : 0 < cmpVR b a ↔ (a.time < b.time ∨ (a.time = b.time ∧ ((a.dead = false ∧ b.dead = true) ∨ (a.dead = true ∧ b.dead = true ∧ a.loc < b.loc) ∨
    (a.dead = false ∧ b.dead = false ∧ (a.kind < b.kind ∨ (a.kind = b.kind ∧ (a.n < b.n ∨ (a.n = b.n ∧ Op.bytesLess a.s.toList b.s.toList = true)))))))) := by
  have hs : 0 < cmpS b.s a.s ↔ Op.bytesLess a.s.toList b.s.toList = true := by rw [← cmpS_lt, cmpS_neg a.s b.s]; omega
  unfold cmpVR
  obtain ⟨t, d, l, k, n, s⟩ := a
  obtain ⟨t', d', l', k', n', s'⟩ := b
  simp only at *
  by_cases h1 : t' = t
  · subst h1
    rw [if_neg (by simp)]
    cases d <;> cases d' <;> simp
    · by_cases k1 : k' = k
      · subst k1
        by_cases k2 : n' = n
        · subst k2
          simpa using hs
        · simp [k2, cmpI_gt]; omega
      · simp [k1, cmpI_gt]; omega
    · exact cmpI_gt _ _
  · rw [if_pos h1, cmpI_gt]; omega
theorem rk_l (a b : Bool) : rk a < rk b ↔ a = false ∧ b = true := by cases a <;> cases b <;> decide
theorem rk_e (a b : Bool) : rk a = rk b ↔ a = b := by cases a <;> cases b <;> decide
theorem cmpV_lt (a b : Vr) : cmpV a b < 0 ↔ (a.time < b.time ∨ (a.time = b.time ∧ ((a.dead = false ∧ b.dead = true) ∨ (a.dead = true ∧ b.dead = true ∧ a.loc < b.loc) ∨
    (a.dead = false ∧ b.dead = false ∧ (a.kind < b.kind ∨ (a.kind = b.kind ∧ (a.n < b.n ∨ (a.n = b.n ∧ Op.bytesLess a.s.toList b.s.toList = true)))))))) := by
  unfold cmpV
  by_cases he : verEq a b = true
  · rw [if_pos he]
    have := (verEq_iff a b).1 he
    subst this
    have : Op.bytesLess a.s.toList a.s.toList ≠ true := fun h => by
      have := (cmpS_lt a.s a.s).2 h; have := cmpS_neg a.s a.s; omega
    simp [this]
  · rw [if_neg he]
    by_cases h0 : orL [cmpI a.time b.time, cmpI (rk a.dead) (rk b.dead)] = 0
    · rw [if_neg (by simpa using h0)]
      simp only [orL_z, cmpI_z, rk_e, orL_nil, and_true] at h0
      obtain ⟨e1, e2⟩ := h0
      rw [← e1, ← e2]
      cases hd : a.dead
      · simp only [Bool.false_eq_true, if_false, orL_lt, cmpI_lt, cmpI_z, orL_nil, Int.lt_irrefl, and_false, or_false, cmpS_lt, false_and, false_or, true_and, and_self]
      · simp only [if_true, cmpI_lt, Int.lt_irrefl, false_or, true_and, Bool.true_eq_false, false_and, and_false, or_false]
    · rw [if_pos h0]
      simp only [orL_z, cmpI_z, rk_e, orL_nil, and_true, not_and] at h0
      simp only [orL_lt, cmpI_lt, cmpI_z, rk_l, orL_nil, Int.lt_irrefl, and_false, or_false]
      constructor
      · rintro (h | ⟨h1, h2⟩)
        · exact .inl h
        · exact .inr ⟨h1, .inl h2⟩
      · rintro (h | ⟨h1, h2 | ⟨h2, h3, _⟩ | ⟨h2, h3, _⟩⟩)
        · exact .inl h
        · exact .inr ⟨h1, h2⟩
        · exact absurd (h2.trans h3.symm) (h0 h1)
        · exact absurd (h2.trans h3.symm) (h0 h1)
theorem join_eq (a b : Vr) : joinR a b = joinP a b := by
  unfold joinR joinP
  have := (cmpVR_gt a b).trans (cmpV_lt a b).symm
  by_cases h : cmpV a b < 0
  · rw [if_pos h, if_pos (this.2 h)]
  · rw [if_neg h, if_neg (fun k => h (this.1 k))]

set_option maxHeartbeats 1000000 in
theorem join_any (a b : Vr) (w : World) : Calls Tryd.prog 86 #[.agg (vrEnc a).toArray, .agg (vrEnc b).toArray] w fun e w' => e = .returned (.agg (vrEnc (joinP a b)).toArray) ∧ Below w.heap.size w w' := by
  have C := Lib.hid (fun W => cmpV_any a b W)
  have B0 := below_alloc (below_alloc (below_alloc (Below.refl _ w) (.cells (vrEnc a).toArray 33)) (.cells (vrEnc b).toArray 33)) (.cells #[.int .i64 0, .bool false, .int .i64 0, .int .i64 0, .int .i64 0, .string ⟨#[]⟩] 33)
  have b1 := ((Blk.new w 33 (vrEnc a).toArray).alloc (.cells (vrEnc b).toArray 33)).alloc (.cells #[.int .i64 0, .bool false, .int .i64 0, .int .i64 0, .int .i64 0, .string ⟨#[]⟩] 33)
  have b2 := (Blk.new (w.alloc (.cells (vrEnc a).toArray 33)) 33 (vrEnc b).toArray).alloc (.cells #[.int .i64 0, .bool false, .int .i64 0, .int .i64 0, .int .i64 0, .string ⟨#[]⟩] 33)
  rw [show (w.alloc (.cells (vrEnc a).toArray 33)).heap.size = w.heap.size + 1 by simp] at b2
  have b3 := Blk.new ((w.alloc (.cells (vrEnc a).toArray 33)).alloc (.cells (vrEnc b).toArray 33)) 33 #[.int .i64 0, .bool false, .int .i64 0, .int .i64 0, .int .i64 0, .string ⟨#[]⟩]
  rw [show ((w.alloc (.cells (vrEnc a).toArray 33)).alloc (.cells (vrEnc b).toArray 33)).heap.size = w.heap.size + 1 + 1 by simp] at b3
  unfold joinP
  generalize cmpV a b = r at *
  obtain ⟨t, d, l, k, n, s⟩ := a
  obtain ⟨t', d', l', k', n', s'⟩ := b
  simp only [vrEnc] at *
  have B1 := Lib.hid b1; have B2 := Lib.hid b2; have HB0 := Lib.hid B0; have B3 := Lib.hid b3
  clear b1 b2 B0 b3
  by_cases hr : r < 0
  · rw [if_pos hr]
    go_enter Tryd.func86, Tryd.ntmps86
    go_wp2_with fail
    refine (C.out _).mono ?_
    rintro e w1 ⟨rfl, hb⟩
    obtain ⟨m0, m1, m2, m3, m4, m5⟩ := Blk.six (v := ⟨t, d, l, k, n, s⟩) (B1.out.below hb)
    obtain ⟨n0, n1, n2, n3, n4, n5⟩ := Blk.six (v := ⟨t', d', l', k', n', s'⟩) (B2.out.below hb)
    have b3 := B3.out.below hb
    have z0 := b3.cell 0 rfl; have z1 := b3.cell 1 rfl; have z2 := b3.cell 2 rfl; have z3 := b3.cell 3 rfl; have z4 := b3.cell 4 rfl; have z5 := b3.cell 5 rfl
    have fz := b3.frozen
    simp only [Nat.zero_add] at m0 m1 m2 m3 m4 m5 n0 n1 n2 n3 n4 n5
    have HB := Lib.hid (below_tr HB0.out hb)
    have Z := Lib.hid b3
    clear hb b3
    go_wp2_with fail
    refine ret_gen (fun w2 => Blk w2 (w.heap.size + 1 + 1) 33 #[.int .i64 t', .bool d', .int .i64 l', .int .i64 k', .int .i64 n', .string s'] ∧ Below w.heap.size w w2) ⟨Z.out.put6 _ _ _ _ _ _, by repeat (first | with_reducible exact HB.out | refine Below.setCell ?_ (by simp; try omega) _)⟩ ?_
    rintro w2 ⟨bk, hb2⟩
    exact bodyPost_ret (v := .agg #[.int .i64 t', .bool d', .int .i64 l', .int .i64 k', .int .i64 n', .string s']) (by simp [results, Tryd.results86, go_sem, bk.cell 0 rfl, bk.cell 1 rfl, bk.cell 2 rfl, bk.cell 3 rfl, bk.cell 4 rfl, bk.cell 5 rfl]) rfl ⟨rfl, hb2⟩
  · rw [if_neg hr]
    go_enter Tryd.func86, Tryd.ntmps86
    go_wp2_with fail
    refine (C.out _).mono ?_
    rintro e w1 ⟨rfl, hb⟩
    obtain ⟨m0, m1, m2, m3, m4, m5⟩ := Blk.six (v := ⟨t, d, l, k, n, s⟩) (B1.out.below hb)
    obtain ⟨n0, n1, n2, n3, n4, n5⟩ := Blk.six (v := ⟨t', d', l', k', n', s'⟩) (B2.out.below hb)
    have b3 := B3.out.below hb
    have z0 := b3.cell 0 rfl; have z1 := b3.cell 1 rfl; have z2 := b3.cell 2 rfl; have z3 := b3.cell 3 rfl; have z4 := b3.cell 4 rfl; have z5 := b3.cell 5 rfl
    have fz := b3.frozen
    simp only [Nat.zero_add] at m0 m1 m2 m3 m4 m5 n0 n1 n2 n3 n4 n5
    have HB := Lib.hid (below_tr HB0.out hb)
    have Z := Lib.hid b3
    clear hb b3
    go_wp2_with fail
    refine ret_gen (fun w2 => Blk w2 (w.heap.size + 1 + 1) 33 #[.int .i64 t, .bool d, .int .i64 l, .int .i64 k, .int .i64 n, .string s] ∧ Below w.heap.size w w2) ⟨Z.out.put6 _ _ _ _ _ _, by repeat (first | with_reducible exact HB.out | refine Below.setCell ?_ (by simp; try omega) _)⟩ ?_
    rintro w2 ⟨bk, hb2⟩
    exact bodyPost_ret (v := .agg #[.int .i64 t, .bool d, .int .i64 l, .int .i64 k, .int .i64 n, .string s]) (by simp [results, Tryd.results86, go_sem, bk.cell 0 rfl, bk.cell 1 rfl, bk.cell 2 rfl, bk.cell 3 rfl, bk.cell 4 rfl, bk.cell 5 rfl]) rfl ⟨rfl, hb2⟩
end Go.Proofs.YtmjeifbadjdnfaaDoor
