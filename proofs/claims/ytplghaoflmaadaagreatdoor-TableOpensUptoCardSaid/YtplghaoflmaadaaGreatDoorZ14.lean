/- Plain laws on the order of keys: it is an order, and the same as the reference's. No program in sight; no condition. '==' of two keys, as one Bool. No condition. Contracts of cmp.Or at numbers, of cell's rank and Cmp. No condition. Contracts of cell's Join, of the reference's ints, Cmp and Join of versions; both join alike. No condition. -/
import Derived.Test.YtplghaoflmaadaaGreatDoorZ13
import Derived.Sort.Walk0
import Derived.Test.YtplghaoflmaadaaGreatDoorZ00
import Derived.Test.YtplghaoflmaadaaGreatDoorProg
import Derived.Laws.StructEq
import Derived.Test.YtplghaoflmaadaaGreatDoorZ10
section
set_option linter.unusedVariables false
set_option linter.unusedSimpArgs false
namespace Go.Proofs.YtplghaoflmaadaaGreatDoor

theorem cmpS_eq (a b : ByteArray) : cmpS a b = if a.toList < b.toList then -1 else if a.toList = b.toList then 0 else 1 := by
  unfold cmpS
  rw [bytesLess_eq]
  by_cases h : a.toList < b.toList
  · simp [h]
  · by_cases h2 : a.toList = b.toList
    · simp [h2]
    · simp [h, h2]
theorem lt_irr (l : List UInt8) : ¬ l < l := List.lt_irrefl l
theorem cmpS_three (a b : ByteArray) : cmpS a b = -1 ∨ cmpS a b = 0 ∨ cmpS a b = 1 := by
  rw [cmpS_eq]; split
  · exact .inl rfl
  · split
    · exact .inr (.inl rfl)
    · exact .inr (.inr rfl)
theorem cmpS_neg (a b : ByteArray) : cmpS b a = -cmpS a b := by
  rw [cmpS_eq, cmpS_eq]
  by_cases h : a.toList < b.toList
  · have h1 : ¬ b.toList < a.toList := fun h2 => List.lt_asymm h h2
    have h2 : ¬ b.toList = a.toList := fun e => lt_irr a.toList (by rw [e] at h; exact h)
    rw [if_pos h, if_neg h1, if_neg h2]; rfl
  · by_cases h2 : a.toList = b.toList
    · rw [h2, if_neg (lt_irr _)]; simp
    · have h3 : b.toList < a.toList := by
        rcases List.le_iff_lt_or_eq.1 (List.not_lt.1 h) with h4 | h4
        · exact h4
        · exact absurd h4.symm h2
      rw [if_pos h3, if_neg h, if_neg h2]
theorem toList_inj {a b : ByteArray} (h : a.toList = b.toList) : a = b := by
  rw [ByteArray.toList_eq, ByteArray.toList_eq] at h
  exact ByteArray.ext (Array.toList_inj.1 h)
theorem cmpS_zero (a b : ByteArray) : cmpS a b = 0 ↔ a.toList = b.toList := by
  rw [cmpS_eq]
  constructor
  · intro h; split at h
    · cases h
    · split at h
      · assumption
      · cases h
  · intro h; rw [h]; simp
theorem cmpS_trans (a b c : ByteArray) (h1 : cmpS a b ≤ 0) (h2 : cmpS b c ≤ 0) : cmpS a c ≤ 0 ∧ (cmpS a c = 0 → cmpS a b = 0 ∧ cmpS b c = 0) := by
  have e1 : a.toList ≤ b.toList := by
    intro h; have := cmpS_neg b a; rw [cmpS_eq b a, if_pos h] at this; omega
  have e2 : b.toList ≤ c.toList := by
    intro h; have := cmpS_neg c b; rw [cmpS_eq c b, if_pos h] at this; omega
  have e3 : a.toList ≤ c.toList := List.le_trans e1 e2
  refine ⟨?_, fun h => ?_⟩
  · rw [cmpS_eq]; split
    · omega
    · rename_i h; split
      · omega
      · rename_i h'; rcases List.le_iff_lt_or_eq.1 e3 with h4 | h4
        · exact absurd h4 h
        · exact absurd h4 h'
  · have h := (cmpS_zero a c).1 h
    have e4 : b.toList ≤ a.toList := by rw [h]; exact e2
    have e5 : a.toList = b.toList := List.le_antisymm e1 e4
    exact ⟨(cmpS_zero a b).2 e5, (cmpS_zero b c).2 (e5.symm.trans h)⟩
theorem cmpI_three (a b : Int) : (cmpI a b = -1 ∧ a < b) ∨ (cmpI a b = 0 ∧ a = b) ∨ (cmpI a b = 1 ∧ b < a) := by
  unfold cmpI; split
  · exact .inl ⟨rfl, by assumption⟩
  · split
    · exact .inr (.inr ⟨rfl, by assumption⟩)
    · exact .inr (.inl ⟨rfl, by omega⟩)
theorem firstOf4 (a b c d : Int) : firstOf [a, b, c, d] = if a ≠ 0 then a else if b ≠ 0 then b else if c ≠ 0 then c else d := by
  unfold firstOf
  by_cases h1 : a = 0 <;> by_cases h2 : b = 0 <;> by_cases h3 : c = 0 <;> by_cases h4 : d = 0 <;> simp [nz, h1, h2, h3, h4]

/-- the order of keys -/
def kcmp (at_ ap : ByteArray) (ar : Int) (ac bt bp : ByteArray) (br : Int) (bc : ByteArray) : Int := firstOf [cmpS at_ bt, cmpS ap bp, cmpI ar br, cmpS ac bc]
theorem kcmp_ref (at_ ap : ByteArray) (ar : Int) (ac bt bp : ByteArray) (br : Int) (bc : ByteArray) : cmpR at_ ap ac bt bp bc ar br = kcmp at_ ap ar ac bt bp br bc := by
  unfold kcmp cmpR
  rw [firstOf4]
  have z1 := cmpS_zero at_ bt
  have z2 := cmpS_zero ap bp
  rcases cmpI_three ar br with ⟨e, h⟩ | ⟨e, h⟩ | ⟨e, h⟩ <;> by_cases h1 : at_.toList = bt.toList <;> by_cases h2 : ap.toList = bp.toList <;> simp [h1, h2, e] at * <;> simp_all <;> grind
theorem kcmp_neg (at_ ap : ByteArray) (ar : Int) (ac bt bp : ByteArray) (br : Int) (bc : ByteArray) : kcmp bt bp br bc at_ ap ar ac = -kcmp at_ ap ar ac bt bp br bc := by
  unfold kcmp
  rw [firstOf4, firstOf4, cmpS_neg at_ bt, cmpS_neg ap bp, cmpS_neg ac bc]
  have h1 := cmpI_three ar br; have h2 := cmpI_three br ar
  grind
theorem kcmp_zero (at_ ap : ByteArray) (ar : Int) (ac bt bp : ByteArray) (br : Int) (bc : ByteArray) : kcmp at_ ap ar ac bt bp br bc = 0 ↔ (at_.toList = bt.toList ∧ ap.toList = bp.toList ∧ ar = br ∧ ac.toList = bc.toList) := by
  unfold kcmp
  rw [firstOf4]
  have z1 := cmpS_zero at_ bt; have z2 := cmpS_zero ap bp; have z3 := cmpS_zero ac bc; have z4 := cmpI_three ar br
  grind
theorem kcmp_three (at_ ap : ByteArray) (ar : Int) (ac bt bp : ByteArray) (br : Int) (bc : ByteArray) : kcmp at_ ap ar ac bt bp br bc = -1 ∨ kcmp at_ ap ar ac bt bp br bc = 0 ∨ kcmp at_ ap ar ac bt bp br bc = 1 := by
  unfold kcmp
  rw [firstOf4]
  have z1 := cmpS_three at_ bt; have z2 := cmpS_three ap bp; have z3 := cmpS_three ac bc; have z4 := cmpI_three ar br
  grind
theorem kcmp_trans (at_ ap : ByteArray) (ar : Int) (ac bt bp : ByteArray) (br : Int) (bc ct cp : ByteArray) (cr : Int) (cc : ByteArray)
    (h1 : kcmp at_ ap ar ac bt bp br bc ≤ 0) (h2 : kcmp bt bp br bc ct cp cr cc ≤ 0) : kcmp at_ ap ar ac ct cp cr cc ≤ 0 := by
  unfold kcmp at *
  rw [firstOf4] at *
  have t1 := cmpS_trans at_ bt ct; have t2 := cmpS_trans ap bp cp; have t3 := cmpS_trans ac bc cc
  have a1 := cmpI_three ar br; have a2 := cmpI_three br cr; have a3 := cmpI_three ar cr
  generalize cmpS at_ bt = x1 at *; generalize cmpS bt ct = x2 at *; generalize cmpS at_ ct = x3 at *
  generalize cmpS ap bp = y1 at *; generalize cmpS bp cp = y2 at *; generalize cmpS ap cp = y3 at *
  generalize cmpS ac bc = z1 at *; generalize cmpS bc cc = z2 at *; generalize cmpS ac cc = z3 at *
  generalize cmpI ar br = w1 at *; generalize cmpI br cr = w2 at *; generalize cmpI ar cr = w3 at *
  grind (splits := 40)
theorem kcmp_between (t p : ByteArray) (ar : Int) (ac : ByteArray) (br : Int) (bc ct cp : ByteArray) (cr : Int) (cc : ByteArray)
    (h1 : kcmp t p ar ac ct cp cr cc ≤ 0) (h2 : kcmp ct cp cr cc t p br bc ≤ 0) : ct.toList = t.toList ∧ cp.toList = p.toList ∧ ar ≤ cr ∧ cr ≤ br := by
  unfold kcmp at *
  rw [firstOf4] at *
  have z1 := cmpS_zero t ct; have z2 := cmpS_zero p cp
  rw [cmpS_neg t ct, cmpS_neg p cp] at h2
  have a1 := cmpI_three ar cr; have a2 := cmpI_three cr br
  grind (splits := 40)
/-- the row's mark -/
theorem kcmp_mark (t p : ByteArray) (r : Int) (c : ByteArray) : kcmp t p r ⟨#[]⟩ t p r c ≤ 0 ∧ (kcmp t p r ⟨#[]⟩ t p r c = 0 ↔ c.toList = []) := by
  have h0 := kcmp_zero t p r ⟨#[]⟩ t p r c
  have e : (⟨#[]⟩ : ByteArray).toList = [] := by rw [ByteArray.toList_eq]
  rw [e] at h0
  constructor
  · unfold kcmp; rw [firstOf4]
    have z1 := (cmpS_zero t t).2 rfl; have z2 := (cmpS_zero p p).2 rfl; have z3 : cmpI r r = 0 := by unfold cmpI; simp
    rw [z1, z2, z3]
    simp only [ne_eq, not_true_eq_false, if_false]
    rw [cmpS_eq, e]
    cases h : c.toList <;> simp
  · rw [h0]; simp [eq_comm]
theorem kcmp_rows (t p : ByteArray) (ar : Int) (ac : ByteArray) (br : Int) (bc : ByteArray) : (ar < br → kcmp t p ar ac t p br bc < 0) := by
  intro h
  unfold kcmp; rw [firstOf4]
  have z1 := (cmpS_zero t t).2 rfl; have z2 := (cmpS_zero p p).2 rfl
  have z3 : cmpI ar br = -1 := by unfold cmpI; rw [if_pos h]
  rw [z1, z2, z3]; simp
end Go.Proofs.YtplghaoflmaadaaGreatDoor
end

section
set_option linter.unusedVariables false
set_option linter.unusedSimpArgs false
namespace Go.Proofs.YtplghaoflmaadaaGreatDoor
open Go.RowKit

section
variable {P : Program} {d : Nat} {xs ys : Array Value} {f : Field} {fs : List Field} {a b : Value} {r s : Bool} {w : World}
/-- one field more -/
theorem eqF (hn : (f.name == "_") = false) (ha : (part f.type xs f.offset).run P w = .ok a w) (hb : (part f.type ys f.offset).run P w = .ok b w) (he : (Op.equalIn d f.type a b).run P w = .ok r w)
    (hr : (Op.eqFields d xs ys fs).run P w = .ok s w) : (Op.eqFields d xs ys (f :: fs)).run P w = .ok (r && s) w := by
  have h1 : f.name ≠ "_" := by simpa using hn
  rw [Op.eqFields, if_pos h1]
  simp only [Sem.run_bind, ha, hb, he, Result.andThen_ok]
  cases r <;> simp [hr]
theorem eqN : (Op.eqFields d xs ys []).run P w = .ok true w := by simp [Op.eqFields]
theorem eqS {t : TypeId} {gs : Array Field} (hu : P.underlying t = some (.struct gs)) (hp : P.stoodInHeld t = false) (h : (Op.eqFields d xs ys gs.toList).run P w = .ok r w) :
    (Op.equalIn (d + 1) t (.agg xs) (.agg ys)).run P w = .ok r w := by
  have e : P.fieldsOf t = gs := by unfold Program.fieldsOf; rw [hu]
  rw [run_equalIn_struct (P := P) w d t xs ys (by rw [e]; exact hu) hp, e]
  exact h
end

/-- '==' of two keys -/
def keyEq (at_ ap : ByteArray) (ar : Int) (ac bt bp : ByteArray) (br : Int) (bc : ByteArray) : Bool := at_.toList == bt.toList && (ap.toList == bp.toList && (ar == br && (ac.toList == bc.toList && true)))
theorem keyIn (d : Nat) (w : World) (at_ ap ac bt bp bc : ByteArray) (ar br : Int) :
    (Op.equalIn (d + 2) 24 (.agg #[.string at_, .string ap, .int .i64 ar, .string ac]) (.agg #[.string bt, .string bp, .int .i64 br, .string bc])).run Tryz.prog w = .ok (keyEq at_ ap ar ac bt bp br bc) w := by
  refine eqS Tryz.underlying24 (by kernel_rfl) ?_
  refine eqF (by rfl) (by go_simp; rfl) (by go_simp; rfl) (by go_simp) ?_
  refine eqF (by rfl) (by go_simp; rfl) (by go_simp; rfl) (by go_simp) ?_
  refine eqF (by rfl) (by go_simp; rfl) (by go_simp; rfl) (by go_simp) ?_
  refine eqF (by rfl) (by go_simp; rfl) (by go_simp; rfl) (by go_simp) ?_
  exact eqN
theorem key_eql (w : World) (at_ ap ac bt bp bc : ByteArray) (ar br : Int) :
    (binOp .eql 24 (.agg #[.string at_, .string ap, .int .i64 ar, .string ac]) (.agg #[.string bt, .string bp, .int .i64 br, .string bc])).run Tryz.prog w = .ok (.bool (keyEq at_ ap ar ac bt bp br bc)) w := by
  rw [run_eql_struct, keyIn 9998]; rfl
theorem key_neq (w : World) (at_ ap ac bt bp bc : ByteArray) (ar br : Int) :
    (binOp .neq 24 (.agg #[.string at_, .string ap, .int .i64 ar, .string ac]) (.agg #[.string bt, .string bp, .int .i64 br, .string bc])).run Tryz.prog w = .ok (.bool (!keyEq at_ ap ar ac bt bp br bc)) w := by
  rw [run_neq_struct, keyIn 9998]; rfl
end Go.Proofs.YtplghaoflmaadaaGreatDoor
end

section
set_option linter.unusedVariables false
set_option linter.unusedSimpArgs false
set_option maxRecDepth 50000
namespace Go.Proofs.YtplghaoflmaadaaGreatDoor
open Go.RowKit Go.Sort
open Go.Lib hiding intOf

/-- the first that is not 0 -/
def orL : List Int → Int
  | [] => 0
  | x :: l => if x = 0 then orL l else x
theorem orL_drop (xs : List Int) (k : Nat) (h : k < xs.length) : orL (xs.drop k) = if xs[k] = 0 then orL (xs.drop (k + 1)) else xs[k] := by
  rw [List.drop_eq_getElem_cons h]; rfl
theorem orN_any (g o cap : Nat) (xs : List Int) (w : World) (hl : xs.length ≤ 1000000) (hx : ∀ k, (h : k < xs.length) → w.cell? ⟨g, o + k, none⟩ = some (.int .i64 xs[k])) :
    Calls Tryz.prog 132 #[.slice (some ⟨g, o, none⟩) xs.length cap] w fun e w' => e = .returned (.int .i64 (orL xs)) ∧ w = w' := by
  have HX := Lib.hid hx; clear hx
  go_enter Tryz.func132, Tryz.ntmps132
  go_wp2_with fail
  go_loop [8] (fun i => ∃ k : Nat, k ≤ xs.length ∧ i = .int .i64 k ∧ Hid (orL xs = orL (xs.drop k))) (fun i => xs.length - (intOf i).toNat)
  case atStart => exact ⟨0, by omega, rfl, Lib.hid (by simp)⟩
  case round =>
    obtain ⟨k, hk, rfl, HD⟩ := hrel
    by_cases hlt : k < xs.length
    · have hz : (k : Int) < (xs.length : Int) := by omega
      have hc := HX.out k hlt
      have hd := orL_drop xs k hlt
      by_cases h0 : xs[k] = 0
      · rw [if_pos h0] at hd
        rw [h0] at hc
        have HN := Lib.hid (HD.out.trans hd)
        clear hd h0
        go_wp2_with fail
        go_round
        case rel => exact ⟨k + 1, by omega, by first | rfl | go_num, HN⟩
        case measure => simp [intOf]; omega
      · rw [if_neg h0] at hd
        have HN := Lib.hid (HD.out.trans hd)
        clear hd
        generalize xs[k] = x at *
        have hb : (x != 0) = true := by simpa using h0
        go_wp2_with fail
        go_ret
        exact ⟨ret_i HN.out.symm, rfl⟩
    · have hz : ¬ (k : Int) < (xs.length : Int) := by omega
      have HN := Lib.hid (HD.out.trans (by rw [List.drop_eq_nil_of_le (by omega)]; rfl : orL (xs.drop k) = 0))
      go_wp2_with fail
      go_ret
      exact ⟨ret_i HN.out.symm, rfl⟩

def rk (d : Bool) : Int := if d then 1 else 0
theorem rank_any (d : Bool) (w : World) : Calls Tryz.prog 133 #[.bool d] w fun e w' => e = .returned (.int .i64 (rk d)) ∧ w = w' := by
  cases d <;> (go_enter Tryz.func133, Tryz.ntmps133; go_wp2; go_ret; exact ⟨rfl, rfl⟩)

/-- '==' of two values, of two versions -/
def valEq (k1 n1 : Int) (s1 : ByteArray) (k2 n2 : Int) (s2 : ByteArray) : Bool := k1 == k2 && (n1 == n2 && (s1.toList == s2.toList && true))
def verEq (a b : Vr) : Bool := a.time == b.time && (a.dead == b.dead && (a.loc == b.loc && (valEq a.kind a.n a.s b.kind b.n b.s && true)))
theorem valEq_iff (k1 n1 : Int) (s1 : ByteArray) (k2 n2 : Int) (s2 : ByteArray) : valEq k1 n1 s1 k2 n2 s2 = true ↔ (k1 = k2 ∧ n1 = n2 ∧ s1 = s2) := by
  unfold valEq
  simp only [Bool.and_eq_true, beq_iff_eq, and_true]
  constructor
  · rintro ⟨h1, h2, h3⟩; exact ⟨h1, h2, toList_inj h3⟩
  · rintro ⟨h1, h2, h3⟩; exact ⟨h1, h2, by rw [h3]⟩
theorem verEq_iff (a b : Vr) : verEq a b = true ↔ a = b := by
  obtain ⟨t, d, l, k, n, s⟩ := a; obtain ⟨t', d', l', k', n', s'⟩ := b
  unfold verEq
  simp only [Bool.and_eq_true, beq_iff_eq, and_true, valEq_iff, Vr.mk.injEq]
theorem valIn (d : Nat) (w : World) (k1 n1 : Int) (s1 : ByteArray) (k2 n2 : Int) (s2 : ByteArray) :
    (Op.equalIn (d + 2) 47 (.agg #[.int .i64 k1, .int .i64 n1, .string s1]) (.agg #[.int .i64 k2, .int .i64 n2, .string s2])).run Tryz.prog w = .ok (valEq k1 n1 s1 k2 n2 s2) w := by
  refine eqS Tryz.underlying47 (by kernel_rfl) ?_
  refine eqF (by rfl) (by go_simp; rfl) (by go_simp; rfl) (by go_simp) ?_
  refine eqF (by rfl) (by go_simp; rfl) (by go_simp; rfl) (by go_simp) ?_
  refine eqF (by rfl) (by go_simp; rfl) (by go_simp; rfl) (by go_simp) ?_
  exact eqN
theorem verIn (d : Nat) (w : World) (a b : Vr) : (Op.equalIn (d + 3) 49 (.agg (vrEnc a).toArray) (.agg (vrEnc b).toArray)).run Tryz.prog w = .ok (verEq a b) w := by
  obtain ⟨t, d1, l, k, n, s⟩ := a; obtain ⟨t', d', l', k', n', s'⟩ := b
  refine eqS Tryz.underlying49 (by kernel_rfl) ?_
  refine eqF (by rfl) (by simp only [vrEnc]; go_simp; rfl) (by simp only [vrEnc]; go_simp; rfl) (by go_simp) ?_
  refine eqF (by rfl) (by simp only [vrEnc]; go_simp; rfl) (by simp only [vrEnc]; go_simp; rfl) (by go_simp) ?_
  refine eqF (by rfl) (by simp only [vrEnc]; go_simp; rfl) (by simp only [vrEnc]; go_simp; rfl) (by go_simp) ?_
  refine eqF (by rfl) (by simp only [vrEnc]; go_simp <;> rfl) (by simp only [vrEnc]; go_simp <;> rfl) (valIn d w k n s k' n' s') ?_
  exact eqN
theorem ver_eql (w : World) (a b : Vr) : (binOp .eql 49 (.agg (vrEnc a).toArray) (.agg (vrEnc b).toArray)).run Tryz.prog w = .ok (.bool (verEq a b)) w := by
  rw [run_eql_struct, verIn 9997]; rfl

/-- the order of versions -/
def cmpV (a b : Vr) : Int := if verEq a b = true then 0 else
  if orL [cmpI a.time b.time, cmpI (rk a.dead) (rk b.dead)] ≠ 0 then orL [cmpI a.time b.time, cmpI (rk a.dead) (rk b.dead)] else
  if a.dead = true then cmpI a.loc b.loc else orL [cmpI a.kind b.kind, cmpI a.n b.n, cmpS a.s b.s]
/-- the six cells of a version -/
structure Six (w : World) (g o : Nat) (v : Vr) : Prop where
  c0 : w.cell? ⟨g, o, none⟩ = some (.int .i64 v.time)
  c1 : w.cell? ⟨g, o + 1, none⟩ = some (.bool v.dead)
  c2 : w.cell? ⟨g, o + 2, none⟩ = some (.int .i64 v.loc)
  c3 : w.cell? ⟨g, o + 3, none⟩ = some (.int .i64 v.kind)
  c4 : w.cell? ⟨g, o + 4, none⟩ = some (.int .i64 v.n)
  c5 : w.cell? ⟨g, o + 5, none⟩ = some (.string v.s)
theorem Six.keep {w w1 : World} {g o : Nat} {v : Vr} (h : Six w g o v) (hb : Below w.heap.size w w1) : Six w1 g o v :=
  ⟨cell_keep hb h.c0, cell_keep hb h.c1, cell_keep hb h.c2, cell_keep hb h.c3, cell_keep hb h.c4, cell_keep hb h.c5⟩
theorem Blk.six {w : World} {g : Nat} {v : Vr} (h : Blk w g 49 (vrEnc v).toArray) : Six w g 0 v := ⟨h.cell 0 rfl, h.cell 1 rfl, h.cell 2 rfl, h.cell 3 rfl, h.cell 4 rfl, h.cell 5 rfl⟩
/-- the three cells of a value -/
structure Thr (w : World) (g : Nat) (k n : Int) (s : ByteArray) : Prop where
  c0 : w.cell? ⟨g, 0, none⟩ = some (.int .i64 k)
  c1 : w.cell? ⟨g, 1, none⟩ = some (.int .i64 n)
  c2 : w.cell? ⟨g, 2, none⟩ = some (.string s)
theorem Thr.keep {w w1 : World} {g : Nat} {k n : Int} {s : ByteArray} (h : Thr w g k n s) (hb : Below w.heap.size w w1) : Thr w1 g k n s := ⟨cell_keep hb h.c0, cell_keep hb h.c1, cell_keep hb h.c2⟩
theorem orN_new (w : World) (cs : List Int) (t : TypeId) (n c : Nat) (hn : n = cs.length) (hl : cs.length ≤ 1000000) (W : World) (hc : ∀ k u, (cs.map (Value.int .i64))[k]? = some u → W.cell? ⟨w.heap.size, k, none⟩ = some u) :
    Calls Tryz.prog 132 #[.slice (some ⟨w.heap.size, 0, none⟩) n c] W fun e w' => e = .returned (.int .i64 (orL cs)) ∧ W = w' := by
  subst hn
  exact orN_any _ 0 c cs W hl fun k h => by rw [Nat.zero_add]; exact hc k _ (by simp [h])

set_option maxHeartbeats 4000000 in
theorem cmpV_any (a b : Vr) (w : World) : Calls Tryz.prog 110 #[.agg (vrEnc a).toArray, .agg (vrEnc b).toArray] w fun e w' => e = .returned (.int .i64 (cmpV a b)) ∧ Below w.heap.size w w' := by
  have hq := fun w => ver_eql w a b
  have EQ := Lib.hid hq
  have k1 := ((Blk.new w 49 (vrEnc a).toArray).alloc (.cells (vrEnc b).toArray 49)).six
  have k2 := (Blk.new (w.alloc (.cells (vrEnc a).toArray 49)) 49 (vrEnc b).toArray).six
  rw [show (w.alloc (.cells (vrEnc a).toArray 49)).heap.size = w.heap.size + 1 by simp] at k2
  have hb0 := below_alloc (below_alloc (Below.refl _ w) (.cells (vrEnc a).toArray 49)) (.cells (vrEnc b).toArray 49)
  have K1 := Lib.hid k1; have K2 := Lib.hid k2; have HB0 := Lib.hid hb0
  obtain ⟨R, hR⟩ : ∃ R, cmpV a b = R := ⟨_, rfl⟩
  rw [hR]
  unfold cmpV at hR
  have DEF := Lib.hid hR
  clear hR
  generalize verEq a b = ve at *
  clear k1 k2 hb0 hq
  obtain ⟨t, d, l, k, n, s⟩ := a
  obtain ⟨t', d', l', k', n', s'⟩ := b
  simp only [vrEnc] at *
  have eq := EQ.out
  go_enter Tryz.func110, Tryz.ntmps110
  cases ve with
  | true =>
    go_wp2_with fail
    go_ret
    exact ⟨ret_i (by rw [← DEF.out]; rfl), HB0.out⟩
  | false =>
    go_wp2_with fail
    clear eq EQ
    generalize hg : w.heap.size = g at *
    generalize hW : (w.alloc (.cells #[.int .i64 t, .bool d, .int .i64 l, .int .i64 k, .int .i64 n, .string s] 49)).alloc (.cells #[.int .i64 t', .bool d', .int .i64 l', .int .i64 k', .int .i64 n', .string s'] 49) = W at *
    have HW := Lib.hid hW; have HG := Lib.hid hg
    clear hW hg
    have FIN := Lib.hid (fun w4 (h : Below W.heap.size W w4) => show Below w.heap.size w w4 by have h0 := HB0.out; rw [← HG.out] at h0; exact below_tr h0 h)
    have q1 := Lib.hid (QP.same (P := Tryz.prog) (W := W) fun W' => cmp_i t t' W')
    have q2 := Lib.hid (QP.same (P := Tryz.prog) (W := W) fun W' => rank_any d W')
    have q3 := Lib.hid (QP.same (P := Tryz.prog) (W := W) fun W' => rank_any d' W')
    have q4 := Lib.hid (QP.same (P := Tryz.prog) (W := W) fun W' => cmp_i (rk d) (rk d') W')
    have f0 := fun dr os => (K1.out.keep (below_regrown W dr os)).c0
    have f1 := fun dr os => (K1.out.keep (below_regrown W dr os)).c1
    have g0 := fun dr os => (K2.out.keep (below_regrown W dr os)).c0
    have g1 := fun dr os => (K2.out.keep (below_regrown W dr os)).c1
    simp only [Nat.zero_add] at f0 f1 g0 g1
    obtain ⟨x1, hx1⟩ : ∃ x, cmpI t t' = x := ⟨_, rfl⟩
    obtain ⟨x2, hx2⟩ : ∃ x, cmpI (rk d) (rk d') = x := ⟨_, rfl⟩
    obtain ⟨r1, hr1⟩ : ∃ x, rk d = x := ⟨_, rfl⟩
    obtain ⟨r2, hr2⟩ : ∃ x, rk d' = x := ⟨_, rfl⟩
    rw [hx1] at q1; rw [hx2] at q4; rw [hr1] at q2 q4; rw [hr2] at q3 q4
    have H1 := Lib.hid hx1; have H2 := Lib.hid hx2
    clear hx1 hx2 hr1 hr2
    refine wp_region_quiet_tail 12 (by kernel_rfl) (by kernel_rfl) ?_
    simp only [List.take_succ_cons, List.take_zero, List.drop_succ_cons, List.drop_zero]
    repeat (quiet_step (first | with_reducible exact q1.out.at _ _ | with_reducible exact q2.out.at _ _ | with_reducible exact q3.out.at _ _ | with_reducible exact q4.out.at _ _))
    refine wpQuiet_nil ?_
    intro w3 hw3
    have hb3 := regrown_below hw3
    have HB3 := Lib.hid hb3
    clear hw3 hb3 f0 f1 g0 g1 q1 q2 q3 q4
    go_wp2_with fail
    refine (orN_new w3 [x1, x2] 3 2 2 rfl (by simp) _ (fun k u hk => (Blk.new w3 _ #[.int .i64 x1, .int .i64 x2]).cell k (by simpa using hk))).mono ?_
    rintro e w4 ⟨rfl, rfl⟩
    have HB4 := Lib.hid (below_alloc HB3.out (.cells #[.int .i64 x1, .int .i64 x2] 3))
    obtain ⟨o1, ho1⟩ : ∃ o, orL [x1, x2] = o := ⟨_, rfl⟩
    rw [ho1]
    rw [← H1.out, ← H2.out] at ho1
    have HO1 := Lib.hid ho1
    clear ho1
    generalize w3.alloc (.cells #[.int .i64 x1, .int .i64 x2] 3) = w4 at *
    by_cases h0 : o1 = 0
    · subst h0
      obtain ⟨_, m1, m2, m3, m4, m5⟩ := K1.out.keep HB4.out
      obtain ⟨_, _, p2, p3, p4, p5⟩ := K2.out.keep HB4.out
      simp only [Nat.zero_add] at m1 m2 m3 m4 m5 p2 p3 p4 p5
      cases d with
      | true =>
        go_wp2_with (first | (go_at_call 106; refine (cmp_i _ _ _).mono ?_; rintro e w' ⟨rfl, rfl⟩))
        go_ret
        exact ⟨ret_i (by rw [← DEF.out, HO1.out]; simp), FIN.out _ HB4.out⟩
      | false =>
        have HB40 := Lib.hid (Below.refl w4.heap.size w4)
        have hlt4 : g + 1 < w4.heap.size := World.block_lt_of_cell? w4 _ p2
        have z1 : g < w4.heap.size := by omega
        have z2 : g < w4.heap.size + 1 := by omega
        have z3 : g + 1 < w4.heap.size + 1 := by omega
        have B4 := Lib.hid (fun (o1 o2 : Obj) => below_alloc (below_alloc (Below.refl _ w4) o1) o2)
        go_upto_region 8 with (fail)
        go_cut [6, 7] (fun s6 s7 wx => ∃ g6 g7 : Nat, s6 = .pointer (some ⟨g6, 0, none⟩) ∧ s7 = .pointer (some ⟨g7, 0, none⟩) ∧ Thr wx g6 k n s ∧ Thr wx g7 k' n' s' ∧ Below w4.heap.size w4 wx)
        case first =>
          go_big_region
          all_goals (go_wp2_with fail; go_meet; case rel => exact ⟨_, _, rfl, rfl, ⟨by go_simp, by go_simp, by go_simp⟩, ⟨by go_simp, by go_simp, by go_simp⟩, Below.drew (B4.out _ _)⟩)
        case rest =>
          obtain ⟨g6, g7, rfl, rfl, t6, t7, hbc⟩ := hcut
          have T6 := Lib.hid t6; have T7 := Lib.hid t7; have HBC := Lib.hid (below_tr HB4.out hbc)
          clear t6 t7 hbc m1 m2 m3 m4 m5 p2 p3 p4 p5
          have q1 := Lib.hid (QP.same (P := Tryz.prog) (W := wc) fun W' => cmp_i k k' W')
          have q2 := Lib.hid (QP.same (P := Tryz.prog) (W := wc) fun W' => cmp_i n n' W')
          have q3 := Lib.hid (QP.same (P := Tryz.prog) (W := wc) fun W' => cmp_s s s' W')
          have f0 := fun dr os => (T6.out.keep (below_regrown wc dr os)).c0
          have f1 := fun dr os => (T6.out.keep (below_regrown wc dr os)).c1
          have f2 := fun dr os => (T6.out.keep (below_regrown wc dr os)).c2
          have g0 := fun dr os => (T7.out.keep (below_regrown wc dr os)).c0
          have g1 := fun dr os => (T7.out.keep (below_regrown wc dr os)).c1
          have g2 := fun dr os => (T7.out.keep (below_regrown wc dr os)).c2
          obtain ⟨y1, hy1⟩ : ∃ x, cmpI k k' = x := ⟨_, rfl⟩
          obtain ⟨y2, hy2⟩ : ∃ x, cmpI n n' = x := ⟨_, rfl⟩
          obtain ⟨y3, hy3⟩ : ∃ x, cmpS s s' = x := ⟨_, rfl⟩
          rw [hy1] at q1; rw [hy2] at q2; rw [hy3] at q3
          have Y := Lib.hid (And.intro hy1 (And.intro hy2 hy3))
          clear hy1 hy2 hy3
          go_wp2_with fail
          refine wp_region_quiet_tail 15 (by kernel_rfl) (by kernel_rfl) ?_
          simp only [List.take_succ_cons, List.take_zero, List.drop_succ_cons, List.drop_zero]
          repeat (quiet_step (first | with_reducible exact q1.out.at _ _ | with_reducible exact q2.out.at _ _ | with_reducible exact q3.out.at _ _))
          refine wpQuiet_nil ?_
          intro w5 hw5
          have HB5 := Lib.hid (below_tr HBC.out (regrown_below hw5))
          clear hw5 f0 f1 f2 g0 g1 g2 q1 q2 q3
          go_wp2_with fail
          refine (orN_new w5 [y1, y2, y3] 3 3 3 rfl (by simp) _ (fun k u hk => (Blk.new w5 _ #[.int .i64 y1, .int .i64 y2, .int .i64 y3]).cell k (by simpa using hk))).mono ?_
          rintro e w6 ⟨rfl, rfl⟩
          have HB6 := Lib.hid (below_alloc HB5.out (.cells #[.int .i64 y1, .int .i64 y2, .int .i64 y3] 3))
          obtain ⟨o2, ho2⟩ : ∃ o, orL [y1, y2, y3] = o := ⟨_, rfl⟩
          rw [ho2]
          rw [← Y.out.1, ← Y.out.2.1, ← Y.out.2.2] at ho2
          have HO2 := Lib.hid ho2
          clear ho2
          go_wp2_with fail
          go_ret
          exact ⟨ret_i (by rw [← DEF.out, HO1.out, HO2.out]; simp), FIN.out _ HB6.out⟩
    · have hb : (o1 != 0) = true := by simpa using h0
      go_wp2_with fail
      go_ret
      exact ⟨ret_i (by rw [← DEF.out, HO1.out, if_pos h0]; simp), FIN.out _ HB4.out⟩
end Go.Proofs.YtplghaoflmaadaaGreatDoor
end

section
set_option linter.unusedVariables false
set_option linter.unusedSimpArgs false
set_option maxRecDepth 50000
namespace Go.Proofs.YtplghaoflmaadaaGreatDoor
open Go.RowKit Go.Sort
open Go.Lib hiding intOf

def cmpVR (a b : Vr) : Int :=
  if a.time ≠ b.time then cmpI a.time b.time else
  if a.dead ≠ b.dead then (if a.dead = true then 1 else -1) else
  if a.dead = true then cmpI a.loc b.loc else
  if a.kind ≠ b.kind then cmpI a.kind b.kind else
  if a.n ≠ b.n then cmpI a.n b.n else
  cmpS a.s b.s
theorem cmpVR_1 (a b : Vr) (h : a.time ≠ b.time) : cmpVR a b = cmpI a.time b.time := by unfold cmpVR; rw [if_pos h]
theorem cmpVR_2 (a b : Vr) (h : a.time = b.time) (h2 : a.dead ≠ b.dead) : cmpVR a b = if a.dead = true then 1 else -1 := by unfold cmpVR; rw [if_neg (by simpa using h), if_pos h2]
theorem cmpVR_3 (a b : Vr) (h : a.time = b.time) (h2 : a.dead = true) (h3 : b.dead = true) : cmpVR a b = cmpI a.loc b.loc := by unfold cmpVR; rw [if_neg (by simpa using h), if_neg (by simp [h2, h3]), if_pos h2]
theorem cmpVR_4 (a b : Vr) (h : a.time = b.time) (h2 : a.dead = false) (h3 : b.dead = false) : cmpVR a b =
  if a.kind ≠ b.kind then cmpI a.kind b.kind else if a.n ≠ b.n then cmpI a.n b.n else cmpS a.s b.s := by
  unfold cmpVR; rw [if_neg (by simpa using h), if_neg (by simp [h2, h3]), if_neg (by simp [h2])]

theorem Blk.put6 {w : World} {g : Nat} {t : TypeId} {a0 a1 a2 a3 a4 a5 : Value} (h : Blk w g t #[a0, a1, a2, a3, a4, a5]) (u0 u1 u2 u3 u4 u5 : Value) :
    Blk ((((((w.setCell ⟨g, 0, none⟩ u0).setCell ⟨g, 1, none⟩ u1).setCell ⟨g, 2, none⟩ u2).setCell ⟨g, 3, none⟩ u3).setCell ⟨g, 4, none⟩ u4).setCell ⟨g, 5, none⟩ u5) g t #[u0, u1, u2, u3, u4, u5] :=
  (((((h.put 0 u0).put 1 u1).put 2 u2).put 3 u3).put 4 u4).put 5 u5
def joinP (a b : Vr) : Vr := if cmpV a b < 0 then b else a
def joinR (a b : Vr) : Vr := if 0 < cmpVR b a then b else a
theorem cmpI_lt (a b : Int) : cmpI a b < 0 ↔ a < b := by unfold cmpI; split <;> (try split) <;> omega
theorem cmpI_gt (a b : Int) : 0 < cmpI a b ↔ b < a := by unfold cmpI; split <;> (try split) <;> omega
theorem cmpI_z (a b : Int) : cmpI a b = 0 ↔ a = b := by unfold cmpI; split <;> (try split) <;> omega
theorem orL_lt (x : Int) (l : List Int) : orL (x :: l) < 0 ↔ x < 0 ∨ (x = 0 ∧ orL l < 0) := by rw [orL]; split <;> omega
theorem orL_z (x : Int) (l : List Int) : orL (x :: l) = 0 ↔ x = 0 ∧ orL l = 0 := by rw [orL]; split <;> omega
theorem orL_nil : orL [] = 0 := rfl
theorem cmpS_lt (a b : ByteArray) : cmpS a b < 0 ↔ Op.bytesLess a.toList b.toList = true := by
  unfold cmpS; split
  · simp_all
  · split <;> simp_all
theorem cmpVR_gt (a b : Vr) : 0 < cmpVR b a ↔ (a.time < b.time ∨ (a.time = b.time ∧ ((a.dead = false ∧ b.dead = true) ∨ (a.dead = true ∧ b.dead = true ∧ a.loc < b.loc) ∨
    (a.dead = false ∧ b.dead = false ∧ (a.kind < b.kind ∨ (a.kind = b.kind ∧ (a.n < b.n ∨ (a.n = b.n ∧ Op.bytesLess a.s.toList b.s.toList = true)))))))) := by
  have hs : 0 < cmpS b.s a.s ↔ Op.bytesLess a.s.toList b.s.toList = true := by rw [← cmpS_lt, cmpS_neg a.s b.s]; omega
  unfold cmpVR
  obtain ⟨t, d, l, k, n, s⟩ := a
  obtain ⟨t', d', l', k', n', s'⟩ := b
  simp only at *
  by_cases h1 : t' = t
  · subst h1
    rw [if_neg (by simp)]
    cases d <;> cases d' <;> simp
    · by_cases k1 : k' = k
      · subst k1
        by_cases k2 : n' = n
        · subst k2
          simpa using hs
        · simp [k2, cmpI_gt]; omega
      · simp [k1, cmpI_gt]; omega
    · exact cmpI_gt _ _
  · rw [if_pos h1, cmpI_gt]; omega
theorem rk_l (a b : Bool) : rk a < rk b ↔ a = false ∧ b = true := by cases a <;> cases b <;> decide
theorem rk_e (a b : Bool) : rk a = rk b ↔ a = b := by cases a <;> cases b <;> decide
theorem cmpV_lt (a b : Vr) : cmpV a b < 0 ↔ (a.time < b.time ∨ (a.time = b.time ∧ ((a.dead = false ∧ b.dead = true) ∨ (a.dead = true ∧ b.dead = true ∧ a.loc < b.loc) ∨
    (a.dead = false ∧ b.dead = false ∧ (a.kind < b.kind ∨ (a.kind = b.kind ∧ (a.n < b.n ∨ (a.n = b.n ∧ Op.bytesLess a.s.toList b.s.toList = true)))))))) := by
  unfold cmpV
  by_cases he : verEq a b = true
  · rw [if_pos he]
    have := (verEq_iff a b).1 he
    subst this
    have : Op.bytesLess a.s.toList a.s.toList ≠ true := fun h => by
      have := (cmpS_lt a.s a.s).2 h; have := cmpS_neg a.s a.s; omega
    simp [this]
  · rw [if_neg he]
    by_cases h0 : orL [cmpI a.time b.time, cmpI (rk a.dead) (rk b.dead)] = 0
    · rw [if_neg (by simpa using h0)]
      simp only [orL_z, cmpI_z, rk_e, orL_nil, and_true] at h0
      obtain ⟨e1, e2⟩ := h0
      rw [← e1, ← e2]
      cases hd : a.dead
      · simp only [Bool.false_eq_true, if_false, orL_lt, cmpI_lt, cmpI_z, orL_nil, Int.lt_irrefl, and_false, or_false, cmpS_lt, false_and, false_or, true_and, and_self]
      · simp only [if_true, cmpI_lt, Int.lt_irrefl, false_or, true_and, Bool.true_eq_false, false_and, and_false, or_false]
    · rw [if_pos h0]
      simp only [orL_z, cmpI_z, rk_e, orL_nil, and_true, not_and] at h0
      simp only [orL_lt, cmpI_lt, cmpI_z, rk_l, orL_nil, Int.lt_irrefl, and_false, or_false]
      constructor
      · rintro (h | ⟨h1, h2⟩)
        · exact .inl h
        · exact .inr ⟨h1, .inl h2⟩
      · rintro (h | ⟨h1, h2 | ⟨h2, h3, _⟩ | ⟨h2, h3, _⟩⟩)
        · exact .inl h
        · exact .inr ⟨h1, h2⟩
        · exact absurd (h2.trans h3.symm) (h0 h1)
        · exact absurd (h2.trans h3.symm) (h0 h1)
theorem join_eq (a b : Vr) : joinR a b = joinP a b := by
  unfold joinR joinP
  have := (cmpVR_gt a b).trans (cmpV_lt a b).symm
  by_cases h : cmpV a b < 0
  · rw [if_pos h, if_pos (this.2 h)]
  · rw [if_neg h, if_neg (fun k => h (this.1 k))]

set_option maxHeartbeats 1000000 in
theorem join_any (a b : Vr) (w : World) : Calls Tryz.prog 71 #[.agg (vrEnc a).toArray, .agg (vrEnc b).toArray] w fun e w' => e = .returned (.agg (vrEnc (joinP a b)).toArray) ∧ Below w.heap.size w w' := by
  have C := Lib.hid (fun W => cmpV_any a b W)
  have B0 := below_alloc (below_alloc (below_alloc (Below.refl _ w) (.cells (vrEnc a).toArray 49)) (.cells (vrEnc b).toArray 49)) (.cells #[.int .i64 0, .bool false, .int .i64 0, .int .i64 0, .int .i64 0, .string ⟨#[]⟩] 49)
  have b1 := ((Blk.new w 49 (vrEnc a).toArray).alloc (.cells (vrEnc b).toArray 49)).alloc (.cells #[.int .i64 0, .bool false, .int .i64 0, .int .i64 0, .int .i64 0, .string ⟨#[]⟩] 49)
  have b2 := (Blk.new (w.alloc (.cells (vrEnc a).toArray 49)) 49 (vrEnc b).toArray).alloc (.cells #[.int .i64 0, .bool false, .int .i64 0, .int .i64 0, .int .i64 0, .string ⟨#[]⟩] 49)
  rw [show (w.alloc (.cells (vrEnc a).toArray 49)).heap.size = w.heap.size + 1 by simp] at b2
  have b3 := Blk.new ((w.alloc (.cells (vrEnc a).toArray 49)).alloc (.cells (vrEnc b).toArray 49)) 49 #[.int .i64 0, .bool false, .int .i64 0, .int .i64 0, .int .i64 0, .string ⟨#[]⟩]
  rw [show ((w.alloc (.cells (vrEnc a).toArray 49)).alloc (.cells (vrEnc b).toArray 49)).heap.size = w.heap.size + 1 + 1 by simp] at b3
  unfold joinP
  generalize cmpV a b = r at *
  obtain ⟨t, d, l, k, n, s⟩ := a
  obtain ⟨t', d', l', k', n', s'⟩ := b
  simp only [vrEnc] at *
  have B1 := Lib.hid b1; have B2 := Lib.hid b2; have HB0 := Lib.hid B0; have B3 := Lib.hid b3
  clear b1 b2 B0 b3
  by_cases hr : r < 0
  · rw [if_pos hr]
    go_enter Tryz.func71, Tryz.ntmps71
    go_wp2_with fail
    refine (C.out _).mono ?_
    rintro e w1 ⟨rfl, hb⟩
    obtain ⟨m0, m1, m2, m3, m4, m5⟩ := Blk.six (v := ⟨t, d, l, k, n, s⟩) (B1.out.below hb)
    obtain ⟨n0, n1, n2, n3, n4, n5⟩ := Blk.six (v := ⟨t', d', l', k', n', s'⟩) (B2.out.below hb)
    have b3 := B3.out.below hb
    have z0 := b3.cell 0 rfl; have z1 := b3.cell 1 rfl; have z2 := b3.cell 2 rfl; have z3 := b3.cell 3 rfl; have z4 := b3.cell 4 rfl; have z5 := b3.cell 5 rfl
    have fz := b3.frozen
    simp only [Nat.zero_add] at m0 m1 m2 m3 m4 m5 n0 n1 n2 n3 n4 n5
    have HB := Lib.hid (below_tr HB0.out hb)
    have Z := Lib.hid b3
    clear hb b3
    go_wp2_with fail
    refine ret_gen (fun w2 => Blk w2 (w.heap.size + 1 + 1) 49 #[.int .i64 t', .bool d', .int .i64 l', .int .i64 k', .int .i64 n', .string s'] ∧ Below w.heap.size w w2) ⟨Z.out.put6 _ _ _ _ _ _, by repeat (first | with_reducible exact HB.out | refine Below.setCell ?_ (by simp; try omega) _)⟩ ?_
    rintro w2 ⟨bk, hb2⟩
    exact bodyPost_ret (v := .agg #[.int .i64 t', .bool d', .int .i64 l', .int .i64 k', .int .i64 n', .string s']) (by simp [results, Tryz.results71, go_sem, bk.cell 0 rfl, bk.cell 1 rfl, bk.cell 2 rfl, bk.cell 3 rfl, bk.cell 4 rfl, bk.cell 5 rfl]) rfl ⟨rfl, hb2⟩
  · rw [if_neg hr]
    go_enter Tryz.func71, Tryz.ntmps71
    go_wp2_with fail
    refine (C.out _).mono ?_
    rintro e w1 ⟨rfl, hb⟩
    obtain ⟨m0, m1, m2, m3, m4, m5⟩ := Blk.six (v := ⟨t, d, l, k, n, s⟩) (B1.out.below hb)
    obtain ⟨n0, n1, n2, n3, n4, n5⟩ := Blk.six (v := ⟨t', d', l', k', n', s'⟩) (B2.out.below hb)
    have b3 := B3.out.below hb
    have z0 := b3.cell 0 rfl; have z1 := b3.cell 1 rfl; have z2 := b3.cell 2 rfl; have z3 := b3.cell 3 rfl; have z4 := b3.cell 4 rfl; have z5 := b3.cell 5 rfl
    have fz := b3.frozen
    simp only [Nat.zero_add] at m0 m1 m2 m3 m4 m5 n0 n1 n2 n3 n4 n5
    have HB := Lib.hid (below_tr HB0.out hb)
    have Z := Lib.hid b3
    clear hb b3
    go_wp2_with fail
    refine ret_gen (fun w2 => Blk w2 (w.heap.size + 1 + 1) 49 #[.int .i64 t, .bool d, .int .i64 l, .int .i64 k, .int .i64 n, .string s] ∧ Below w.heap.size w w2) ⟨Z.out.put6 _ _ _ _ _ _, by repeat (first | with_reducible exact HB.out | refine Below.setCell ?_ (by simp; try omega) _)⟩ ?_
    rintro w2 ⟨bk, hb2⟩
    exact bodyPost_ret (v := .agg #[.int .i64 t, .bool d, .int .i64 l, .int .i64 k, .int .i64 n, .string s]) (by simp [results, Tryz.results71, go_sem, bk.cell 0 rfl, bk.cell 1 rfl, bk.cell 2 rfl, bk.cell 3 rfl, bk.cell 4 rfl, bk.cell 5 rfl]) rfl ⟨rfl, hb2⟩
end Go.Proofs.YtplghaoflmaadaaGreatDoor
end
