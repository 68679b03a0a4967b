/- Plain laws on keys in bytes: they stand as keys do, and lead back to them. No program in sight. Condition: rows are of int64. -/
import Derived.Test.YtkmcjainbhmbdaaDoorPc
import Derived.Test.YtkmcjainbhmbdaaDoorRw
set_option linter.unusedVariables false
set_option linter.unusedSimpArgs false
namespace Go.Proofs.YtkmcjainbhmbdaaDoor
open Go.RowKit

/-- What was escaped is taken back. -/
theorem takeT_esc (s X : List UInt8) : ∀ acc, takeT acc (sub1 0 [0, 255] s ++ [0, 0] ++ X) = some (acc ++ s, X) := by
  induction s with
  | nil => intro acc; simp only [sub1, List.flatMap_nil, List.nil_append, List.cons_append, List.append_nil]; exact takeT_end acc X
  | cons x s ih =>
    intro acc
    by_cases h : x = 0
    · subst h
      have e : sub1 0 [0, 255] (0 :: s) ++ [0, 0] ++ X = 0 :: 255 :: (sub1 0 [0, 255] s ++ [0, 0] ++ X) := by simp [sub1]
      rw [e, takeT_nought, ih]; simp
    · have e : sub1 0 [0, 255] (x :: s) ++ [0, 0] ++ X = x :: (sub1 0 [0, 255] s ++ [0, 0] ++ X) := by simp [sub1, h]
      rw [e]
      obtain ⟨y, r, hy⟩ : ∃ y r, sub1 0 [0, 255] s ++ [0, 0] ++ X = y :: r := by
        cases hh : sub1 0 [0, 255] s ++ [0, 0] ++ X with
        | nil => simp at hh
        | cons y r => exact ⟨y, r, rfl⟩
      rw [hy, takeT_byte _ _ _ _ h, ← hy, ih]; simp

/-- three ways -/
def cmpL (a b : List UInt8) : Int := if a < b then -1 else if a = b then 0 else 1
def orL (a b : Int) : Int := if a ≠ 0 then a else b
theorem cmpL_nil : cmpL [] [] = 0 := by simp [cmpL]
theorem cmpL_cons (x y : UInt8) (a b : List UInt8) : cmpL (x :: a) (y :: b) = if x < y then -1 else if y < x then 1 else cmpL a b := by
  unfold cmpL
  rcases Nat.lt_trichotomy x.toNat y.toNat with h | h | h
  · have h1 : x < y := UInt8.lt_iff_toNat_lt.2 h
    rw [if_pos h1, if_pos (by rw [List.cons_lt_cons_iff]; exact .inl h1)]
  · have h1 : x = y := UInt8.toNat_inj.1 h
    subst h1
    have h2 : ¬ x < x := by rw [UInt8.lt_iff_toNat_lt]; omega
    rw [if_neg h2, if_neg h2]
    simp only [List.cons_lt_cons_iff, List.cons.injEq, true_and, h2, false_or]
  · have h1 : y < x := UInt8.lt_iff_toNat_lt.2 h
    have h2 : ¬ x < y := by rw [UInt8.lt_iff_toNat_lt]; omega
    have h3 : x ≠ y := fun e => by rw [e] at h; omega
    rw [if_neg h2, if_pos h1, if_neg (by rw [List.cons_lt_cons_iff]; simp [h2, h3]), if_neg (by simp [h3])]
theorem cmpL_nil_cons (y : UInt8) (b : List UInt8) : cmpL [] (y :: b) = -1 := by unfold cmpL; rw [if_pos (by simp)]
theorem cmpL_cons_nil (y : UInt8) (b : List UInt8) : cmpL (y :: b) [] = 1 := by unfold cmpL; rw [if_neg (by simp), if_neg (by simp)]
theorem cmpL_same (x : UInt8) (a b : List UInt8) : cmpL (x :: a) (x :: b) = cmpL a b := by
  have h : ¬ x < x := by rw [UInt8.lt_iff_toNat_lt]; omega
  rw [cmpL_cons, if_neg h, if_neg h]
theorem zero_lt {x : UInt8} (h : x ≠ 0) : (0 : UInt8) < x := by
  rw [UInt8.lt_iff_toNat_lt]
  have : x.toNat ≠ 0 := fun e => h (UInt8.toNat_inj.1 e)
  show 0 < x.toNat
  omega
theorem esc_cons (x : UInt8) (s X : List UInt8) : sub1 0 [0, 255] (x :: s) ++ X = if x = 0 then 0 :: 255 :: (sub1 0 [0, 255] s ++ X) else x :: (sub1 0 [0, 255] s ++ X) := by
  by_cases h : x = 0
  · subst h; simp [sub1]
  · simp [sub1, h]
/-- Escaped texts stand as the texts do. -/
theorem cmpL_esc : ∀ (s s' X X' : List UInt8), cmpL (sub1 0 [0, 255] s ++ (0 :: 0 :: X)) (sub1 0 [0, 255] s' ++ (0 :: 0 :: X')) = orL (cmpL s s') (cmpL X X')
  | [], [], X, X' => by simp only [sub1, List.flatMap_nil, List.nil_append, cmpL_same, cmpL_nil, orL]; simp
  | [], y :: s', X, X' => by
    rw [esc_cons, cmpL_nil_cons]
    simp only [sub1, List.flatMap_nil, List.nil_append]
    by_cases h : y = 0
    · rw [if_pos h, cmpL_same, cmpL_cons, if_pos (by decide)]; simp [orL]
    · rw [if_neg h, cmpL_cons, if_pos (zero_lt h)]; simp [orL]
  | x :: s, [], X, X' => by
    rw [esc_cons, cmpL_cons_nil]
    simp only [sub1, List.flatMap_nil, List.nil_append]
    by_cases h : x = 0
    · rw [if_pos h, cmpL_same, cmpL_cons, if_neg (by decide), if_pos (by decide)]; simp [orL]
    · have h2 : ¬ x < 0 := by rw [UInt8.lt_iff_toNat_lt]; exact Nat.not_lt_zero _
      rw [if_neg h, cmpL_cons, if_neg h2, if_pos (zero_lt h)]; simp [orL]
  | x :: s, y :: s', X, X' => by
    have ih := cmpL_esc s s' X X'
    rw [esc_cons, esc_cons]
    by_cases h : x = 0
    · by_cases h' : y = 0
      · subst h h'
        rw [if_pos rfl, if_pos rfl, cmpL_same, cmpL_same, cmpL_same, ih]
      · subst h
        rw [if_pos rfl, if_neg h', cmpL_cons, if_pos (zero_lt h'), cmpL_cons, if_pos (zero_lt h')]; simp [orL]
    · by_cases h' : y = 0
      · subst h'
        have h2 : ¬ x < 0 := by rw [UInt8.lt_iff_toNat_lt]; exact Nat.not_lt_zero _
        rw [if_pos rfl, if_neg h, cmpL_cons, if_neg h2, if_pos (zero_lt h), cmpL_cons, if_neg h2, if_pos (zero_lt h)]; simp [orL]
      · rw [if_neg h, if_neg h', cmpL_cons, cmpL_cons, ih]
        by_cases h1 : x < y
        · simp [h1, orL]
        · by_cases h2 : y < x
          · simp [h1, h2, orL]
          · simp [h1, h2]

/-- the number that bytes spell -/
def val (u : Int) (l : List UInt8) : Int := l.foldl (fun u x => u * 256 + (x.toNat : Int)) u
theorem val_cmp : ∀ (l l' : List UInt8) (u u' : Int) (X X' : List UInt8), l.length = l'.length → orL (cmpI (val u l) (val u' l')) (cmpL X X') = orL (cmpI u u') (cmpL (l ++ X) (l' ++ X'))
  | [], [], u, u', X, X', _ => by simp [val]
  | x :: l, y :: l', u, u', X, X', h => by
    have ih := val_cmp l l' (u * 256 + (x.toNat : Int)) (u' * 256 + (y.toNat : Int)) X X' (by simpa using h)
    have e1 : val u (x :: l) = val (u * 256 + (x.toNat : Int)) l := rfl
    have e2 : val u' (y :: l') = val (u' * 256 + (y.toNat : Int)) l' := rfl
    rw [e1, e2, ih, List.cons_append, List.cons_append, cmpL_cons]
    have hx : x.toNat < 256 := x.toNat_lt
    have hy : y.toNat < 256 := y.toNat_lt
    simp only [UInt8.lt_iff_toNat_lt]
    generalize cmpL (l ++ X) (l' ++ X') = z
    generalize x.toNat = a at *
    generalize y.toNat = b at *
    unfold orL cmpI
    split <;> split <;> (try split) <;> (try split) <;> (try split) <;> (try split) <;> (try split) <;> (try split) <;> first | rfl | omega | (simp at *; omega) | simp_all
  | [], _ :: _, _, _, _, _, h => by simp at h
  | _ :: _, [], _, _, _, _, h => by simp at h

theorem xor63 (a : Nat) (h : a < 2 ^ 64) : a ^^^ 2 ^ 63 = (2 ^ 63 + a) % 2 ^ 64 := by
  apply Nat.eq_of_testBit_eq
  intro i
  rw [Nat.testBit_xor, Nat.testBit_two_pow, Nat.testBit_mod_two_pow]
  rcases Nat.lt_trichotomy i 63 with h1 | h1 | h1
  · rw [Nat.testBit_two_pow_add_gt h1]
    have e1 : decide (63 = i) = false := by simp; omega
    have e2 : decide (i < 64) = true := by simp; omega
    rw [e1, e2]; simp
  · subst h1
    rw [Nat.testBit_two_pow_add_eq]; simp
  · have e1 : decide (63 = i) = false := by simp; omega
    have e2 : decide (i < 64) = false := by simp; omega
    have e3 : a.testBit i = false := Nat.testBit_lt_two_pow (Nat.lt_of_lt_of_le h (Nat.pow_le_pow_right (by decide) (by omega)))
    rw [e1, e2, e3]; rfl
theorem bits_xor (x : Int) (h0 : 0 ≤ x) (h1 : x < 18446744073709551616) : Go.bits .xor .u64 x 9223372036854775808 = (x + 9223372036854775808) % 18446744073709551616 := by
  obtain ⟨a, rfl⟩ : ∃ a : Nat, x = a := ⟨x.toNat, by omega⟩
  have ha : a < 2 ^ 64 := by omega
  have e : (BitVec.ofInt 64 (a : Int) ^^^ BitVec.ofInt 64 9223372036854775808).toNat = (2 ^ 63 + a) % 2 ^ 64 := by
    rw [BitVec.toNat_xor, BitVec.ofInt_natCast, BitVec.toNat_ofNat, Nat.mod_eq_of_lt ha]
    exact xor63 a ha
  show IntKind.wrap .u64 ((BitVec.ofInt 64 (a : Int) ^^^ BitVec.ofInt 64 9223372036854775808).toNat : Int) = _
  rw [e]
  simp only [IntKind.wrap, IntKind.signed, IntKind.bits, Bool.false_and]
  simp
  omega
theorem bits_or (x : Int) (y : UInt8) (h0 : 0 ≤ x) (h1 : x * 256 < 18446744073709551616) : stepU x y = x * 256 + (y.toNat : Int) := by
  obtain ⟨a, rfl⟩ : ∃ a : Nat, x = a := ⟨x.toNat, by omega⟩
  have hy : y.toNat < 256 := y.toNat_lt
  have hw : IntKind.u64.wrap ((a : Int) * 2 ^ 8) = ((a * 256 : Nat) : Int) := by
    simp only [IntKind.wrap, IntKind.signed, IntKind.bits, Bool.false_and]
    simp
    omega
  unfold stepU
  rw [hw]
  have e : (BitVec.ofInt 64 ((a * 256 : Nat) : Int) ||| BitVec.ofInt 64 (y.toNat : Int)).toNat = a * 256 + y.toNat := by
    rw [BitVec.toNat_or, BitVec.ofInt_natCast, BitVec.ofInt_natCast, BitVec.toNat_ofNat, BitVec.toNat_ofNat, Nat.mod_eq_of_lt (by omega), Nat.mod_eq_of_lt (by omega)]
    have := Nat.shiftLeft_add_eq_or_of_lt (b := y.toNat) (i := 8) (by omega) a
    rw [Nat.shiftLeft_eq] at this
    exact this.symm
  show IntKind.wrap .u64 ((BitVec.ofInt 64 ((a * 256 : Nat) : Int) ||| BitVec.ofInt 64 (y.toNat : Int)).toNat : Int) = _
  rw [e]
  simp only [IntKind.wrap, IntKind.signed, IntKind.bits, Bool.false_and]
  simp
  omega
theorem row8_explicit (U : Int) : row8 U = [byteOf (U / 2 ^ 56 % 256), byteOf (U / 2 ^ 48 % 256), byteOf (U / 2 ^ 40 % 256), byteOf (U / 2 ^ 32 % 256), byteOf (U / 2 ^ 24 % 256), byteOf (U / 2 ^ 16 % 256), byteOf (U / 2 ^ 8 % 256), byteOf (U / 2 ^ 0 % 256)] := by
  simp [row8, List.range, List.range.loop]
theorem val_row8 (U : Int) (h0 : 0 ≤ U) (h1 : U < 18446744073709551616) : val 0 (row8 U) = U ∧ numU (row8 U) = U := by
  have hb : ∀ n : Int, ((byteOf (n % 256)).toNat : Int) = n % 256 := fun n => byteOf_val (Int.emod_nonneg _ (by decide)) (Int.emod_lt_of_pos _ (by decide))
  rw [row8_explicit]
  constructor
  · simp only [val, List.foldl_cons, List.foldl_nil, hb]
    omega
  · simp only [numU, List.foldl_cons, List.foldl_nil]
    have st : ∀ x y : Int, 0 ≤ x → x * 256 < 18446744073709551616 → stepU x (byteOf (y % 256)) = x * 256 + y % 256 := fun x y h2 h3 => by rw [bits_or x _ h2 h3, hb]
    have s7 : stepU 0 (byteOf (U / 2 ^ 56 % 256)) = U / 2 ^ 56 := by rw [st _ _ (by omega) (by omega)]; omega
    have s6 : stepU (U / 2 ^ 56) (byteOf (U / 2 ^ 48 % 256)) = U / 2 ^ 48 := by rw [st _ _ (by omega) (by omega)]; omega
    have s5 : stepU (U / 2 ^ 48) (byteOf (U / 2 ^ 40 % 256)) = U / 2 ^ 40 := by rw [st _ _ (by omega) (by omega)]; omega
    have s4 : stepU (U / 2 ^ 40) (byteOf (U / 2 ^ 32 % 256)) = U / 2 ^ 32 := by rw [st _ _ (by omega) (by omega)]; omega
    have s3 : stepU (U / 2 ^ 32) (byteOf (U / 2 ^ 24 % 256)) = U / 2 ^ 24 := by rw [st _ _ (by omega) (by omega)]; omega
    have s2 : stepU (U / 2 ^ 24) (byteOf (U / 2 ^ 16 % 256)) = U / 2 ^ 16 := by rw [st _ _ (by omega) (by omega)]; omega
    have s1 : stepU (U / 2 ^ 16) (byteOf (U / 2 ^ 8 % 256)) = U / 2 ^ 8 := by rw [st _ _ (by omega) (by omega)]; omega
    have s0 : stepU (U / 2 ^ 8) (byteOf (U / 2 ^ 0 % 256)) = U / 2 ^ 0 := by rw [st _ _ (by omega) (by omega)]; omega
    rw [s7, s6, s5, s4, s3, s2, s1, s0]; omega
theorem rowU_eq (r : Int) (h0 : -9223372036854775808 ≤ r) (h1 : r ≤ 9223372036854775807) : rowU r = r + 9223372036854775808 := by
  have hw : IntKind.u64.wrap r = r % 18446744073709551616 := by
    simp only [IntKind.wrap, IntKind.signed, IntKind.bits, Bool.false_and]
    simp
  unfold rowU
  rw [hw, bits_xor _ (by omega) (by omega)]
  omega
theorem rowOf_back (r : Int) (h0 : -9223372036854775808 ≤ r) (h1 : r ≤ 9223372036854775807) : rowOf (row8 (rowU r)) = r := by
  unfold rowOf
  rw [rowU_eq r h0 h1, (val_row8 _ (by omega) (by omega)).2, bits_xor _ (by omega) (by omega)]
  unfold wrap64
  omega
/-- Rows stand as their eight bytes do. -/
theorem cmpL_row (r r' : Int) (X X' : List UInt8) (h0 : -9223372036854775808 ≤ r) (h1 : r ≤ 9223372036854775807) (h0' : -9223372036854775808 ≤ r') (h1' : r' ≤ 9223372036854775807) :
    cmpL (row8 (rowU r) ++ X) (row8 (rowU r') ++ X') = orL (cmpI r r') (cmpL X X') := by
  have h := val_cmp (row8 (rowU r)) (row8 (rowU r')) 0 0 X X' (by simp [row8])
  have e : cmpI 0 0 = 0 := by decide
  rw [rowU_eq r h0 h1, rowU_eq r' h0' h1'] at *
  rw [(val_row8 _ (by omega) (by omega)).1, (val_row8 _ (by omega) (by omega)).1, e] at h
  have e2 : orL 0 (cmpL (row8 (r + 9223372036854775808) ++ X) (row8 (r' + 9223372036854775808) ++ X')) = cmpL (row8 (r + 9223372036854775808) ++ X) (row8 (r' + 9223372036854775808) ++ X') := by simp [orL]
  rw [e2] at h
  rw [← h]
  congr 1
  unfold cmpI
  split <;> split <;> (try split) <;> (try split) <;> first | rfl | omega

theorem cmpS_L (a b : ByteArray) : cmpS a b = cmpL a.toList b.toList := cmpS_eq a b
theorem cmpL_key (t p c t' p' c' : ByteArray) (r r' : Int) (h0 : -9223372036854775808 ≤ r) (h1 : r ≤ 9223372036854775807) (h0' : -9223372036854775808 ≤ r') (h1' : r' ≤ 9223372036854775807) :
    cmpL (keyBytes t p r c) (keyBytes t' p' r' c') = kcmp t p r c t' p' r' c' := by
  unfold keyBytes kcmp
  simp only [esc_eq, List.append_assoc, List.cons_append, List.nil_append]
  rw [cmpL_esc, cmpL_esc, cmpL_row _ _ _ _ h0 h1 h0' h1', cmpL_esc, cmpL_nil, firstOf4, cmpS_L, cmpS_L, cmpS_L]
  unfold orL
  grind
theorem keyOf_more (t p c : ByteArray) (r : Int) (X : List UInt8) (h0 : -9223372036854775808 ≤ r) (h1 : r ≤ 9223372036854775807) :
    keyOf (keyBytes t p r c ++ X) = if X = [] then some (t.toList, p.toList, r, c.toList) else none := by
  have e1 := takeT_esc t.toList (esc p.toList ++ [0, 0] ++ row8 (rowU r) ++ esc c.toList ++ [0, 0] ++ X) []
  have e2 := takeT_esc p.toList (row8 (rowU r) ++ esc c.toList ++ [0, 0] ++ X) []
  have e3 := takeT_esc c.toList X []
  rw [← esc_eq] at e1 e2 e3
  have l8 : (row8 (rowU r)).length = 8 := row8_length _
  have d8 : (row8 (rowU r) ++ esc c.toList ++ [0, 0] ++ X).drop 8 = esc c.toList ++ [0, 0] ++ X := by
    simp only [List.append_assoc]
    exact List.drop_left' l8
  have t8 : (row8 (rowU r) ++ esc c.toList ++ [0, 0] ++ X).take 8 = row8 (rowU r) := by
    simp only [List.append_assoc]
    exact List.take_left' l8
  have n8 : ¬ (row8 (rowU r) ++ esc c.toList ++ [0, 0] ++ X).length < 8 := by simp only [List.length_append, l8]; omega
  unfold keyOf keyBytes
  have a1 : esc t.toList ++ [0, 0] ++ esc p.toList ++ [0, 0] ++ row8 (rowU r) ++ esc c.toList ++ [0, 0] ++ X = esc t.toList ++ [0, 0] ++ (esc p.toList ++ [0, 0] ++ row8 (rowU r) ++ esc c.toList ++ [0, 0] ++ X) := by simp only [List.append_assoc]
  have a2 : esc p.toList ++ [0, 0] ++ row8 (rowU r) ++ esc c.toList ++ [0, 0] ++ X = esc p.toList ++ [0, 0] ++ (row8 (rowU r) ++ esc c.toList ++ [0, 0] ++ X) := by simp only [List.append_assoc]
  rw [a1, e1]
  simp only []
  rw [a2, e2]
  simp only []
  rw [if_neg n8, d8, e3, t8, rowOf_back r h0 h1]
  simp
theorem less_L (a b : List UInt8) : Op.bytesLess a b = decide (cmpL a b = -1) := by
  rw [bytesLess_eq]
  unfold cmpL
  by_cases h : a < b
  · simp [h]
  · by_cases h2 : a = b
    · subst h2; simp [h]
    · simp [h, h2]
theorem cmpL_neg (a b : List UInt8) : cmpL b a = -cmpL a b := by
  have := cmpS_neg ⟨a.toArray⟩ ⟨b.toArray⟩
  rw [cmpS_L, cmpS_L, toList_mk, toList_mk] at this
  exact this
end Go.Proofs.YtkmcjainbhmbdaaDoor
