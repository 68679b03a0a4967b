/- DERIVED: THE SHELF's CONTRACTS AT THIS DUMP, IN PLAIN WORDS (tools/lay-plain.mjs out of 'TryShelf.lean', which tools/lay-shelf.mjs wrote): THE SAME DECLARATIONS UNDER THE SAME NAMES: 'import', 'namespace', 'open', 'def', 'theorem' AND NOTHING ELSE: no command of the shelf's: FOR A HAND-IN. Each laying: the table of numbers ('.._ren') and one theorem, a field a fact of the dump's own or the kernel's comparison; each contract: ONE APPLICATION. Contracts of key's Name, Good and Row and of the reference's: each returns what a plain function says; the world is as it was but for draws and new blocks. No condition. Contracts of cell's Join, of the reference's ints, Cmp and Join of versions; both join alike. No condition. -/
import Derived.Shelf.GgClosure.StringsIndexFunc
import Derived.Ground.GgwProg
import Derived.Shelf.GgClosure.StringsIndexFuncTop
import Derived.Shelf.GgClosure.StringsRunes
import Derived.Shelf.Strings.FuncGrows
import Derived.Test.YtefndmjimmbhnaaProg
import Derived.Test.YtefndmjimmbhnaaZ08
import Derived.Test.YtefndmjimmbhnaaZ10
section
namespace Go.Proofs
open Go.Shelf
def Try.lays315_ren : Go.Shelf.Ren := ⟨fun | 315 => 107 | n => n, fun | 9 => 9 | 40 => 150 | 4 => 4 | 3 => 3 | 0 => 0 | 21 => 21 | n => n, fun | n => n⟩
theorem Try.lays315 : Go.Proofs.Lays.n315 Try.prog Try.lays315_ren := {
  mixed := by kernel_rfl
  f315 := Try.func107.trans (congrArg some (by kernel_rfl))
  t0 := Try.underlying0
  a0 := Try.isAgg0
  z0 := Try.sizeOf0
  v0 := Try.zeroValue0
  t3 := Try.underlying3
  a3 := Try.isAgg3
  z3 := Try.sizeOf3
  v3 := Try.zeroValue3
  t4 := Try.underlying4
  a4 := Try.isAgg4
  z4 := Try.sizeOf4
  v4 := Try.zeroValue4
  t9 := Try.underlying9
  a9 := Try.isAgg9
  z9 := Try.sizeOf9
  v9 := Try.zeroValue9
  t21 := Try.underlying21
  a21 := Try.isAgg21
  z21 := Try.sizeOf21
  v21 := Try.zeroValue21
  t40 := Try.underlying150
  a40 := Try.isAgg150
  z40 := Try.sizeOf150
  v40 := Try.zeroValue150 }
open Go.RowKit Go.Lib in
theorem Try.strings_indexFunc (g : Nat) (lb : Array Value) (eg : ∀ args w, (callFunc g args).run Try.prog w = .ok (.enter g args) w) (p : Nat → Bool) (truth : Bool) (s : ByteArray) (w : World) (hp : PredAt Try.prog g lb encR p w) :
    Calls Try.prog 107 #[.string s, .func (.func g) #[] lb, .bool truth] w fun e w' => e = .returned (.int .i64 (Lib.idxFunc p truth s)) ∧ Below w.heap.size w w' := Any.strings_indexFunc Try.lays315 g lb eg p truth s w hp
def Try.laysGw15_ren : Go.Shelf.Ren := ⟨fun | 15 => 106 | 20 => 107 | n => n, fun | 9 => 9 | 23 => 150 | 3 => 3 | 4 => 4 | 0 => 0 | 21 => 21 | n => n, fun | n => n⟩
theorem Try.laysGw15 : Go.Proofs.LaysGw.n15 Try.prog Try.laysGw15_ren := {
  mixed := by kernel_rfl
  f15 := Try.func106.trans (congrArg some (by kernel_rfl))
  f20 := Try.func107.trans (congrArg some (by kernel_rfl))
  t0 := Try.underlying0
  a0 := Try.isAgg0
  z0 := Try.sizeOf0
  v0 := Try.zeroValue0
  i0 := by kernel_rfl
  t3 := Try.underlying3
  a3 := Try.isAgg3
  z3 := Try.sizeOf3
  v3 := Try.zeroValue3
  i3 := by kernel_rfl
  t4 := Try.underlying4
  a4 := Try.isAgg4
  z4 := Try.sizeOf4
  v4 := Try.zeroValue4
  i4 := by kernel_rfl
  t9 := Try.underlying9
  a9 := Try.isAgg9
  z9 := Try.sizeOf9
  v9 := Try.zeroValue9
  i9 := by kernel_rfl
  t21 := Try.underlying21
  a21 := Try.isAgg21
  z21 := Try.sizeOf21
  v21 := Try.zeroValue21
  i21 := by kernel_rfl
  t23 := Try.underlying150
  a23 := Try.isAgg150
  z23 := Try.sizeOf150
  v23 := Try.zeroValue150
  i23 := by kernel_rfl }
open Go.RowKit Go.Lib in
theorem Try.strings_IndexFunc (g : Nat) (lb : Array Value) (eg : ∀ args w, (callFunc g args).run Try.prog w = .ok (.enter g args) w) (p : Nat → Bool) (s : ByteArray) (w : World) (hp : PredAt Try.prog g lb encR p w) :
    Calls Try.prog 106 #[.string s, .func (.func g) #[] lb] w fun e w' => e = .returned (.int .i64 (Lib.idxFunc p true s)) ∧ Below w.heap.size w w' := Any.strings_IndexFunc Try.laysGw15 g lb eg p s w hp
def Try.laysGw17_ren : Go.Shelf.Ren := ⟨fun | 17 => 102 | 15 => 106 | 20 => 107 | n => n, fun | 9 => 9 | 23 => 150 | 4 => 4 | 3 => 3 | 0 => 0 | 21 => 21 | n => n, fun | n => n⟩
theorem Try.laysGw17 : Go.Proofs.LaysGw.n17 Try.prog Try.laysGw17_ren := {
  mixed := by kernel_rfl
  f15 := Try.func106.trans (congrArg some (by kernel_rfl))
  f17 := Try.func102.trans (congrArg some (by kernel_rfl))
  f20 := Try.func107.trans (congrArg some (by kernel_rfl))
  t0 := Try.underlying0
  a0 := Try.isAgg0
  z0 := Try.sizeOf0
  v0 := Try.zeroValue0
  i0 := by kernel_rfl
  t3 := Try.underlying3
  a3 := Try.isAgg3
  z3 := Try.sizeOf3
  v3 := Try.zeroValue3
  i3 := by kernel_rfl
  t4 := Try.underlying4
  a4 := Try.isAgg4
  z4 := Try.sizeOf4
  v4 := Try.zeroValue4
  i4 := by kernel_rfl
  t9 := Try.underlying9
  a9 := Try.isAgg9
  z9 := Try.sizeOf9
  v9 := Try.zeroValue9
  i9 := by kernel_rfl
  t21 := Try.underlying21
  a21 := Try.isAgg21
  z21 := Try.sizeOf21
  v21 := Try.zeroValue21
  i21 := by kernel_rfl
  t23 := Try.underlying150
  a23 := Try.isAgg150
  z23 := Try.sizeOf150
  v23 := Try.zeroValue150
  i23 := by kernel_rfl }
open Go.RowKit Go.Lib in
theorem Try.strings_ContainsFunc (g : Nat) (lb : Array Value) (eg : ∀ args w, (callFunc g args).run Try.prog w = .ok (.enter g args) w) (p : Nat → Bool) (s : ByteArray) (w : World) (hp : PredAt Try.prog g lb encR p w) :
    Calls Try.prog 102 #[.string s, .func (.func g) #[] lb] w fun e w' => e = .returned (.bool (decide (0 ≤ Lib.idxFunc p true s))) ∧ Below w.heap.size w w' := Any.strings_ContainsFunc Try.laysGw17 g lb eg p s w hp
open Go.RowKit Go.Lib in
theorem Try.strings_indexFunc_runes (g : Nat) (lb : Array Value) (eg : ∀ args w, (callFunc g args).run Try.prog w = .ok (.enter g args) w) (p : Nat → Bool) (truth : Bool) (s : ByteArray) (w : World) (hp : PredAtRunes Try.prog g lb p w) :
    Calls Try.prog 107 #[.string s, .func (.func g) #[] lb, .bool truth] w fun e w' => e = .returned (.int .i64 (Lib.idxFunc p truth s)) ∧ Below w.heap.size w w' := Any.strings_indexFunc_runes Try.lays315 g lb eg p truth s w hp
open Go.RowKit Go.Lib in
theorem Try.strings_IndexFunc_runes (g : Nat) (lb : Array Value) (eg : ∀ args w, (callFunc g args).run Try.prog w = .ok (.enter g args) w) (p : Nat → Bool) (s : ByteArray) (w : World) (hp : PredAtRunes Try.prog g lb p w) :
    Calls Try.prog 106 #[.string s, .func (.func g) #[] lb] w fun e w' => e = .returned (.int .i64 (Lib.idxFunc p true s)) ∧ Below w.heap.size w w' := Any.strings_IndexFunc_runes Try.laysGw15 g lb eg p s w hp
open Go.RowKit Go.Lib in
theorem Try.strings_ContainsFunc_runes (g : Nat) (lb : Array Value) (eg : ∀ args w, (callFunc g args).run Try.prog w = .ok (.enter g args) w) (p : Nat → Bool) (s : ByteArray) (w : World) (hp : PredAtRunes Try.prog g lb p w) :
    Calls Try.prog 102 #[.string s, .func (.func g) #[] lb] w fun e w' => e = .returned (.bool (decide (0 ≤ Lib.idxFunc p true s))) ∧ Below w.heap.size w w' := Any.strings_ContainsFunc_runes Try.laysGw17 g lb eg p s w hp
open Go.RowKit Go.Lib in
theorem Try.strings_indexFunc_grows (g : Nat) (lb : Array Value) (eg : ∀ args w, (callFunc g args).run Try.prog w = .ok (.enter g args) w) (p : Nat → Bool) (truth : Bool) (s : ByteArray) (w : World) (hp : PredGrows Try.prog g lb p w) :
    Calls Try.prog 107 #[.string s, .func (.func g) #[] lb, .bool truth] w fun e w' => e = .returned (.int .i64 (Lib.idxFunc p truth s)) ∧ Below w.heap.size w w' := Any.strings_indexFunc_grows Try.lays315 g lb eg p truth s w hp
open Go.RowKit Go.Lib in
theorem Try.strings_IndexFunc_grows (g : Nat) (lb : Array Value) (eg : ∀ args w, (callFunc g args).run Try.prog w = .ok (.enter g args) w) (p : Nat → Bool) (s : ByteArray) (w : World) (hp : PredGrows Try.prog g lb p w) :
    Calls Try.prog 106 #[.string s, .func (.func g) #[] lb] w fun e w' => e = .returned (.int .i64 (Lib.idxFunc p true s)) ∧ Below w.heap.size w w' := Any.strings_IndexFunc_grows Try.laysGw15 g lb eg p s w hp
open Go.RowKit Go.Lib in
theorem Try.strings_ContainsFunc_grows (g : Nat) (lb : Array Value) (eg : ∀ args w, (callFunc g args).run Try.prog w = .ok (.enter g args) w) (p : Nat → Bool) (s : ByteArray) (w : World) (hp : PredGrows Try.prog g lb p w) :
    Calls Try.prog 102 #[.string s, .func (.func g) #[] lb] w fun e w' => e = .returned (.bool (decide (0 ≤ Lib.idxFunc p true s))) ∧ Below w.heap.size w w' := Any.strings_ContainsFunc_grows Try.laysGw17 g lb eg p s w hp
end Go.Proofs
end

section
set_option linter.unusedVariables false
set_option linter.unusedSimpArgs false
namespace Go.Proofs.Ytefndmjimmbhnaa
open Go.RowKit

def badR (r : Nat) : Bool := (decide ((r : Int) < 97) || decide (122 < (r : Int))) && (decide ((r : Int) < 48) || decide (57 < (r : Int))) && (r : Int) != 95

theorem name1 (w : World) : PredAt Try.prog 103 #[] encR badR w := fun W r _ => by
  unfold FnGives encR
  go_enter Try.func103, Try.ntmps103
  go_wp2
  all_goals go_ret
  all_goals refine ⟨ret_b ?_, 0, rfl⟩
  all_goals unfold badR
  all_goals (first | rfl | (rw [Bool.eq_iff_iff]; simp only [Bool.and_eq_true, Bool.or_eq_true, Bool.not_eq_true', decide_eq_true_eq, bne_iff_ne, beq_iff_eq, ne_eq, Bool.false_eq_true, iff_false, false_iff, iff_true, true_iff]; omega) | (simp [*]; done) | (simp [*]; omega))


theorem toList_nil {s : ByteArray} (h : s.size = 0) : s.toList = [] := by
  rw [ByteArray.toList_eq]; have h1 : s.data.size = 0 := h
  rw [Array.size_eq_zero_iff] at h1; rw [h1]
theorem toList_ne {s : ByteArray} (h : 0 < s.size) : ¬ s.toList = [] := by
  rw [ByteArray.toList_eq]; intro h1
  have h2 : s.data.size = 0 := by rw [← Array.length_toList, h1]; rfl
  have h3 : s.size = 0 := h2; omega

def headOk (s : ByteArray) : Bool := if h : 0 < s.size then decide (s.size ≤ 16) && decide (97 ≤ s[0].toNat) && decide (s[0].toNat ≤ 122) else false
theorem headOk_pos {s : ByteArray} (h0 : 0 < s.size) (h : headOk s = true) : s.size ≤ 16 ∧ 97 ≤ s[0].toNat ∧ s[0].toNat ≤ 122 := by
  rw [headOk, dif_pos h0] at h; simpa [and_assoc] using h
theorem headOk_neg {s : ByteArray} (h0 : 0 < s.size) (h : headOk s = false) : ¬ (s.size ≤ 16 ∧ 97 ≤ s[0].toNat ∧ s[0].toNat ≤ 122) := by
  intro h1; rw [headOk, dif_pos h0] at h; simp [h1.1, h1.2.1, h1.2.2] at h
theorem headOk_empty {s : ByteArray} (h0 : ¬ 0 < s.size) : headOk s = false := by rw [headOk, dif_neg h0]
def nameB (s : ByteArray) : Bool := headOk s && !decide (0 ≤ Lib.idxFunc badR true s)

theorem name_any (s : ByteArray) (w : World) (hs : s.size ≤ maxLen) : Calls Try.prog 94 #[.string s] w fun e w' => e = .returned (.bool (nameB s)) ∧ Below w.heap.size w w' := by
  have HC := fun W => Try.strings_ContainsFunc 103 #[] (enters_of Try.func103 (by kernel_rfl) rfl) badR s W (name1 W)
  unfold maxLen at hs
  rw [nameB]
  by_cases h0 : 0 < s.size
  · have hne := toList_ne h0
    have hie : s.toList.isEmpty = false := by simpa using hne
    cases hg : headOk s
    · have hn := headOk_neg h0 hg
      clear hg
      go_enter Try.func94, Try.ntmps94
      go_wp2_with fail
      all_goals go_ret
      all_goals exact ⟨rfl, Below.refl _ _⟩
    · have hn := headOk_pos h0 hg
      clear hg
      obtain ⟨n1, n2, n3⟩ := hn
      go_enter Try.func94, Try.ntmps94
      go_wp2_with (first | (go_at_call 102; refine (HC _).mono ?_; rintro e w' ⟨rfl, hb⟩))
      go_ret
      exact ⟨rfl, by (repeat (first | exact Below.refl _ _ | assumption | refine below_alloc ?_ _ | refine Below.drew ?_ | refine below_drewN ?_ _ | refine below_tr ?_ (by assumption)))⟩
  · have hne := toList_nil (s := s) (by omega)
    rw [headOk_empty h0]
    go_enter Try.func94, Try.ntmps94
    go_wp2
    go_ret
    exact ⟨rfl, Below.refl _ _⟩

def okC (c : UInt8) : Bool := (decide (97 ≤ (c.toNat : Int)) && decide ((c.toNat : Int) ≤ 122)) || (decide (48 ≤ (c.toNat : Int)) && decide ((c.toNat : Int) ≤ 57)) || ((c.toNat : Int) == 95)
def okFrom (s : ByteArray) (k : Nat) : Bool := if h : k < s.size then (if okC s[k] then okFrom s (k + 1) else false) else true
  termination_by s.size - k
def nameR (s : ByteArray) : Bool := headOk s && okFrom s 0

def strE (s : ByteArray) : Bool := s.toList.isEmpty
def goodB (t p c : ByteArray) : Bool := nameB t && !strE p && decide (p.size ≤ 64) && (strE c || nameB c)
def goodR (t p c : ByteArray) : Bool := nameR t && decide (1 ≤ p.size) && decide (p.size ≤ 64) && (strE c || nameR c)

theorem good_any (t p c : ByteArray) (r : Int) (w : World) (ht : t.size ≤ maxLen) (hp : p.size ≤ maxLen) (hc : c.size ≤ maxLen) :
    Calls Try.prog 71 #[.agg #[.string t, .string p, .int .i64 r, .string c]] w fun e w' => e = .returned (.bool (goodB t p c)) ∧ Below w.heap.size w w' := by
  have HN := fun W => name_any t W ht
  have HM := fun W => name_any c W hc
  unfold maxLen at hp
  unfold goodB
  generalize nameB t = bt at *
  generalize nameB c = bc at *
  cases bt <;> cases bc
  all_goals
    go_enter Try.func71, Try.ntmps71
    go_wp2_with (first | (go_at_call_of 94 t; refine (HN _).mono ?_; rintro e w' ⟨rfl, hb⟩; obtain ⟨hc1, hf1⟩ := bcell hb) | (go_at_call_of 94 c; refine (HM _).mono ?_; rintro e w2 ⟨rfl, hb2⟩; obtain ⟨hc2, hf2⟩ := bcell hb2))
    all_goals go_ret
    all_goals refine ⟨ret_b ?_, by (repeat (first | exact Below.refl _ _ | assumption | refine below_alloc ?_ _ | refine Below.drew ?_ | refine below_drewN ?_ _ | refine below_tr ?_ (by assumption)))⟩
    all_goals ((try unfold strE); first | rfl | (simp [*]; done) | (simp [*]; omega) | grind)

end Go.Proofs.Ytefndmjimmbhnaa
end

section
set_option linter.unusedVariables false
set_option linter.unusedSimpArgs false
set_option maxRecDepth 50000
namespace Go.Proofs.Ytefndmjimmbhnaa
open Go.RowKit Go.Sort
open Go.Lib hiding intOf

def cmpVR (a b : Vr) : Int :=
  if a.time ≠ b.time then cmpI a.time b.time else
  if a.dead ≠ b.dead then (if a.dead = true then 1 else -1) else
  if a.dead = true then cmpI a.loc b.loc else
  if a.kind ≠ b.kind then cmpI a.kind b.kind else
  if a.n ≠ b.n then cmpI a.n b.n else
  cmpS a.s b.s
theorem cmpVR_1 (a b : Vr) (h : a.time ≠ b.time) : cmpVR a b = cmpI a.time b.time := by unfold cmpVR; rw [if_pos h]
theorem cmpVR_2 (a b : Vr) (h : a.time = b.time) (h2 : a.dead ≠ b.dead) : cmpVR a b = if a.dead = true then 1 else -1 := by unfold cmpVR; rw [if_neg (by simpa using h), if_pos h2]
theorem cmpVR_3 (a b : Vr) (h : a.time = b.time) (h2 : a.dead = true) (h3 : b.dead = true) : cmpVR a b = cmpI a.loc b.loc := by unfold cmpVR; rw [if_neg (by simpa using h), if_neg (by simp [h2, h3]), if_pos h2]
theorem cmpVR_4 (a b : Vr) (h : a.time = b.time) (h2 : a.dead = false) (h3 : b.dead = false) : cmpVR a b =
  if a.kind ≠ b.kind then cmpI a.kind b.kind else if a.n ≠ b.n then cmpI a.n b.n else cmpS a.s b.s := by
  unfold cmpVR; rw [if_neg (by simpa using h), if_neg (by simp [h2, h3]), if_neg (by simp [h2])]

theorem Blk.put6 {w : World} {g : Nat} {t : TypeId} {a0 a1 a2 a3 a4 a5 : Value} (h : Blk w g t #[a0, a1, a2, a3, a4, a5]) (u0 u1 u2 u3 u4 u5 : Value) :
    Blk ((((((w.setCell ⟨g, 0, none⟩ u0).setCell ⟨g, 1, none⟩ u1).setCell ⟨g, 2, none⟩ u2).setCell ⟨g, 3, none⟩ u3).setCell ⟨g, 4, none⟩ u4).setCell ⟨g, 5, none⟩ u5) g t #[u0, u1, u2, u3, u4, u5] :=
  (((((h.put 0 u0).put 1 u1).put 2 u2).put 3 u3).put 4 u4).put 5 u5
def joinP (a b : Vr) : Vr := if cmpV a b < 0 then b else a
def joinR (a b : Vr) : Vr := if 0 < cmpVR b a then b else a
theorem cmpI_lt (a b : Int) : cmpI a b < 0 ↔ a < b := by unfold cmpI; split <;> (try split) <;> omega
theorem cmpI_gt (a b : Int) : 0 < cmpI a b ↔ b < a := by unfold cmpI; split <;> (try split) <;> omega
theorem cmpI_z (a b : Int) : cmpI a b = 0 ↔ a = b := by unfold cmpI; split <;> (try split) <;> omega
theorem orL_lt (x : Int) (l : List Int) : orL (x :: l) < 0 ↔ x < 0 ∨ (x = 0 ∧ orL l < 0) := by rw [orL]; split <;> omega
theorem orL_z (x : Int) (l : List Int) : orL (x :: l) = 0 ↔ x = 0 ∧ orL l = 0 := by rw [orL]; split <;> omega
theorem orL_nil : orL [] = 0 := rfl
theorem cmpS_lt (a b : ByteArray) : cmpS a b < 0 ↔ Op.bytesLess a.toList b.toList = true := by
  unfold cmpS; split
  · simp_all
  · split <;> simp_all
theorem cmpVR_gt (a b : Vr) : 0 < cmpVR b a ↔ (a.time < b.time ∨ (a.time = b.time ∧ ((a.dead = false ∧ b.dead = true) ∨ (a.dead = true ∧ b.dead = true ∧ a.loc < b.loc) ∨
    (a.dead = false ∧ b.dead = false ∧ (a.kind < b.kind ∨ (a.kind = b.kind ∧ (a.n < b.n ∨ (a.n = b.n ∧ Op.bytesLess a.s.toList b.s.toList = true)))))))) := by
  have hs : 0 < cmpS b.s a.s ↔ Op.bytesLess a.s.toList b.s.toList = true := by rw [← cmpS_lt, cmpS_neg a.s b.s]; omega
  unfold cmpVR
  obtain ⟨t, d, l, k, n, s⟩ := a
  obtain ⟨t', d', l', k', n', s'⟩ := b
  simp only at *
  by_cases h1 : t' = t
  · subst h1
    rw [if_neg (by simp)]
    cases d <;> cases d' <;> simp
    · by_cases k1 : k' = k
      · subst k1
        by_cases k2 : n' = n
        · subst k2
          simpa using hs
        · simp [k2, cmpI_gt]; omega
      · simp [k1, cmpI_gt]; omega
    · exact cmpI_gt _ _
  · rw [if_pos h1, cmpI_gt]; omega
theorem rk_l (a b : Bool) : rk a < rk b ↔ a = false ∧ b = true := by cases a <;> cases b <;> decide
theorem rk_e (a b : Bool) : rk a = rk b ↔ a = b := by cases a <;> cases b <;> decide
theorem cmpV_lt (a b : Vr) : cmpV a b < 0 ↔ (a.time < b.time ∨ (a.time = b.time ∧ ((a.dead = false ∧ b.dead = true) ∨ (a.dead = true ∧ b.dead = true ∧ a.loc < b.loc) ∨
    (a.dead = false ∧ b.dead = false ∧ (a.kind < b.kind ∨ (a.kind = b.kind ∧ (a.n < b.n ∨ (a.n = b.n ∧ Op.bytesLess a.s.toList b.s.toList = true)))))))) := by
  unfold cmpV
  by_cases he : verEq a b = true
  · rw [if_pos he]
    have := (verEq_iff a b).1 he
    subst this
    have : Op.bytesLess a.s.toList a.s.toList ≠ true := fun h => by
      have := (cmpS_lt a.s a.s).2 h; have := cmpS_neg a.s a.s; omega
    simp [this]
  · rw [if_neg he]
    by_cases h0 : orL [cmpI a.time b.time, cmpI (rk a.dead) (rk b.dead)] = 0
    · rw [if_neg (by simpa using h0)]
      simp only [orL_z, cmpI_z, rk_e, orL_nil, and_true] at h0
      obtain ⟨e1, e2⟩ := h0
      rw [← e1, ← e2]
      cases hd : a.dead
      · simp only [Bool.false_eq_true, if_false, orL_lt, cmpI_lt, cmpI_z, orL_nil, Int.lt_irrefl, and_false, or_false, cmpS_lt, false_and, false_or, true_and, and_self]
      · simp only [if_true, cmpI_lt, Int.lt_irrefl, false_or, true_and, Bool.true_eq_false, false_and, and_false, or_false]
    · rw [if_pos h0]
      simp only [orL_z, cmpI_z, rk_e, orL_nil, and_true, not_and] at h0
      simp only [orL_lt, cmpI_lt, cmpI_z, rk_l, orL_nil, Int.lt_irrefl, and_false, or_false]
      constructor
      · rintro (h | ⟨h1, h2⟩)
        · exact .inl h
        · exact .inr ⟨h1, .inl h2⟩
      · rintro (h | ⟨h1, h2 | ⟨h2, h3, _⟩ | ⟨h2, h3, _⟩⟩)
        · exact .inl h
        · exact .inr ⟨h1, h2⟩
        · exact absurd (h2.trans h3.symm) (h0 h1)
        · exact absurd (h2.trans h3.symm) (h0 h1)
theorem join_eq (a b : Vr) : joinR a b = joinP a b := by
  unfold joinR joinP
  have := (cmpVR_gt a b).trans (cmpV_lt a b).symm
  by_cases h : cmpV a b < 0
  · rw [if_pos h, if_pos (this.2 h)]
  · rw [if_neg h, if_neg (fun k => h (this.1 k))]

end Go.Proofs.Ytefndmjimmbhnaa
end
