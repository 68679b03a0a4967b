/- Contracts of key's Name, Good and Row and of the reference's: each returns what a plain function says; the world is as it was but for draws and new blocks. No condition. -/
import Derived.Test.YtkmcjainbhmbdaaDoorShelf
import Derived.Test.YtkmcjainbhmbdaaDoorKa
set_option linter.unusedVariables false
set_option linter.unusedSimpArgs false
namespace Go.Proofs.YtkmcjainbhmbdaaDoor
open Go.RowKit

def badR (r : Nat) : Bool := (decide ((r : Int) < 97) || decide (122 < (r : Int))) && (decide ((r : Int) < 48) || decide (57 < (r : Int))) && (r : Int) != 95

theorem name1 (w : World) : PredAt Tryd.prog 86 #[] encR badR w := fun W r _ => by
  unfold FnGives encR
  go_enter Tryd.func86, Tryd.ntmps86
  go_wp2
  all_goals go_ret
  all_goals refine ⟨ret_b ?_, 0, rfl⟩
  all_goals unfold badR
  all_goals (first | rfl | (rw [Bool.eq_iff_iff]; simp only [Bool.and_eq_true, Bool.or_eq_true, Bool.not_eq_true', decide_eq_true_eq, bne_iff_ne, beq_iff_eq, ne_eq, Bool.false_eq_true, iff_false, false_iff, iff_true, true_iff]; omega) | (simp [*]; done) | (simp [*]; omega))


theorem toList_nil {s : ByteArray} (h : s.size = 0) : s.toList = [] := by
  rw [ByteArray.toList_eq]; have h1 : s.data.size = 0 := h
  rw [Array.size_eq_zero_iff] at h1; rw [h1]
theorem toList_ne {s : ByteArray} (h : 0 < s.size) : ¬ s.toList = [] := by
  rw [ByteArray.toList_eq]; intro h1
  have h2 : s.data.size = 0 := by rw [← Array.length_toList, h1]; rfl
  have h3 : s.size = 0 := h2; omega

def headOk (s : ByteArray) : Bool := if h : 0 < s.size then decide (s.size ≤ 16) && decide (97 ≤ s[0].toNat) && decide (s[0].toNat ≤ 122) else false
theorem headOk_pos {s : ByteArray} (h0 : 0 < s.size) (h : headOk s = true) : s.size ≤ 16 ∧ 97 ≤ s[0].toNat ∧ s[0].toNat ≤ 122 := by
  rw [headOk, dif_pos h0] at h; simpa [and_assoc] using h
theorem headOk_neg {s : ByteArray} (h0 : 0 < s.size) (h : headOk s = false) : ¬ (s.size ≤ 16 ∧ 97 ≤ s[0].toNat ∧ s[0].toNat ≤ 122) := by
  intro h1; rw [headOk, dif_pos h0] at h; simp [h1.1, h1.2.1, h1.2.2] at h
theorem headOk_empty {s : ByteArray} (h0 : ¬ 0 < s.size) : headOk s = false := by rw [headOk, dif_neg h0]
def nameB (s : ByteArray) : Bool := headOk s && !decide (0 ≤ Lib.idxFunc badR true s)

theorem name_any (s : ByteArray) (w : World) (hs : s.size ≤ maxLen) : Calls Tryd.prog 43 #[.string s] w fun e w' => e = .returned (.bool (nameB s)) ∧ Below w.heap.size w w' := by
  have HC := fun W => Tryd.strings_ContainsFunc 86 #[] (enters_of Tryd.func86 (by kernel_rfl) rfl) badR s W (name1 W)
  unfold maxLen at hs
  rw [nameB]
  by_cases h0 : 0 < s.size
  · have hne := toList_ne h0
    have hie : s.toList.isEmpty = false := by simpa using hne
    cases hg : headOk s
    · have hn := headOk_neg h0 hg
      clear hg
      go_enter Tryd.func43, Tryd.ntmps43
      go_wp2_with fail
      all_goals go_ret
      all_goals exact ⟨rfl, Below.refl _ _⟩
    · have hn := headOk_pos h0 hg
      clear hg
      obtain ⟨n1, n2, n3⟩ := hn
      go_enter Tryd.func43, Tryd.ntmps43
      go_wp2_with (first | (go_at_call 85; refine (HC _).mono ?_; rintro e w' ⟨rfl, hb⟩))
      go_ret
      exact ⟨rfl, by (repeat (first | exact Below.refl _ _ | assumption | refine below_alloc ?_ _ | refine Below.drew ?_ | refine below_drewN ?_ _ | refine below_tr ?_ (by assumption)))⟩
  · have hne := toList_nil (s := s) (by omega)
    rw [headOk_empty h0]
    go_enter Tryd.func43, Tryd.ntmps43
    go_wp2
    go_ret
    exact ⟨rfl, Below.refl _ _⟩

def okC (c : UInt8) : Bool := (decide (97 ≤ (c.toNat : Int)) && decide ((c.toNat : Int) ≤ 122)) || (decide (48 ≤ (c.toNat : Int)) && decide ((c.toNat : Int) ≤ 57)) || ((c.toNat : Int) == 95)
def okFrom (s : ByteArray) (k : Nat) : Bool := if h : k < s.size then (if okC s[k] then okFrom s (k + 1) else false) else true
  termination_by s.size - k
def nameR (s : ByteArray) : Bool := headOk s && okFrom s 0

set_option maxHeartbeats 4000000 in
theorem rname_any (s : ByteArray) (w : World) (hs : s.size ≤ maxLen) : Calls Tryd.prog 44 #[.string s] w fun e w' => e = .returned (.bool (nameR s)) ∧ w = w' := by
  unfold maxLen at hs
  rw [nameR]
  by_cases h0 : 0 < s.size
  · have hne := toList_ne h0
    cases hg : headOk s
    · have hn := headOk_neg h0 hg
      clear hg
      go_enter Tryd.func44, Tryd.ntmps44
      go_wp2_with fail
      all_goals go_ret
      all_goals exact ⟨rfl, rfl⟩
    · have hn := headOk_pos h0 hg
      clear hg
      obtain ⟨n1, n2, n3⟩ := hn
      go_enter Tryd.func44, Tryd.ntmps44
      go_wp2
      go_loop [3] (fun i => ∃ k : Nat, k ≤ s.size ∧ i = .int .i64 k ∧ okFrom s k = okFrom s 0) (fun i => s.size - (intOf i).toNat)
      case atStart => exact ⟨0, Nat.zero_le _, rfl, rfl⟩
      case round =>
        obtain ⟨k, hk, rfl, hz⟩ := hrel
        have HZ := Lib.hid hz; clear hz
        by_cases hlt : k < s.size
        · have hstep : okFrom s k = (if okC s[k] then okFrom s (k + 1) else false) := by rw [okFrom, dif_pos hlt]
          have HS := Lib.hid hstep; clear hstep
          have HC : Hid (okC s[k] = ((decide (97 ≤ (s[k].toNat : Int)) && decide ((s[k].toNat : Int) ≤ 122)) || (decide (48 ≤ (s[k].toNat : Int)) && decide ((s[k].toNat : Int) ≤ 57)) || ((s[k].toNat : Int) == 95))) := Lib.hid rfl
          cases h1 : decide (97 ≤ (s[k].toNat : Int)) <;> cases h2 : decide ((s[k].toNat : Int) ≤ 122) <;> cases h3 : decide (48 ≤ (s[k].toNat : Int)) <;> cases h4 : decide ((s[k].toNat : Int) ≤ 57) <;> cases h5 : ((s[k].toNat : Int) == 95)
          all_goals first
            | (exfalso; clear HC HS HZ; simp only [decide_eq_true_eq, decide_eq_false_iff_not, beq_iff_eq, beq_eq_false_iff_ne, ne_eq] at h1 h2 h3 h4 h5; omega)
            | (have HT : okC s[k] = true := by rw [HC.out, h1, h2, h3, h4, h5]; rfl
               have HT' := Lib.hid HT; clear HT HC
               go_wp2
               go_round
               case rel => exact ⟨k + 1, by omega, by go_num, by rw [← HZ.out, HS.out, HT'.out]; rfl⟩
               case measure => (first | (simp [intOf]; done) | (simp [intOf]; omega)))
            | (have HT : okC s[k] = false := by rw [HC.out, h1, h2, h3, h4, h5]; rfl
               have HT' := Lib.hid HT; clear HT HC
               go_wp2
               go_ret
               exact ⟨ret_b (by rw [← HZ.out, HS.out, HT'.out]; rfl), rfl⟩)
        · go_wp2
          go_ret
          exact ⟨ret_b (by rw [← HZ.out, okFrom, dif_neg hlt]; first | done | rfl), rfl⟩
  · have hne := toList_nil (s := s) (by omega)
    rw [headOk_empty h0]
    go_enter Tryd.func44, Tryd.ntmps44
    go_wp2
    go_ret
    exact ⟨rfl, rfl⟩

def strE (s : ByteArray) : Bool := s.toList.isEmpty
def goodB (t p c : ByteArray) : Bool := nameB t && !strE p && decide (p.size ≤ 64) && (strE c || nameB c)
def goodR (t p c : ByteArray) : Bool := nameR t && decide (1 ≤ p.size) && decide (p.size ≤ 64) && (strE c || nameR c)

theorem good_any (t p c : ByteArray) (r : Int) (w : World) (ht : t.size ≤ maxLen) (hp : p.size ≤ maxLen) (hc : c.size ≤ maxLen) :
    Calls Tryd.prog 41 #[.agg #[.string t, .string p, .int .i64 r, .string c]] w fun e w' => e = .returned (.bool (goodB t p c)) ∧ Below w.heap.size w w' := by
  have HN := fun W => name_any t W ht
  have HM := fun W => name_any c W hc
  unfold maxLen at hp
  unfold goodB
  generalize nameB t = bt at *
  generalize nameB c = bc at *
  cases bt <;> cases bc
  all_goals
    go_enter Tryd.func41, Tryd.ntmps41
    go_wp2_with (first | (go_at_call_of 43 t; refine (HN _).mono ?_; rintro e w' ⟨rfl, hb⟩; obtain ⟨hc1, hf1⟩ := bcell hb) | (go_at_call_of 43 c; refine (HM _).mono ?_; rintro e w2 ⟨rfl, hb2⟩; obtain ⟨hc2, hf2⟩ := bcell hb2))
    all_goals go_ret
    all_goals refine ⟨ret_b ?_, by (repeat (first | exact Below.refl _ _ | assumption | refine below_alloc ?_ _ | refine Below.drew ?_ | refine below_drewN ?_ _ | refine below_tr ?_ (by assumption)))⟩
    all_goals ((try unfold strE); first | rfl | (simp [*]; done) | (simp [*]; omega) | grind)

theorem rgood_any (t p c : ByteArray) (r : Int) (w : World) (ht : t.size ≤ maxLen) (hp : p.size ≤ maxLen) (hc : c.size ≤ maxLen) :
    Calls Tryd.prog 42 #[.agg #[.string t, .string p, .int .i64 r, .string c]] w fun e w' => e = .returned (.bool (goodR t p c)) ∧ Below w.heap.size w w' := by
  have HN := fun W => rname_any t W ht
  have HM := fun W => rname_any c W hc
  unfold maxLen at hp
  unfold goodR
  generalize nameR t = bt at *
  generalize nameR c = bc at *
  cases bt <;> cases bc
  all_goals
    go_enter Tryd.func42, Tryd.ntmps42
    go_wp2_with (first | (go_at_call_of 44 t; refine (HN _).mono ?_; rintro e w' ⟨rfl, rfl⟩) | (go_at_call_of 44 c; refine (HM _).mono ?_; rintro e w2 ⟨rfl, rfl⟩))
    all_goals go_ret
    all_goals refine ⟨ret_b ?_, by (repeat (first | exact Below.refl _ _ | assumption | refine below_alloc ?_ _ | refine Below.drew ?_ | refine below_drewN ?_ _ | refine below_tr ?_ (by assumption)))⟩
    all_goals ((try unfold strE); first | rfl | (simp [*]; done) | (simp [*]; omega) | grind)

theorem row_any (t p c : ByteArray) (r : Int) (w : World) :
    Calls Tryd.prog 45 #[.agg #[.string t, .string p, .int .i64 r, .string c]] w fun e w' => e = .returned (.agg #[.string t, .string p, .int .i64 r, .string ⟨#[]⟩]) ∧ Below w.heap.size w w' := by
  go_enter Tryd.func45, Tryd.ntmps45
  go_wp2
  exact bodyPost_ret (v := .agg #[.string t, .string p, .int .i64 r, .string ⟨#[]⟩]) (by simp [results, Tryd.results45, go_sem]) rfl ⟨rfl, by (repeat (first | exact Below.refl _ _ | assumption | refine below_alloc ?_ _ | refine Below.drew ?_ | refine below_drewN ?_ _ | refine below_tr ?_ (by assumption)))⟩

end Go.Proofs.YtkmcjainbhmbdaaDoor
