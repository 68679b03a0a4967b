/- Contract of the disk's Good. Condition: room. -/
import Derived.Test.YtefndmjimmbhnaaZ00
import Derived.Lib.ConvBytes
import Derived.Lib.SmallJoins
section
set_option linter.unusedVariables false
set_option linter.unusedSimpArgs false
set_option maxRecDepth 20000
namespace Go.Proofs.Ytefndmjimmbhnaa
open Go.RowKit

def letterI (c : Int) : Bool := decide (97 ≤ c) && decide (c ≤ 122)
def otherI (c : Int) : Bool := (decide (48 ≤ c) && decide (c ≤ 57)) || c == 45 || c == 46
def byteI (s : ByteArray) (k : Nat) : Int := ((s.data.toList.getD k 0).toNat : Int)
def placeB (s : ByteArray) (k : Nat) : Bool := letterI (byteI s k) || (k != 0 && otherI (byteI s k))
def diskNameB (s : ByteArray) : Bool := decide (s.size ≠ 0) && decide (s.size ≤ 40) && (List.range s.size).all (placeB s)

theorem goodOther_any (c : Int) (w : World) : Calls Try.prog 69 #[.int .u8 c] w fun e w' => e = .returned (.bool (otherI c)) ∧ w = w' := by
  go_enter Try.func69, Try.ntmps69
  by_cases h1 : 48 ≤ c
  · by_cases h2 : c ≤ 57
    · go_wp2
      go_ret
      exact ⟨ret_b (by unfold otherI; simp [h1, h2]), rfl⟩
    · have f1 : (c == 45) = false := by rw [beq_eq_false_iff_ne]; omega
      have f2 : (c == 46) = false := by rw [beq_eq_false_iff_ne]; omega
      go_wp2
      go_ret
      exact ⟨ret_b (by unfold otherI; rw [f1, f2, decide_eq_false (by omega : ¬ c ≤ 57)]; simp), rfl⟩
  · by_cases h2 : c = 45
    · subst h2
      go_wp2
      go_ret
      exact ⟨ret_b (by decide), rfl⟩
    · have f1 : (c == 45) = false := by rw [beq_eq_false_iff_ne]; omega
      go_wp2
      go_ret
      exact ⟨ret_b (by unfold otherI; rw [f1, decide_eq_false (by omega : ¬ 48 ≤ c)]; simp), rfl⟩

theorem all_take (s : ByteArray) (k : Nat) : (List.range (k + 1)).all (placeB s) = ((List.range k).all (placeB s) && placeB s k) := by
  rw [List.range_succ, List.all_append]; simp

set_option maxHeartbeats 2000000 in
theorem diskGood_any (s : ByteArray) (hs : s.size ≤ 140737488351232) (w : World) : Calls Try.prog 45 #[.string s] w fun e w' => e = .returned (.bool (diskNameB s)) ∧ Below w.heap.size w w' := by
  have HO := fun c W => goodOther_any c W
  have HO' := Lib.hid HO; clear HO
  go_enter Try.func45, Try.ntmps45
  by_cases h0 : s.size = 0
  · have e : diskNameB s = false := by unfold diskNameB; simp [h0]
    rw [e]; clear e
    go_wp2_with fail
    go_ret
    exact ⟨rfl, Below.refl _ _⟩
  · by_cases h1 : 40 < s.size
    · have e : diskNameB s = false := by unfold diskNameB; rw [decide_eq_false (by omega : ¬ s.size ≤ 40)]; simp
      rw [e]; clear e
      go_wp2_with fail
      go_ret
      exact ⟨rfl, Below.refl _ _⟩
    · have e : diskNameB s = (List.range s.size).all (placeB s) := by unfold diskNameB; rw [decide_eq_true (by omega : s.size ≤ 40), decide_eq_true h0]; simp
      rw [e]
      have E := Lib.hid e; clear e
      have hcv := Lib.run_convert_string_bytes (P := Try.prog) w 9 69 5 s Try.underlying9 Try.underlying69 Try.underlying5
      have hbw := Joins.below_bytesWorld w.heap.size w 5 s (Nat.le_refl _)
      have hcl := fun j hj => Lib.bytesWorld_cell w 5 s j hj
      generalize Lib.bytesWorld w 5 s = W1 at *
      generalize grownCap w s.size 0 5 = cp at *
      generalize w.heap.size = gb at *
      have HCL := Lib.hid hcl; clear hcl
      have HBW := Lib.hid hbw; clear hbw
      have z0 : ((s.size : Int) == 0) = false := by rw [beq_eq_false_iff_ne]; omega
      have z1 : (s.size : Int) ≤ 40 := by omega
      go_wp2_with fail
      clear hcv
      go_loopw [17] (fun i wr => ∃ k : Nat, k ≤ s.size ∧ i = .int .i64 k ∧ wr = W1 ∧ (List.range k).all (placeB s) = true) (fun i _ => s.size - (intOf i).toNat)
      case atStart => exact ⟨0, by omega, rfl, rfl, rfl⟩
      case round =>
        obtain ⟨k, hk, rfl, rfl, hall⟩ := hrel
        have HALL := Lib.hid hall; clear hall
        by_cases hlt : k < s.size
        · have hc := HCL.out k hlt
          have hst := all_take s k
          rw [HALL.out, Bool.true_and] at hst
          have hpl : placeB s k = (letterI (byteI s k) || (k != 0 && otherI (byteI s k))) := rfl
          have hbI : byteI s k = ((s.data.toList.getD k 0).toNat : Int) := rfl
          rw [← hbI] at hc
          have hr0 : 0 ≤ byteI s k := by unfold byteI; omega
          have hr1 : byteI s k < 256 := by unfold byteI; have := (s.data.toList.getD k 0).toNat_lt; omega
          have HOk := fun W => HO'.out (byteI s k) W
          clear hbI
          have HST := Lib.hid hst; clear hst
          have HPL := Lib.hid hpl; clear hpl
          have HX := Lib.hid (fun h : placeB s k = false => show (List.range s.size).all (placeB s) = false from by
            rw [List.all_eq_false]; exact ⟨k, by simpa using hlt, by simp [h]⟩)
          generalize byteI s k = x at *
          have HOk' := Lib.hid HOk; clear HOk
          by_cases l1 : 97 ≤ x ∧ x ≤ 122
          · obtain ⟨l1, l2⟩ := l1
            have hp : placeB s k = true := by rw [HPL.out]; unfold letterI; simp [l1, l2]
            have HP := Lib.hid hp; clear hp
            go_wp2_with fail
            go_roundw
            case rel => exact ⟨k + 1, by omega, by go_num, trivial, by rw [HST.out]; exact HP.out⟩
            case measure => (first | (simp [intOf]; done) | (simp [intOf]; omega))
          · have hl : letterI x = false := by
              unfold letterI; rw [Bool.eq_false_iff]; intro hh; apply l1; simpa using hh
            have HL := Lib.hid hl; clear hl
            by_cases q1 : x < 97
            · by_cases k0 : k = 0
              · subst k0
                have hp : placeB s 0 = false := by rw [HPL.out, HL.out]; rfl
                have HP := Lib.hid hp; clear hp
                go_wp2_with fail
                go_ret
                exact ⟨ret_b (HX.out HP.out).symm, HBW.out⟩
              · have hk0 : ((k : Int) == 0) = false := by rw [beq_eq_false_iff_ne]; omega
                have hkn : (k != 0) = true := by simpa using k0
                have hp : placeB s k = otherI x := by rw [HPL.out, HL.out, hkn]; simp
                clear hkn
                have HP := Lib.hid hp; clear hp
                go_wp2_with fail
                refine (HOk'.out _).mono ?_
                rintro e w2 ⟨rfl, rfl⟩
                rcases ho : otherI x with _ | _
                · have HOO := Lib.hid ho; clear ho
                  go_wp2_with fail
                  go_ret
                  exact ⟨ret_b (HX.out (HP.out.trans HOO.out)).symm, HBW.out⟩
                · have HOO := Lib.hid ho; clear ho
                  go_wp2_with fail
                  go_roundw
                  case rel => exact ⟨k + 1, by omega, by go_num, trivial, by rw [HST.out, HP.out]; exact HOO.out⟩
                  case measure => (first | (simp [intOf]; done) | (simp [intOf]; omega))
            · have q2 : 122 < x := by omega
              by_cases k0 : k = 0
              · subst k0
                have hp : placeB s 0 = false := by rw [HPL.out, HL.out]; rfl
                have HP := Lib.hid hp; clear hp
                go_wp2_with fail
                go_ret
                exact ⟨ret_b (HX.out HP.out).symm, HBW.out⟩
              · have hk0 : ((k : Int) == 0) = false := by rw [beq_eq_false_iff_ne]; omega
                have hkn : (k != 0) = true := by simpa using k0
                have hp : placeB s k = otherI x := by rw [HPL.out, HL.out, hkn]; simp
                clear hkn
                have HP := Lib.hid hp; clear hp
                go_wp2_with fail
                refine (HOk'.out _).mono ?_
                rintro e w2 ⟨rfl, rfl⟩
                rcases ho : otherI x with _ | _
                · have HOO := Lib.hid ho; clear ho
                  go_wp2_with fail
                  go_ret
                  exact ⟨ret_b (HX.out (HP.out.trans HOO.out)).symm, HBW.out⟩
                · have HOO := Lib.hid ho; clear ho
                  go_wp2_with fail
                  go_roundw
                  case rel => exact ⟨k + 1, by omega, by go_num, trivial, by rw [HST.out, HP.out]; exact HOO.out⟩
                  case measure => (first | (simp [intOf]; done) | (simp [intOf]; omega))
        · obtain rfl : k = s.size := by omega
          go_wp2_with fail
          go_ret
          exact ⟨ret_b HALL.out.symm, HBW.out⟩
end Go.Proofs.Ytefndmjimmbhnaa
end
