/- Contracts of what the disk's fault asks of names. Conditions: as told at each. -/
import Derived.Test.YtefndmjimmbhnaaZ28
import Derived.WideMake
section
set_option linter.unusedVariables false
set_option linter.unusedSimpArgs false
set_option maxRecDepth 20000
namespace Go.Proofs.Ytefndmjimmbhnaa
open Go.RowKit

theorem faultAsk_any (s : ByteArray) (hs : s.size ≤ 140737488351232) (w : World) : Calls Try.prog 44 #[.string s] w fun e w' => e = .returned (.bool (!diskNameB s)) ∧ Below w.heap.size w w' := by
  have H := diskGood_any s hs w
  generalize diskNameB s = b at *
  have H' := Lib.hid H; clear H
  go_enter Try.func44, Try.ntmps44
  go_wp2_with fail
  refine H'.out.mono ?_
  rintro e w1 ⟨rfl, hb⟩
  go_wp2_with fail
  go_ret
  exact ⟨rfl, hb⟩

/-- The names that a call asks for. -/
structure Names (W : World) (v : Value) (xs : List ByteArray) : Prop where
  ex : ∃ g c, v = .slice (some ⟨g, 0, none⟩) xs.length c ∧ ∀ j (h : j < xs.length), W.cell? ⟨g, j, none⟩ = some (.string xs[j])
theorem Names.below {W W1 : World} {v : Value} {xs : List ByteArray} (h : Names W v xs) (hb : Below W.heap.size W W1) : Names W1 v xs := by
  obtain ⟨g, c, e, hc⟩ := h.ex
  exact ⟨g, c, e, fun j hj => cell_keep hb (hc j hj)⟩

set_option maxHeartbeats 1000000 in
theorem askIndex_any (v : Value) (xs : List ByteArray) (hl : xs.length ≤ 1000) (hs : ∀ x ∈ xs, x.size ≤ 140737488351232) (w : World) (hv : Names w v xs) :
    Calls Try.prog 68 #[v, .func (.func 44) #[] #[]] w fun e w' => (∃ z : Int, e = .returned (.int .i64 z) ∧ decide (0 ≤ z) = xs.any (fun x => !diskNameB x)) ∧ Below w.heap.size w w' := by
  have HV := Lib.hid hv
  obtain ⟨g, c, rfl, hc⟩ := hv.ex
  have HC := Lib.hid hc; clear hc hv
  have HF := Lib.hid (fun x (h : x ∈ xs) W => faultAsk_any x (hs x h) W)
  clear hs
  go_enter Try.func68, Try.ntmps68
  go_wp2
  go_loopw [8, 5] (fun i x wr => ∃ k : Nat, k ≤ xs.length ∧ i = .int .i64 k ∧ Below w.heap.size w wr ∧ (xs.take k).any (fun x => !diskNameB x) = false) (fun i _ _ => xs.length - (intOf i).toNat)
  case atStart => exact ⟨0, by omega, rfl, Below.refl _ _, rfl⟩
  case round =>
    obtain ⟨k, hk, rfl, hB, hno⟩ := hrel
    have HNO := Lib.hid hno; clear hno
    by_cases hlt : k < xs.length
    · have hcell := cell_keep hB (HC.out k hlt)
      have HFk := Lib.hid (fun W => HF.out xs[k] (List.getElem_mem hlt) W)
      have htk : (xs.take (k + 1)).any (fun x => !diskNameB x) = ((xs.take k).any (fun x => !diskNameB x) || !diskNameB xs[k]) := by
        rw [take_snoc _ _ _ (List.getElem?_eq_getElem hlt), List.any_append]; simp
      rw [HNO.out, Bool.false_or] at htk
      have HTK := Lib.hid htk; clear htk
      have HB := Lib.hid hB; clear hB
      go_wp2_with fail
      refine (HFk.out _).mono ?_
      rintro e w2 ⟨rfl, hb2⟩
      rcases hd : diskNameB xs[k] with _ | _
      · have HD := Lib.hid hd; clear hd
        have n1 : (!false) = true := rfl
        go_wp2_with fail
        go_ret
        refine ⟨⟨_, rfl, ?_⟩, below_tr HB.out hb2⟩
        rw [decide_eq_true (by omega : (0 : Int) ≤ (k : Int))]
        exact (List.any_eq_true.2 ⟨xs[k], List.getElem_mem hlt, by rw [HD.out]; rfl⟩).symm
      · have HD := Lib.hid hd; clear hd
        go_wp2_with fail
        go_roundw
        case rel => exact ⟨k + 1, by omega, by go_num, below_tr HB.out hb2, by rw [HTK.out, HD.out]; rfl⟩
        case measure => (first | (simp [intOf]; done) | (simp [intOf]; omega))
    · have e : xs.take k = xs := List.take_of_length_le (by omega)
      rw [e] at HNO
      go_wp2_with fail
      go_ret
      exact ⟨⟨_, rfl, by rw [HNO.out]; rfl⟩, hB⟩

theorem ask_any (v : Value) (xs : List ByteArray) (hl : xs.length ≤ 1000) (hs : ∀ x ∈ xs, x.size ≤ 140737488351232) (w : World) (hv : Names w v xs) :
    Calls Try.prog 43 #[v, .func (.func 44) #[] #[]] w fun e w' => e = .returned (.bool (xs.any (fun x => !diskNameB x))) ∧ Below w.heap.size w w' := by
  have H := askIndex_any v xs hl hs w hv
  obtain ⟨g, c, rfl, hc⟩ := hv.ex
  generalize xs.any (fun x => !diskNameB x) = b at *
  have H' := Lib.hid H; clear H hc hs hv
  go_enter Try.func43, Try.ntmps43
  go_wp2_with fail
  refine H'.out.mono ?_
  rintro e w1 ⟨⟨z, rfl, hz⟩, hb⟩
  go_wp2_with fail
  go_ret
  exact ⟨by first | exact ret_b hz | rfl, hb⟩
end Go.Proofs.Ytefndmjimmbhnaa
end
