/- Slices of bytes that a call is handed: what they hold, what a part of them is; and the plain law of a text within bytes. No condition. -/
import Derived.Test.YtkmcjainbhmbdaaDoorMem
import Derived.Laws.Slices
set_option linter.unusedVariables false
set_option linter.unusedSimpArgs false
namespace Go.Proofs.YtkmcjainbhmbdaaDoor
open Go.RowKit

/-- The slice value v holds the bytes l, in old memory (blocks under B). -/
structure SlB (B : Nat) (W : World) (v : Value) (l : List UInt8) : Prop where
  ex : ∃ a c, v = .slice a l.length c ∧ l.length ≤ c ∧ (0 < l.length → ∃ g o, a = some ⟨g, o, none⟩ ∧ g < B ∧ ∀ j (h : j < l.length), W.cell? ⟨g, o + j, none⟩ = some (.int .u8 (l[j].toNat : Int)))

theorem SlB.below {B : Nat} {w w1 : World} {v : Value} {l : List UInt8} (h : SlB B w v l) (hb : Below B w w1) : SlB B w1 v l := by
  obtain ⟨a, c, e, hc, hx⟩ := h.ex
  refine ⟨a, c, e, hc, fun h0 => ?_⟩
  obtain ⟨g, o, ea, hg, hcell⟩ := hx h0
  exact ⟨g, o, ea, hg, fun j hj => by rw [hb.cell (p := ⟨g, o + j, none⟩) hg]; exact hcell j hj⟩
theorem SlB.nil (B : Nat) (W : World) (c : Nat) : SlB B W (.slice none 0 c) [] := ⟨none, c, rfl, by simp, fun h => absurd h (by simp)⟩

theorem elemByte : Tryd.prog.elem 25 = 5 := by kernel_rfl
theorem undByte : Tryd.prog.underlying 25 = some (.slice (Tryd.prog.elem 25)) := by rw [elemByte]; exact Tryd.underlying25
theorem sizeByte (w : World) : (Go.sizeOf (Tryd.prog.elem 25)).run Tryd.prog w = .ok 1 w := by rw [elemByte]; simp [go_sem]

/-- 'v[k:]', k within. -/
def cutV : Value → Nat → Value
  | .slice a n c, k => .slice (if c = k then a else a.map (·.add k)) (n - k) (c - k)
  | v, _ => v
theorem SlB.cut {B : Nat} {w : World} {v : Value} {l : List UInt8} (h : SlB B w v l) (k : Nat) (hk : k ≤ l.length) : SlB B w (cutV v k) (l.drop k) := by
  obtain ⟨a, c, rfl, hc, hx⟩ := h.ex
  refine ⟨if c = k then a else a.map (·.add k), c - k, by rw [List.length_drop]; rfl, by rw [List.length_drop]; omega, fun h0 => ?_⟩
  rw [List.length_drop] at h0
  obtain ⟨g, o, rfl, hg, hcell⟩ := hx (by omega)
  refine ⟨g, o + k, ?_, hg, fun j hj => ?_⟩
  · rw [if_neg (by omega)]
    simp only [Option.map_some, Addr.add]
    split <;> simp_all
  · rw [List.length_drop] at hj
    rw [Nat.add_assoc, hcell (k + j) (by omega)]
    simp [List.getElem_drop]
theorem SlB.cut_run {B : Nat} {w : World} {v : Value} {l : List UInt8} (h : SlB B w v l) (k : Nat) (hk : k ≤ l.length) (W : World) :
    (Instr.slice 25 v (some (.int .i64 (k : Int))) none none).run Tryd.prog W = .ok (cutV v k) W := by
  obtain ⟨a, c, rfl, hc, hx⟩ := h.ex
  rw [run_slice_l W _ _ _ _ undByte .i64 _ (by omega) (by omega), sizeByte]
  simp [Result.andThen, sliced, cutV]
/-- 'v[i:i+1]' as a text. -/
theorem SlB.one_run {g o n c i : Nat} (hi : i < c) (W : World) :
    (Instr.slice 25 (.slice (some ⟨g, o, none⟩) n c) (some (.int .i64 (i : Int))) (some (.int .i64 ((i : Int) + 1))) none).run Tryd.prog W = .ok (.slice (some ⟨g, o + i, none⟩) 1 (c - i)) W := by
  rw [run_slice_lh W _ _ _ _ undByte .i64 .i64 _ _ (by omega) (by omega) (by omega), sizeByte]
  have e : ((i : Int) + 1).toNat = i + 1 := by omega
  have hne : ¬ c = i := by omega
  simp only [Result.andThen, sliced, e, Int.toNat_natCast, Nat.mul_one, if_neg hne, Option.map_some, Nat.add_sub_cancel_left, Addr.add]
  split <;> simp_all

/-- A text with noughts told apart, and what stands behind it. -/
def takeT (acc : List UInt8) : List UInt8 → Option (List UInt8 × List UInt8)
  | x :: y :: r => if x ≠ 0 then takeT (acc ++ [x]) (y :: r) else if y = 0 then some (acc, r) else if y ≠ 255 then none else takeT (acc ++ [0]) r
  | _ => none
  termination_by l => l.length

theorem takeT_short (acc l : List UInt8) (h : l.length ≤ 1) : takeT acc l = none := by
  match l, h with
  | [], _ => simp [takeT]
  | [_], _ => simp [takeT]
theorem takeT_byte (acc : List UInt8) (x y : UInt8) (r : List UInt8) (h : x ≠ 0) : takeT acc (x :: y :: r) = takeT (acc ++ [x]) (y :: r) := by rw [takeT, if_pos h]
theorem takeT_end (acc : List UInt8) (r : List UInt8) : takeT acc (0 :: 0 :: r) = some (acc, r) := by rw [takeT]; simp
theorem takeT_nought (acc : List UInt8) (r : List UInt8) : takeT acc (0 :: 255 :: r) = takeT (acc ++ [0]) r := by rw [takeT]; simp
theorem takeT_bad (acc : List UInt8) (y : UInt8) (r : List UInt8) (h0 : y ≠ 0) (h1 : y ≠ 255) : takeT acc (0 :: y :: r) = none := by rw [takeT]; simp [h0, h1]
theorem drop_two (l : List UInt8) (k : Nat) (h : k + 1 < l.length) : l.drop k = l[k] :: l[k + 1] :: l.drop (k + 2) := by
  rw [List.drop_eq_getElem_cons (by omega), List.drop_eq_getElem_cons (by omega)]
/-- What is taken is no longer than what there was. -/
theorem takeT_len : ∀ (n : Nat) (acc l t r : List UInt8), l.length ≤ n → takeT acc l = some (t, r) → t.length + r.length + 2 ≤ acc.length + l.length ∧ ∃ k, r = l.drop k ∧ k ≤ l.length := by
  intro n
  induction n with
  | zero => intro acc l t r hl h; rw [takeT_short _ _ (by omega)] at h; cases h
  | succ n ih =>
    intro acc l t r hl h
    match l with
    | [] => rw [takeT_short _ _ (by simp)] at h; cases h
    | [_] => rw [takeT_short _ _ (by simp)] at h; cases h
    | x :: y :: z =>
      rw [takeT] at h
      split at h
      · obtain ⟨h1, k, h2, h3⟩ := ih _ _ _ _ (by simp at hl ⊢; omega) h
        refine ⟨by simp at h1 ⊢; omega, k + 1, by rw [h2, List.drop_succ_cons], by simp at h3 ⊢; omega⟩
      · split at h
        · injection h with h; injection h with h1 h2; subst h1 h2
          exact ⟨by simp; omega, 2, rfl, by simp⟩
        · split at h
          · cases h
          · obtain ⟨h1, k, h2, h3⟩ := ih _ _ _ _ (by simp at hl ⊢; omega) h
            refine ⟨by simp at h1 ⊢; omega, k + 2, by rw [h2, List.drop_succ_cons, List.drop_succ_cons], by simp at h3 ⊢; omega⟩
end Go.Proofs.YtkmcjainbhmbdaaDoor
