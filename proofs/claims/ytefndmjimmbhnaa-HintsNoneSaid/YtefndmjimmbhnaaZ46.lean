/- Slices of bytes that a call is handed: what they hold, what a part of them is; and the plain law of a text within bytes. No condition. -/
import Derived.Test.YtefndmjimmbhnaaZ00
import Derived.Laws.Slices
import Derived.Deep.RegionLawGrows
section
set_option linter.unusedVariables false
set_option linter.unusedSimpArgs false
set_option maxRecDepth 20000
namespace Go.Proofs.Ytefndmjimmbhnaa
open Go.RowKit

/-- The slice value v holds the bytes l, in old memory (blocks under B). -/
structure SlB (B : Nat) (W : World) (v : Value) (l : List UInt8) : Prop where
  ex : ∃ a c, v = .slice a l.length c ∧ l.length ≤ c ∧ (0 < l.length → ∃ g o, a = some ⟨g, o, none⟩ ∧ g < B ∧ ∀ j (h : j < l.length), W.cell? ⟨g, o + j, none⟩ = some (.int .u8 (l[j].toNat : Int)))

theorem SlB.below {B : Nat} {w w1 : World} {v : Value} {l : List UInt8} (h : SlB B w v l) (hb : Below B w w1) : SlB B w1 v l := by
  obtain ⟨a, c, e, hc, hx⟩ := h.ex
  refine ⟨a, c, e, hc, fun h0 => ?_⟩
  obtain ⟨g, o, ea, hg, hcell⟩ := hx h0
  exact ⟨g, o, ea, hg, fun j hj => by rw [hb.cell (p := ⟨g, o + j, none⟩) hg]; exact hcell j hj⟩
theorem SlB.nil (B : Nat) (W : World) (c : Nat) : SlB B W (.slice none 0 c) [] := ⟨none, c, rfl, by simp, fun h => absurd h (by simp)⟩

theorem OwnB.slB {W : World} {base : Nat} {v : Value} {l : List UInt8} (h : OwnB W base v l) : SlB W.heap.size W v l := by
  have hlt := World.ownsRow.lt h
  rcases h.2 with ⟨rfl, h0⟩ | ⟨g, cap, cur, rfl, hg, hh, hn, hc⟩
  · obtain rfl : l = [] := List.eq_nil_of_length_eq_zero h0
    exact SlB.nil _ _ _
  · refine ⟨some ⟨g, 0, none⟩, cap, rfl, hn, fun _ => ⟨g, 0, rfl, (hlt g rfl).2, fun j hj => ?_⟩⟩
    have := World.ownsRow.cells h (g := g) rfl j (.int .u8 (l[j].toNat : Int)) (by rw [bcells_get, List.getElem?_eq_getElem hj]; rfl)
    rwa [show (⟨g, 0, none⟩ : Addr).add j = ⟨g, 0 + j, none⟩ by unfold Addr.add; split <;> simp_all] at this
theorem SlB.up {B B' : Nat} {w : World} {v : Value} {l : List UInt8} (h : SlB B w v l) (hB : B ≤ B') : SlB B' w v l := by
  obtain ⟨a, c, e, hc, hx⟩ := h.ex
  refine ⟨a, c, e, hc, fun h0 => ?_⟩
  obtain ⟨g, o, ea, hg, hcell⟩ := hx h0
  exact ⟨g, o, ea, by omega, hcell⟩
theorem SlB.keep {w w1 : World} {v : Value} {l : List UInt8} (h : SlB w.heap.size w v l) (hb : Below w.heap.size w w1) : SlB w1.heap.size w1 v l := (h.below hb).up hb.size
/-- append(s, t...), t bytes in memory, nil or not. -/
theorem run_append_nil_any (W : World) (base : Nat) (v : Value) (l : List UInt8) (hO : OwnB W base v l) (c : Nat) (ty : TypeId) : (Builtin.append_ #[69, 69] ty #[v, .slice none 0 c]).run Try.prog W = .ok v W := by
  obtain ⟨i0, hi, hz0, hz1, hz2⟩ := info_parts infoByte
  rcases hO.2 with ⟨rfl, h0⟩ | ⟨g, cap, cur, rfl, _, _, hnc, _⟩
  · obtain rfl : l = [] := List.eq_nil_of_length_eq_zero h0
    simp [Builtin.append_, run_underlying Try.underlying69, sizeOf, typeInfo, hi, Builtin.lenOf, Builtin.firstCells]
  · simp [Builtin.append_, run_underlying Try.underlying69, sizeOf, typeInfo, hi, Builtin.lenOf, Builtin.firstCells, hnc, storeCells]
theorem ap_sl {ops : Array Oper} {rest : List Oper} {o : Oper} {a : Act} {Q : Exit → Act → World → Prop} {W w0 : World} (hgd : o.guard = none) (s x : Operand) (ho : o.op = .call { callee := .builtin .append, args := #[s, x], argTypes := #[69, 69] })
    (base : Nat) (v : Value) (l : List UInt8) (B : Nat) (v2 : Value) (l2 : List UInt8) (hs : a.eval s = v) (hx : a.eval x = v2) (HV : SlB B W v2 l2) (HO : OwnB W base v l) (HB : Below base w0 W) (hbase : base ≤ W.heap.size) (hl : l.length + l2.length ≤ 140737488355328)
    (h : ∀ v1 w1, OwnB w1 base v1 (l ++ l2) → Below base w0 w1 → base ≤ w1.heap.size → W.grownBy w1 v.ownBlock → wpList Try.prog ops Q rest (a.put o.dst v1) w1) : wpList Try.prog ops Q (o :: rest) a W := by
  obtain ⟨ad, c, rfl, hc, hcell⟩ := HV.ex
  by_cases h0 : l2 = []
  · subst h0
    rcases ad with _ | ad
    · refine wpList_plain hgd fun K hK => ?_
      have hrun := run_append_nil_any W base v l HO c o.type
      unfold Oper.wp
      simp only [execOp, ho, resolve, invoke, builtin, Sem.run_bind, Sem.run_pure, Result.andThen_ok, List.map_toArray, List.map_cons, List.map_nil, hs, hx, List.length_nil, hrun]
      exact hK _ _ (h v W (by rw [List.append_nil]; exact HO) HB hbase (World.grownBy.refl W _))
    · exact ap_bytes hgd s x ho base v l [] ad 0 c hs hx rfl (fun j u hj => by simp [bcells] at hj) HO HB hbase hl h
  · obtain ⟨g, o', rfl, hg, hcc⟩ := hcell (List.length_pos_iff.2 h0)
    refine ap_bytes hgd s x ho base v l l2 ⟨g, o', none⟩ l2.length c hs hx rfl (fun j u hj => ?_) HO HB hbase hl h
    rw [bcells_get] at hj
    by_cases hjl : j < l2.length
    · rw [List.getElem?_eq_getElem hjl] at hj
      injection hj with hj
      subst hj
      have := hcc j hjl
      have e : (⟨g, o', none⟩ : Addr).add j = ⟨g, o' + j, none⟩ := by unfold Addr.add; split <;> simp_all
      rw [e]; exact this
    · rw [List.getElem?_eq_none (by omega)] at hj; cases hj
theorem elemByte : Try.prog.elem 69 = 5 := by kernel_rfl
theorem undByte : Try.prog.underlying 69 = some (.slice (Try.prog.elem 69)) := by rw [elemByte]; exact Try.underlying69
theorem sizeByte (w : World) : (Go.sizeOf (Try.prog.elem 69)).run Try.prog w = .ok 1 w := by rw [elemByte]; simp [go_sem]

theorem st_grow {ops : Array Oper} {o : Oper} {a : Act} {K : Act → World → Prop} {Q : Exit → Act → World → Prop} {W : World} {E : Prop} (hgd : o.guard = none) (s x : Operand) (ho : o.op = .call { callee := .builtin .append, args := #[s, x], argTypes := #[69, 69] })
    (ad : Addr) (B : Nat) (v2 : Value) (l2 : List UInt8) (hs : a.eval s = .slice (some ad) 0 0) (hx : a.eval x = v2) (HV : SlB B W v2 l2) (h0 : 0 < l2.length) (hl : l2.length ≤ 140737488355328)
    (h : ∀ v1 w1, OwnB w1 W.heap.size v1 l2 → W.grownBy w1 none → K (a.put o.dst v1) w1) : if Region.wanted o (yielded ops a.tmps) = true then Oper.wp Try.prog o a W K Q else E := by
  obtain ⟨i0, hi, hz0, hz1, hz2⟩ := info_parts infoByte
  obtain ⟨ad2, c, rfl, hc, hcell⟩ := HV.ex
  obtain ⟨g, o', rfl, hg, hcc⟩ := hcell h0
  refine step_append_grows hgd s x 69 ho 5 i0 _ 1 1 Try.underlying69 hi hz0 hz1 hz2 rfl (by decide) (some ad) 0 0 [] hs (fun e => by cases e) rfl (fun b _ j u hj => by simp at hj)
    ⟨g, o', none⟩ l2.length c (bcells l2) hx (by rw [bcells_length]; omega) (fun j u hj => ?_) (bcells_one l2) (by omega) (by unfold maxLen; omega) (by omega) (fun v1 w1 hO hgr => ?_)
  · rw [bcells_get] at hj
    by_cases hjl : j < l2.length
    · rw [List.getElem?_eq_getElem hjl] at hj
      injection hj with hj
      subst hj
      have := hcc j hjl
      have e : (⟨g, o', none⟩ : Addr).add j = ⟨g, o' + j, none⟩ := by unfold Addr.add; split <;> simp_all
      rw [e]; exact this
    · rw [List.getElem?_eq_none (by omega)] at hj; cases hj
  · refine h v1 w1 ?_ hgr
    unfold OwnB
    rw [Nat.zero_add, List.nil_append] at hO
    exact hO
theorem st_sl {ops : Array Oper} {o : Oper} {a : Act} {K : Act → World → Prop} {Q : Exit → Act → World → Prop} {W : World} {E : Prop} (hgd : o.guard = none) (s x : Operand) (ho : o.op = .call { callee := .builtin .append, args := #[s, x], argTypes := #[69, 69] })
    (base : Nat) (v : Value) (l : List UInt8) (B : Nat) (v2 : Value) (l2 : List UInt8) (hs : a.eval s = v) (hx : a.eval x = v2) (HV : SlB B W v2 l2) (HO : OwnB W base v l) (hbase : base ≤ W.heap.size) (hl : l.length + l2.length ≤ 140737488355328)
    (h : ∀ v1 w1, OwnB w1 base v1 (l ++ l2) → W.grownBy w1 v.ownBlock → K (a.put o.dst v1) w1) : if Region.wanted o (yielded ops a.tmps) = true then Oper.wp Try.prog o a W K Q else E := by
  have hw : Region.wanted o (yielded ops a.tmps) = true := by simp [Region.wanted, hgd]
  rw [if_pos hw]
  obtain ⟨ad, c, rfl, hc, hcell⟩ := HV.ex
  have main : ∃ v1 w1, (Builtin.append_ #[69, 69] o.type #[v, .slice ad l2.length c]).run Try.prog W = .ok v1 w1 ∧ OwnB w1 base v1 (l ++ l2) ∧ W.grownBy w1 v.ownBlock := by
    obtain ⟨i0, hi, hz0, hz1, hz2⟩ := info_parts infoByte
    have go : ∀ (b : Addr), ad = some b → (∀ j u, (bcells l2)[j]? = some u → W.cell? (b.add j) = some u) → ∃ v1 w1, (Builtin.append_ #[69, 69] o.type #[v, .slice ad l2.length c]).run Try.prog W = .ok v1 w1 ∧ OwnB w1 base v1 (l ++ l2) ∧ W.grownBy w1 v.ownBlock := by
      rintro b rfl hcc
      obtain ⟨v1, w1, hr, hO, hg, _⟩ := run_append_own_at (P := Try.prog) (w := W) base 69 o.type 5 i0 _ 1 1 Try.underlying69 hi hz0 hz1 hz2 rfl (by decide) v l.length (bcells l) HO b l2.length c (bcells l2) (by rw [bcells_length]; omega) hcc (bcells_one l2) (by unfold maxLen; omega) (by omega) hbase
      refine ⟨v1, w1, hr, ?_, hg⟩
      unfold OwnB
      rw [List.length_append, bcells_append]
      exact hO
    by_cases h0 : l2 = []
    · subst h0
      rcases ad with _ | b
      · exact ⟨v, W, run_append_nil_any W base v l HO c o.type, by rw [List.append_nil]; exact HO, World.grownBy.refl W _⟩
      · exact go b rfl (fun j u hj => by simp [bcells] at hj)
    · obtain ⟨g, o', rfl, hg, hcc⟩ := hcell (List.length_pos_iff.2 h0)
      refine go _ rfl (fun j u hj => ?_)
      rw [bcells_get] at hj
      by_cases hjl : j < l2.length
      · rw [List.getElem?_eq_getElem hjl] at hj
        injection hj with hj
        subst hj
        have := hcc j hjl
        have e : (⟨g, o', none⟩ : Addr).add j = ⟨g, o' + j, none⟩ := by unfold Addr.add; split <;> simp_all
        rw [e]; exact this
      · rw [List.getElem?_eq_none (by omega)] at hj; cases hj
  obtain ⟨v1, w1, hr, hO, hg⟩ := main
  unfold Oper.wp
  simp only [execOp, ho, resolve, invoke, builtin, Sem.run_bind, Sem.run_pure, Result.andThen_ok, List.map_toArray, List.map_cons, List.map_nil, hs, hx, hr]
  exact h v1 w1 hO hg
/-- 'v[k:]', k within. -/
def cutV : Value → Nat → Value
  | .slice a n c, k => .slice (if c = k then a else a.map (·.add k)) (n - k) (c - k)
  | v, _ => v
theorem SlB.cut {B : Nat} {w : World} {v : Value} {l : List UInt8} (h : SlB B w v l) (k : Nat) (hk : k ≤ l.length) : SlB B w (cutV v k) (l.drop k) := by
  obtain ⟨a, c, rfl, hc, hx⟩ := h.ex
  refine ⟨if c = k then a else a.map (·.add k), c - k, by rw [List.length_drop]; rfl, by rw [List.length_drop]; omega, fun h0 => ?_⟩
  rw [List.length_drop] at h0
  obtain ⟨g, o, rfl, hg, hcell⟩ := hx (by omega)
  refine ⟨g, o + k, ?_, hg, fun j hj => ?_⟩
  · rw [if_neg (by omega)]
    simp only [Option.map_some, Addr.add]
    split <;> simp_all
  · rw [List.length_drop] at hj
    rw [Nat.add_assoc, hcell (k + j) (by omega)]
    simp [List.getElem_drop]
theorem SlB.cut_run {B : Nat} {w : World} {v : Value} {l : List UInt8} (h : SlB B w v l) (k : Nat) (hk : k ≤ l.length) (W : World) :
    (Instr.slice 69 v (some (.int .i64 (k : Int))) none none).run Try.prog W = .ok (cutV v k) W := by
  obtain ⟨a, c, rfl, hc, hx⟩ := h.ex
  rw [run_slice_l W _ _ _ _ undByte .i64 _ (by omega) (by omega), sizeByte]
  simp [Result.andThen, sliced, cutV]
/-- 'v[i:i+1]' as a text. -/
theorem SlB.one_run {g o n c i : Nat} (hi : i < c) (W : World) :
    (Instr.slice 69 (.slice (some ⟨g, o, none⟩) n c) (some (.int .i64 (i : Int))) (some (.int .i64 ((i : Int) + 1))) none).run Try.prog W = .ok (.slice (some ⟨g, o + i, none⟩) 1 (c - i)) W := by
  rw [run_slice_lh W _ _ _ _ undByte .i64 .i64 _ _ (by omega) (by omega) (by omega), sizeByte]
  have e : ((i : Int) + 1).toNat = i + 1 := by omega
  have hne : ¬ c = i := by omega
  simp only [Result.andThen, sliced, e, Int.toNat_natCast, Nat.mul_one, if_neg hne, Option.map_some, Nat.add_sub_cancel_left, Addr.add]
  split <;> simp_all

/-- A text with noughts told apart, and what stands behind it. -/
def takeT (acc : List UInt8) : List UInt8 → Option (List UInt8 × List UInt8)
  | x :: y :: r => if x ≠ 0 then takeT (acc ++ [x]) (y :: r) else if y = 0 then some (acc, r) else if y ≠ 255 then none else takeT (acc ++ [0]) r
  | _ => none
  termination_by l => l.length

theorem takeT_short (acc l : List UInt8) (h : l.length ≤ 1) : takeT acc l = none := by
  match l, h with
  | [], _ => simp [takeT]
  | [_], _ => simp [takeT]
theorem takeT_byte (acc : List UInt8) (x y : UInt8) (r : List UInt8) (h : x ≠ 0) : takeT acc (x :: y :: r) = takeT (acc ++ [x]) (y :: r) := by rw [takeT, if_pos h]
theorem takeT_end (acc : List UInt8) (r : List UInt8) : takeT acc (0 :: 0 :: r) = some (acc, r) := by rw [takeT]; simp
theorem takeT_nought (acc : List UInt8) (r : List UInt8) : takeT acc (0 :: 255 :: r) = takeT (acc ++ [0]) r := by rw [takeT]; simp
theorem takeT_bad (acc : List UInt8) (y : UInt8) (r : List UInt8) (h0 : y ≠ 0) (h1 : y ≠ 255) : takeT acc (0 :: y :: r) = none := by rw [takeT]; simp [h0, h1]
theorem drop_two (l : List UInt8) (k : Nat) (h : k + 1 < l.length) : l.drop k = l[k] :: l[k + 1] :: l.drop (k + 2) := by
  rw [List.drop_eq_getElem_cons (by omega), List.drop_eq_getElem_cons (by omega)]
/-- What is taken is no longer than what there was. -/
theorem takeT_len : ∀ (n : Nat) (acc l t r : List UInt8), l.length ≤ n → takeT acc l = some (t, r) → t.length + r.length + 2 ≤ acc.length + l.length ∧ ∃ k, r = l.drop k ∧ k ≤ l.length := by
  intro n
  induction n with
  | zero => intro acc l t r hl h; rw [takeT_short _ _ (by omega)] at h; cases h
  | succ n ih =>
    intro acc l t r hl h
    match l with
    | [] => rw [takeT_short _ _ (by simp)] at h; cases h
    | [_] => rw [takeT_short _ _ (by simp)] at h; cases h
    | x :: y :: z =>
      rw [takeT] at h
      split at h
      · obtain ⟨h1, k, h2, h3⟩ := ih _ _ _ _ (by simp at hl ⊢; omega) h
        refine ⟨by simp at h1 ⊢; omega, k + 1, by rw [h2, List.drop_succ_cons], by simp at h3 ⊢; omega⟩
      · split at h
        · injection h with h; injection h with h1 h2; subst h1 h2
          exact ⟨by simp; omega, 2, rfl, by simp⟩
        · split at h
          · cases h
          · obtain ⟨h1, k, h2, h3⟩ := ih _ _ _ _ (by simp at hl ⊢; omega) h
            refine ⟨by simp at h1 ⊢; omega, k + 2, by rw [h2, List.drop_succ_cons, List.drop_succ_cons], by simp at h3 ⊢; omega⟩
end Go.Proofs.Ytefndmjimmbhnaa
end
