/- Slices of bytes that a call is handed: what they hold, what a part of them is; and the plain law of a text within bytes. No condition. Contracts of the library's RotateLeft64 (at the turns that murmur makes) and of murmur's word. Conditions: the numbers are of uint64; at most a million bytes. Contracts of murmur's Sum. Conditions: at most a million bytes; the seed is of uint64. -/
import Derived.Test.YtplghaoflmaadaaGreatDoorZ00
import Derived.Laws.Slices
import Derived.Deep.RegionLawGrows
import Derived.Deep.RegionWith
import Derived.Deep.RegionLaw
section
set_option linter.unusedVariables false
set_option linter.unusedSimpArgs false
set_option maxRecDepth 20000
namespace Go.Proofs.YtplghaoflmaadaaGreatDoor
open Go.RowKit

/-- The slice value v holds the bytes l, in old memory (blocks under B). -/
structure SlB (B : Nat) (W : World) (v : Value) (l : List UInt8) : Prop where
  ex : ∃ a c, v = .slice a l.length c ∧ l.length ≤ c ∧ (0 < l.length → ∃ g o, a = some ⟨g, o, none⟩ ∧ g < B ∧ ∀ j (h : j < l.length), W.cell? ⟨g, o + j, none⟩ = some (.int .u8 (l[j].toNat : Int)))

theorem SlB.below {B : Nat} {w w1 : World} {v : Value} {l : List UInt8} (h : SlB B w v l) (hb : Below B w w1) : SlB B w1 v l := by
  obtain ⟨a, c, e, hc, hx⟩ := h.ex
  refine ⟨a, c, e, hc, fun h0 => ?_⟩
  obtain ⟨g, o, ea, hg, hcell⟩ := hx h0
  exact ⟨g, o, ea, hg, fun j hj => by rw [hb.cell (p := ⟨g, o + j, none⟩) hg]; exact hcell j hj⟩
theorem SlB.nil (B : Nat) (W : World) (c : Nat) : SlB B W (.slice none 0 c) [] := ⟨none, c, rfl, by simp, fun h => absurd h (by simp)⟩

theorem OwnB.slB {W : World} {base : Nat} {v : Value} {l : List UInt8} (h : OwnB W base v l) : SlB W.heap.size W v l := by
  have hlt := World.ownsRow.lt h
  rcases h.2 with ⟨rfl, h0⟩ | ⟨g, cap, cur, rfl, hg, hh, hn, hc⟩
  · obtain rfl : l = [] := List.eq_nil_of_length_eq_zero h0
    exact SlB.nil _ _ _
  · refine ⟨some ⟨g, 0, none⟩, cap, rfl, hn, fun _ => ⟨g, 0, rfl, (hlt g rfl).2, fun j hj => ?_⟩⟩
    have := World.ownsRow.cells h (g := g) rfl j (.int .u8 (l[j].toNat : Int)) (by rw [bcells_get, List.getElem?_eq_getElem hj]; rfl)
    rwa [show (⟨g, 0, none⟩ : Addr).add j = ⟨g, 0 + j, none⟩ by unfold Addr.add; split <;> simp_all] at this
theorem SlB.up {B B' : Nat} {w : World} {v : Value} {l : List UInt8} (h : SlB B w v l) (hB : B ≤ B') : SlB B' w v l := by
  obtain ⟨a, c, e, hc, hx⟩ := h.ex
  refine ⟨a, c, e, hc, fun h0 => ?_⟩
  obtain ⟨g, o, ea, hg, hcell⟩ := hx h0
  exact ⟨g, o, ea, by omega, hcell⟩
theorem SlB.keep {w w1 : World} {v : Value} {l : List UInt8} (h : SlB w.heap.size w v l) (hb : Below w.heap.size w w1) : SlB w1.heap.size w1 v l := (h.below hb).up hb.size
/-- append(s, t...), t bytes in memory, nil or not. -/
theorem run_append_nil_any (W : World) (base : Nat) (v : Value) (l : List UInt8) (hO : OwnB W base v l) (c : Nat) (ty : TypeId) : (Builtin.append_ #[29, 29] ty #[v, .slice none 0 c]).run Tryz.prog W = .ok v W := by
  obtain ⟨i0, hi, hz0, hz1, hz2⟩ := info_parts infoByte
  rcases hO.2 with ⟨rfl, h0⟩ | ⟨g, cap, cur, rfl, _, _, hnc, _⟩
  · obtain rfl : l = [] := List.eq_nil_of_length_eq_zero h0
    simp [Builtin.append_, run_underlying Tryz.underlying29, sizeOf, typeInfo, hi, Builtin.lenOf, Builtin.firstCells]
  · simp [Builtin.append_, run_underlying Tryz.underlying29, sizeOf, typeInfo, hi, Builtin.lenOf, Builtin.firstCells, hnc, storeCells]
theorem ap_sl {ops : Array Oper} {rest : List Oper} {o : Oper} {a : Act} {Q : Exit → Act → World → Prop} {W w0 : World} (hgd : o.guard = none) (s x : Operand) (ho : o.op = .call { callee := .builtin .append, args := #[s, x], argTypes := #[29, 29] })
    (base : Nat) (v : Value) (l : List UInt8) (B : Nat) (v2 : Value) (l2 : List UInt8) (hs : a.eval s = v) (hx : a.eval x = v2) (HV : SlB B W v2 l2) (HO : OwnB W base v l) (HB : Below base w0 W) (hbase : base ≤ W.heap.size) (hl : l.length + l2.length ≤ 140737488355328)
    (h : ∀ v1 w1, OwnB w1 base v1 (l ++ l2) → Below base w0 w1 → base ≤ w1.heap.size → W.grownBy w1 v.ownBlock → wpList Tryz.prog ops Q rest (a.put o.dst v1) w1) : wpList Tryz.prog ops Q (o :: rest) a W := by
  obtain ⟨ad, c, rfl, hc, hcell⟩ := HV.ex
  by_cases h0 : l2 = []
  · subst h0
    rcases ad with _ | ad
    · refine wpList_plain hgd fun K hK => ?_
      have hrun := run_append_nil_any W base v l HO c o.type
      unfold Oper.wp
      simp only [execOp, ho, resolve, invoke, builtin, Sem.run_bind, Sem.run_pure, Result.andThen_ok, List.map_toArray, List.map_cons, List.map_nil, hs, hx, List.length_nil, hrun]
      exact hK _ _ (h v W (by rw [List.append_nil]; exact HO) HB hbase (World.grownBy.refl W _))
    · exact ap_bytes hgd s x ho base v l [] ad 0 c hs hx rfl (fun j u hj => by simp [bcells] at hj) HO HB hbase hl h
  · obtain ⟨g, o', rfl, hg, hcc⟩ := hcell (List.length_pos_iff.2 h0)
    refine ap_bytes hgd s x ho base v l l2 ⟨g, o', none⟩ l2.length c hs hx rfl (fun j u hj => ?_) HO HB hbase hl h
    rw [bcells_get] at hj
    by_cases hjl : j < l2.length
    · rw [List.getElem?_eq_getElem hjl] at hj
      injection hj with hj
      subst hj
      have := hcc j hjl
      have e : (⟨g, o', none⟩ : Addr).add j = ⟨g, o' + j, none⟩ := by unfold Addr.add; split <;> simp_all
      rw [e]; exact this
    · rw [List.getElem?_eq_none (by omega)] at hj; cases hj
theorem elemByte : Tryz.prog.elem 29 = 5 := by kernel_rfl
theorem undByte : Tryz.prog.underlying 29 = some (.slice (Tryz.prog.elem 29)) := by rw [elemByte]; exact Tryz.underlying29
theorem sizeByte (w : World) : (Go.sizeOf (Tryz.prog.elem 29)).run Tryz.prog w = .ok 1 w := by rw [elemByte]; simp [go_sem]

theorem st_grow {ops : Array Oper} {o : Oper} {a : Act} {K : Act → World → Prop} {Q : Exit → Act → World → Prop} {W : World} {E : Prop} (hgd : o.guard = none) (s x : Operand) (ho : o.op = .call { callee := .builtin .append, args := #[s, x], argTypes := #[29, 29] })
    (ad : Addr) (B : Nat) (v2 : Value) (l2 : List UInt8) (hs : a.eval s = .slice (some ad) 0 0) (hx : a.eval x = v2) (HV : SlB B W v2 l2) (h0 : 0 < l2.length) (hl : l2.length ≤ 140737488355328)
    (h : ∀ v1 w1, OwnB w1 W.heap.size v1 l2 → W.grownBy w1 none → K (a.put o.dst v1) w1) : if Region.wanted o (yielded ops a.tmps) = true then Oper.wp Tryz.prog o a W K Q else E := by
  obtain ⟨i0, hi, hz0, hz1, hz2⟩ := info_parts infoByte
  obtain ⟨ad2, c, rfl, hc, hcell⟩ := HV.ex
  obtain ⟨g, o', rfl, hg, hcc⟩ := hcell h0
  refine step_append_grows hgd s x 29 ho 5 i0 _ 1 1 Tryz.underlying29 hi hz0 hz1 hz2 rfl (by decide) (some ad) 0 0 [] hs (fun e => by cases e) rfl (fun b _ j u hj => by simp at hj)
    ⟨g, o', none⟩ l2.length c (bcells l2) hx (by rw [bcells_length]; omega) (fun j u hj => ?_) (bcells_one l2) (by omega) (by unfold maxLen; omega) (by omega) (fun v1 w1 hO hgr => ?_)
  · rw [bcells_get] at hj
    by_cases hjl : j < l2.length
    · rw [List.getElem?_eq_getElem hjl] at hj
      injection hj with hj
      subst hj
      have := hcc j hjl
      have e : (⟨g, o', none⟩ : Addr).add j = ⟨g, o' + j, none⟩ := by unfold Addr.add; split <;> simp_all
      rw [e]; exact this
    · rw [List.getElem?_eq_none (by omega)] at hj; cases hj
  · refine h v1 w1 ?_ hgr
    unfold OwnB
    rw [Nat.zero_add, List.nil_append] at hO
    exact hO
theorem st_sl {ops : Array Oper} {o : Oper} {a : Act} {K : Act → World → Prop} {Q : Exit → Act → World → Prop} {W : World} {E : Prop} (hgd : o.guard = none) (s x : Operand) (ho : o.op = .call { callee := .builtin .append, args := #[s, x], argTypes := #[29, 29] })
    (base : Nat) (v : Value) (l : List UInt8) (B : Nat) (v2 : Value) (l2 : List UInt8) (hs : a.eval s = v) (hx : a.eval x = v2) (HV : SlB B W v2 l2) (HO : OwnB W base v l) (hbase : base ≤ W.heap.size) (hl : l.length + l2.length ≤ 140737488355328)
    (h : ∀ v1 w1, OwnB w1 base v1 (l ++ l2) → W.grownBy w1 v.ownBlock → K (a.put o.dst v1) w1) : if Region.wanted o (yielded ops a.tmps) = true then Oper.wp Tryz.prog o a W K Q else E := by
  have hw : Region.wanted o (yielded ops a.tmps) = true := by simp [Region.wanted, hgd]
  rw [if_pos hw]
  obtain ⟨ad, c, rfl, hc, hcell⟩ := HV.ex
  have main : ∃ v1 w1, (Builtin.append_ #[29, 29] o.type #[v, .slice ad l2.length c]).run Tryz.prog W = .ok v1 w1 ∧ OwnB w1 base v1 (l ++ l2) ∧ W.grownBy w1 v.ownBlock := by
    obtain ⟨i0, hi, hz0, hz1, hz2⟩ := info_parts infoByte
    have go : ∀ (b : Addr), ad = some b → (∀ j u, (bcells l2)[j]? = some u → W.cell? (b.add j) = some u) → ∃ v1 w1, (Builtin.append_ #[29, 29] o.type #[v, .slice ad l2.length c]).run Tryz.prog W = .ok v1 w1 ∧ OwnB w1 base v1 (l ++ l2) ∧ W.grownBy w1 v.ownBlock := by
      rintro b rfl hcc
      obtain ⟨v1, w1, hr, hO, hg, _⟩ := run_append_own_at (P := Tryz.prog) (w := W) base 29 o.type 5 i0 _ 1 1 Tryz.underlying29 hi hz0 hz1 hz2 rfl (by decide) v l.length (bcells l) HO b l2.length c (bcells l2) (by rw [bcells_length]; omega) hcc (bcells_one l2) (by unfold maxLen; omega) (by omega) hbase
      refine ⟨v1, w1, hr, ?_, hg⟩
      unfold OwnB
      rw [List.length_append, bcells_append]
      exact hO
    by_cases h0 : l2 = []
    · subst h0
      rcases ad with _ | b
      · exact ⟨v, W, run_append_nil_any W base v l HO c o.type, by rw [List.append_nil]; exact HO, World.grownBy.refl W _⟩
      · exact go b rfl (fun j u hj => by simp [bcells] at hj)
    · obtain ⟨g, o', rfl, hg, hcc⟩ := hcell (List.length_pos_iff.2 h0)
      refine go _ rfl (fun j u hj => ?_)
      rw [bcells_get] at hj
      by_cases hjl : j < l2.length
      · rw [List.getElem?_eq_getElem hjl] at hj
        injection hj with hj
        subst hj
        have := hcc j hjl
        have e : (⟨g, o', none⟩ : Addr).add j = ⟨g, o' + j, none⟩ := by unfold Addr.add; split <;> simp_all
        rw [e]; exact this
      · rw [List.getElem?_eq_none (by omega)] at hj; cases hj
  obtain ⟨v1, w1, hr, hO, hg⟩ := main
  unfold Oper.wp
  simp only [execOp, ho, resolve, invoke, builtin, Sem.run_bind, Sem.run_pure, Result.andThen_ok, List.map_toArray, List.map_cons, List.map_nil, hs, hx, hr]
  exact h v1 w1 hO hg
/-- 'v[k:]', k within. -/
def cutV : Value → Nat → Value
  | .slice a n c, k => .slice (if c = k then a else a.map (·.add k)) (n - k) (c - k)
  | v, _ => v
theorem SlB.cut {B : Nat} {w : World} {v : Value} {l : List UInt8} (h : SlB B w v l) (k : Nat) (hk : k ≤ l.length) : SlB B w (cutV v k) (l.drop k) := by
  obtain ⟨a, c, rfl, hc, hx⟩ := h.ex
  refine ⟨if c = k then a else a.map (·.add k), c - k, by rw [List.length_drop]; rfl, by rw [List.length_drop]; omega, fun h0 => ?_⟩
  rw [List.length_drop] at h0
  obtain ⟨g, o, rfl, hg, hcell⟩ := hx (by omega)
  refine ⟨g, o + k, ?_, hg, fun j hj => ?_⟩
  · rw [if_neg (by omega)]
    simp only [Option.map_some, Addr.add]
    split <;> simp_all
  · rw [List.length_drop] at hj
    rw [Nat.add_assoc, hcell (k + j) (by omega)]
    simp [List.getElem_drop]
theorem SlB.cut_run {B : Nat} {w : World} {v : Value} {l : List UInt8} (h : SlB B w v l) (k : Nat) (hk : k ≤ l.length) (W : World) :
    (Instr.slice 29 v (some (.int .i64 (k : Int))) none none).run Tryz.prog W = .ok (cutV v k) W := by
  obtain ⟨a, c, rfl, hc, hx⟩ := h.ex
  rw [run_slice_l W _ _ _ _ undByte .i64 _ (by omega) (by omega), sizeByte]
  simp [Result.andThen, sliced, cutV]
/-- 'v[i:i+1]' as a text. -/
theorem SlB.one_run {g o n c i : Nat} (hi : i < c) (W : World) :
    (Instr.slice 29 (.slice (some ⟨g, o, none⟩) n c) (some (.int .i64 (i : Int))) (some (.int .i64 ((i : Int) + 1))) none).run Tryz.prog W = .ok (.slice (some ⟨g, o + i, none⟩) 1 (c - i)) W := by
  rw [run_slice_lh W _ _ _ _ undByte .i64 .i64 _ _ (by omega) (by omega) (by omega), sizeByte]
  have e : ((i : Int) + 1).toNat = i + 1 := by omega
  have hne : ¬ c = i := by omega
  simp only [Result.andThen, sliced, e, Int.toNat_natCast, Nat.mul_one, if_neg hne, Option.map_some, Nat.add_sub_cancel_left, Addr.add]
  split <;> simp_all

/-- A text with noughts told apart, and what stands behind it. -/
def takeT (acc : List UInt8) : List UInt8 → Option (List UInt8 × List UInt8)
  | x :: y :: r => if x ≠ 0 then takeT (acc ++ [x]) (y :: r) else if y = 0 then some (acc, r) else if y ≠ 255 then none else takeT (acc ++ [0]) r
  | _ => none
  termination_by l => l.length

theorem takeT_short (acc l : List UInt8) (h : l.length ≤ 1) : takeT acc l = none := by
  match l, h with
  | [], _ => simp [takeT]
  | [_], _ => simp [takeT]
theorem takeT_byte (acc : List UInt8) (x y : UInt8) (r : List UInt8) (h : x ≠ 0) : takeT acc (x :: y :: r) = takeT (acc ++ [x]) (y :: r) := by rw [takeT, if_pos h]
theorem takeT_end (acc : List UInt8) (r : List UInt8) : takeT acc (0 :: 0 :: r) = some (acc, r) := by rw [takeT]; simp
theorem takeT_nought (acc : List UInt8) (r : List UInt8) : takeT acc (0 :: 255 :: r) = takeT (acc ++ [0]) r := by rw [takeT]; simp
theorem takeT_bad (acc : List UInt8) (y : UInt8) (r : List UInt8) (h0 : y ≠ 0) (h1 : y ≠ 255) : takeT acc (0 :: y :: r) = none := by rw [takeT]; simp [h0, h1]
theorem drop_two (l : List UInt8) (k : Nat) (h : k + 1 < l.length) : l.drop k = l[k] :: l[k + 1] :: l.drop (k + 2) := by
  rw [List.drop_eq_getElem_cons (by omega), List.drop_eq_getElem_cons (by omega)]
/-- What is taken is no longer than what there was. -/
theorem takeT_len : ∀ (n : Nat) (acc l t r : List UInt8), l.length ≤ n → takeT acc l = some (t, r) → t.length + r.length + 2 ≤ acc.length + l.length ∧ ∃ k, r = l.drop k ∧ k ≤ l.length := by
  intro n
  induction n with
  | zero => intro acc l t r hl h; rw [takeT_short _ _ (by omega)] at h; cases h
  | succ n ih =>
    intro acc l t r hl h
    match l with
    | [] => rw [takeT_short _ _ (by simp)] at h; cases h
    | [_] => rw [takeT_short _ _ (by simp)] at h; cases h
    | x :: y :: z =>
      rw [takeT] at h
      split at h
      · obtain ⟨h1, k, h2, h3⟩ := ih _ _ _ _ (by simp at hl ⊢; omega) h
        refine ⟨by simp at h1 ⊢; omega, k + 1, by rw [h2, List.drop_succ_cons], by simp at h3 ⊢; omega⟩
      · split at h
        · injection h with h; injection h with h1 h2; subst h1 h2
          exact ⟨by simp; omega, 2, rfl, by simp⟩
        · split at h
          · cases h
          · obtain ⟨h1, k, h2, h3⟩ := ih _ _ _ _ (by simp at hl ⊢; omega) h
            refine ⟨by simp at h1 ⊢; omega, k + 2, by rw [h2, List.drop_succ_cons, List.drop_succ_cons], by simp at h3 ⊢; omega⟩
end Go.Proofs.YtplghaoflmaadaaGreatDoor
end

section
set_option linter.unusedVariables false
set_option linter.unusedSimpArgs false
set_option maxRecDepth 20000
namespace Go.Proofs.YtplghaoflmaadaaGreatDoor
open Go.RowKit

def rotI (x : Int) (k : Nat) : Int := Go.bits .or .u64 (IntKind.u64.wrap (x * 2 ^ k)) (x / 2 ^ (64 - k))
theorem and63 (k : Nat) (h : k < 64) : Go.bits .and .u64 (k : Int) 63 = (k : Int) := by
  have key : ∀ k : Fin 64, Go.bits .and .u64 ((k.val : Nat) : Int) 63 = ((k.val : Nat) : Int) := by decide +kernel
  exact key ⟨k, h⟩
theorem bits64 (op : BinOp) (x y : Int) : 0 ≤ Go.bits op .u64 x y ∧ Go.bits op .u64 x y < 18446744073709551616 := by
  unfold Go.bits
  simp only [IntKind.wrap, IntKind.signed, IntKind.bits, Bool.false_and]
  constructor
  · simp; omega
  · simp; omega
theorem rot_any (x : Int) (k : Nat) (h0 : 0 ≤ x) (h1 : x < 18446744073709551616) (hk : k < 64) (w : World) :
    Calls Tryz.prog 143 #[.int .u64 x, .int .i64 (k : Int)] w fun e w' => e = .returned (.int .u64 (rotI x k)) ∧ w = w' := by
  have ha := and63 k hk
  go_enter Tryz.func143, Tryz.ntmps143
  go_wp2_with fail
  go_ret
  exact ⟨rfl, rfl⟩

/-- a number out of bytes, the lowest first -/
def leN (l : List UInt8) : Nat := l.foldr (fun b acc => acc * 256 + b.toNat) 0
theorem leN_cons (b : UInt8) (l : List UInt8) : leN (b :: l) = leN l * 256 + b.toNat := rfl
theorem leN_lt (l : List UInt8) : leN l < 256 ^ l.length := by
  induction l with
  | nil => simp [leN]
  | cons b l ih =>
    have := b.toNat_lt
    rw [leN_cons, List.length_cons, Nat.pow_succ]
    omega
theorem or_byte (u : Nat) (x : Nat) (hu : u < 72057594037927936) (hx : x < 256) : Go.bits .or .u64 ((u : Int) * 256) (x : Int) = ((u * 256 + x : Nat) : Int) := by
  have hw : ∀ n : Nat, n < 18446744073709551616 → IntKind.u64.wrap (n : Int) = n := fun n hn => by
    simp only [IntKind.wrap, IntKind.signed, IntKind.bits, Bool.false_and]
    simp; omega
  rw [show ((u : Int) * 256) = ((u * 256 : Nat) : Int) by omega]
  have e : (BitVec.ofInt 64 ((u * 256 : Nat) : Int) ||| BitVec.ofInt 64 (x : Int)).toNat = u * 256 + x := by
    rw [BitVec.toNat_or, BitVec.ofInt_natCast, BitVec.ofInt_natCast, BitVec.toNat_ofNat, BitVec.toNat_ofNat, Nat.mod_eq_of_lt (by omega), Nat.mod_eq_of_lt (by omega)]
    have := Nat.shiftLeft_add_eq_or_of_lt (b := x) (i := 8) (by omega) u
    rw [Nat.shiftLeft_eq] at this
    exact this.symm
  show IntKind.u64.wrap ((BitVec.ofInt 64 ((u * 256 : Nat) : Int) ||| BitVec.ofInt 64 (x : Int)).toNat : Int) = _
  rw [e, hw _ (by omega)]
set_option maxHeartbeats 1000000 in
theorem word_any (v : Value) (l : List UInt8) (B : Nat) (w : World) (hv : SlB B w v l) (hl : l.length ≤ 10000000) :
    Calls Tryz.prog 162 #[v] w fun e w' => e = .returned (.int .u64 (leN (l.take 8) : Int)) ∧ w = w' := by
  obtain ⟨a, c, rfl, hc, hx⟩ := hv.ex
  have HX := Lib.hid hx; clear hx hv
  have step : ∀ (m j : Nat), m ≤ 8 → m ≤ l.length → j < m → ∃ hj : j < l.length, leN ((l.take m).drop j) = leN ((l.take m).drop (j + 1)) * 256 + l[j].toNat ∧ leN ((l.take m).drop (j + 1)) < 72057594037927936 := by
    intro m j h8 hml hj
    have hlt : j < (l.take m).length := by rw [List.length_take]; omega
    refine ⟨by omega, ?_, ?_⟩
    · rw [List.drop_eq_getElem_cons hlt, leN_cons, List.getElem_take]
    · have h1 := leN_lt ((l.take m).drop (j + 1))
      have h2 : ((l.take m).drop (j + 1)).length ≤ 7 := by rw [List.length_drop, List.length_take]; omega
      have h3 : 256 ^ ((l.take m).drop (j + 1)).length ≤ 256 ^ 7 := Nat.pow_le_pow_right (by decide) h2
      have h4 : 256 ^ 7 = 72057594037927936 := rfl
      omega
  have STEP := Lib.hid step; clear step
  obtain ⟨m, hm8, hml, htk, hmm⟩ : ∃ m, m ≤ 8 ∧ m ≤ l.length ∧ l.take 8 = l.take m ∧ (m = l.length ∧ l.length ≤ 8 ∨ m = 8 ∧ 8 < l.length) := by
    by_cases h8 : l.length ≤ 8
    · exact ⟨l.length, h8, Nat.le_refl _, by rw [List.take_of_length_le h8, List.take_of_length_le (Nat.le_refl _)], .inl ⟨rfl, h8⟩⟩
    · exact ⟨8, Nat.le_refl _, by omega, rfl, .inr ⟨rfl, by omega⟩⟩
  rw [htk]
  clear htk
  rcases hmm with ⟨hm, hi⟩ | ⟨hm, hi⟩
  all_goals (
    have HM := Lib.hid hm
    clear hm
    go_enter Tryz.func162, Tryz.ntmps162
    go_wp2_with fail
    go_loopw [3, 4] (fun u i wr => ∃ j : Nat, j ≤ m ∧ i = .int .i64 ((j : Int) - 1) ∧ u = .int .u64 (leN ((l.take m).drop j) : Int) ∧ wr = w) (fun _ i _ => (intOf i + 1).toNat)
    case atStart => exact ⟨m, Nat.le_refl _, by first | (rw [HM.out]; done) | (rw [HM.out]; rfl), by rw [List.drop_of_length_le (by rw [List.length_take]; omega)]; rfl, rfl⟩
    case round =>
      obtain ⟨j, hj, rfl, rfl, rfl⟩ := hrel
      rcases j with _ | j
      · go_wp2_with fail
        go_ret
        exact ⟨rfl, rfl⟩
      · obtain ⟨hjl, hs, hb⟩ := STEP.out m j (by omega) (by omega) (by omega)
        obtain ⟨g, o, rfl, hg, hcell⟩ := HX.out (by omega)
        have hck := hcell j hjl
        have hxb := l[j].toNat_lt
        have ho := or_byte _ _ hb (by omega : l[j].toNat < 256)
        rw [← hs] at ho
        have HO := Lib.hid ho
        have hj2 : (j : Int) < (l.length : Int) := by omega
        clear hs ho hcell
        rw [show (((j + 1 : Nat) : Int) - 1) = (j : Int) by omega]
        generalize leN ((l.take m).drop (j + 1)) = u0 at *
        generalize l[j].toNat = x at *
        go_wp2_with fail
        go_roundw
        case rel => exact ⟨j, by omega, rfl, by rw [← HO.out], trivial⟩
        case measure => simp [intOf])

def mixI (k : Int) : Int :=
  let a := IntKind.u64.wrap (Go.bits .xor .u64 k (k / 8589934592) * 18397679294719823053)
  let b := IntKind.u64.wrap (Go.bits .xor .u64 a (a / 8589934592) * 14181476777654086739)
  Go.bits .xor .u64 b (b / 8589934592)
def lowI (l : List UInt8) : Int := IntKind.u64.wrap (rotI (IntKind.u64.wrap ((leN (l.take 8) : Int) * 9782798678568883157)) 31 * 5545529020109919103)
def highI (l : List UInt8) : Int := IntKind.u64.wrap (rotI (IntKind.u64.wrap ((leN (l.take 8) : Int) * 5545529020109919103)) 33 * 9782798678568883157)
theorem w64_range (x : Int) : 0 ≤ IntKind.u64.wrap x ∧ IntKind.u64.wrap x < 18446744073709551616 := by
  simp only [IntKind.wrap, IntKind.signed, IntKind.bits, Bool.false_and]
  constructor
  · simp; omega
  · simp; omega
set_option maxHeartbeats 1000000 in
theorem low_any (v : Value) (l : List UInt8) (B : Nat) (w : World) (hv : SlB B w v l) (hl : l.length ≤ 10000000) :
    Calls Tryz.prog 144 #[v] w fun e w' => e = .returned (.int .u64 (lowI l)) ∧ w = w' := by
  have W1 := Lib.hid (word_any v l B w hv hl)
  unfold lowI
  generalize leN (l.take 8) = u at *
  have hr := w64_range ((u : Int) * 9782798678568883157)
  have R1 := Lib.hid (rot_any _ 31 hr.1 hr.2 (by decide) w)
  clear hr
  go_enter Tryz.func144, Tryz.ntmps144
  go_wp2_with fail
  refine W1.out.mono ?_
  rintro e w1 ⟨rfl, rfl⟩
  go_wp2_with fail
  refine R1.out.mono ?_
  rintro e w1 ⟨rfl, rfl⟩
  go_wp2_with fail
  go_ret
  exact ⟨rfl, rfl⟩
set_option maxHeartbeats 1000000 in
theorem high_any (v : Value) (l : List UInt8) (B : Nat) (w : World) (hv : SlB B w v l) (hl : l.length ≤ 10000000) :
    Calls Tryz.prog 145 #[v] w fun e w' => e = .returned (.int .u64 (highI l)) ∧ w = w' := by
  have W1 := Lib.hid (word_any v l B w hv hl)
  unfold highI
  generalize leN (l.take 8) = u at *
  have hr := w64_range ((u : Int) * 5545529020109919103)
  have R1 := Lib.hid (rot_any _ 33 hr.1 hr.2 (by decide) w)
  clear hr
  go_enter Tryz.func145, Tryz.ntmps145
  go_wp2_with fail
  refine W1.out.mono ?_
  rintro e w1 ⟨rfl, rfl⟩
  go_wp2_with fail
  refine R1.out.mono ?_
  rintro e w1 ⟨rfl, rfl⟩
  go_wp2_with fail
  go_ret
  exact ⟨rfl, rfl⟩

set_option maxHeartbeats 1000000 in
theorem Mix_any (k : Int) (h0 : 0 ≤ k) (h1 : k < 18446744073709551616) (w : World) :
    Calls Tryz.prog 147 #[.int .u64 k] w fun e w' => e = .returned (.int .u64 (mixI k)) ∧ w = w' := by
  unfold mixI
  have ra := w64_range (Go.bits .xor .u64 k (k / 8589934592) * 18397679294719823053)
  have rb := w64_range (Go.bits .xor .u64 (IntKind.u64.wrap (Go.bits .xor .u64 k (k / 8589934592) * 18397679294719823053)) (IntKind.u64.wrap (Go.bits .xor .u64 k (k / 8589934592) * 18397679294719823053) / 8589934592) * 14181476777654086739)
  have i0 : ∀ w, (Instr.index 190 (.agg #[.int .u64 18397679294719823053, .int .u64 14181476777654086739]) (.int .i64 0)).run Tryz.prog w = .ok (.int .u64 18397679294719823053) w := fun _ => by kernel_rfl
  have i1 : ∀ w, (Instr.index 190 (.agg #[.int .u64 18397679294719823053, .int .u64 14181476777654086739]) (.int .i64 1)).run Tryz.prog w = .ok (.int .u64 14181476777654086739) w := fun _ => by kernel_rfl
  simp only
  generalize hb : IntKind.u64.wrap (Go.bits .xor .u64 (IntKind.u64.wrap (Go.bits .xor .u64 k (k / 8589934592) * 18397679294719823053)) (IntKind.u64.wrap (Go.bits .xor .u64 k (k / 8589934592) * 18397679294719823053) / 8589934592) * 14181476777654086739) = b at *
  generalize ha : IntKind.u64.wrap (Go.bits .xor .u64 k (k / 8589934592) * 18397679294719823053) = a at *
  have HA := Lib.hid ha; have HB := Lib.hid hb
  clear ha hb
  obtain ⟨ra0, ra1⟩ := ra
  obtain ⟨rb0, rb1⟩ := rb
  go_enter Tryz.func147, Tryz.ntmps147
  go_wp2_with fail
  go_loopw [0, 4, 6] (fun x _ i wr => wr = w ∧ ((i = .int .i64 0 ∧ x = .int .u64 k) ∨ (i = .int .i64 1 ∧ x = .int .u64 a) ∨ (i = .int .i64 2 ∧ x = .int .u64 b))) (fun _ _ i _ => (2 - intOf i).toNat)
  case atStart => exact ⟨rfl, .inl ⟨rfl, rfl⟩⟩
  case round =>
    obtain ⟨rfl, ⟨rfl, rfl⟩ | ⟨rfl, rfl⟩ | ⟨rfl, rfl⟩⟩ := hrel
    · go_wp2_with fail
      go_roundw
      case rel => exact ⟨trivial, .inr (.inl ⟨rfl, by rw [HA.out]⟩)⟩
      case measure => simp [intOf]
    · go_wp2_with fail
      go_roundw
      case rel => exact ⟨trivial, .inr (.inr ⟨rfl, by rw [HB.out]⟩)⟩
      case measure => simp [intOf]
    · go_wp2_with fail
      go_ret
      exact ⟨rfl, rfl⟩
end Go.Proofs.YtplghaoflmaadaaGreatDoor
end

section
set_option linter.unusedVariables false
set_option linter.unusedSimpArgs false
set_option maxRecDepth 20000
namespace Go.Proofs.YtplghaoflmaadaaGreatDoor
open Go.RowKit

/-- the sum's two variables -/
structure HG (gh gg : Nat) (W : World) (h g : Int) : Prop where
  h0 : W.cell? ⟨gh, 0, none⟩ = some (.int .u64 h)
  g0 : W.cell? ⟨gg, 0, none⟩ = some (.int .u64 g)
  fh : W.frozen? ⟨gh, 0, none⟩ = false
  fg : W.frozen? ⟨gg, 0, none⟩ = false
  hr : 0 ≤ h ∧ h < 18446744073709551616
  gr : 0 ≤ g ∧ g < 18446744073709551616
  hne : gh ≠ gg
theorem HG.put {gh gg : Nat} {W : World} {h g : Int} (hh : HG gh gg W h g) :
    (∀ x, 0 ≤ x → x < 18446744073709551616 → HG gh gg (W.setCell ⟨gh, 0, none⟩ (.int .u64 x)) x g) ∧ (∀ x, 0 ≤ x → x < 18446744073709551616 → HG gh gg (W.setCell ⟨gg, 0, none⟩ (.int .u64 x)) h x) := by
  obtain ⟨h0, g0, fh, fg, hr, gr, hne⟩ := hh
  have hne' : gg ≠ gh := fun e => hne e.symm
  refine ⟨fun x a b => ⟨?_, ?_, ?_, ?_, ⟨a, b⟩, gr, hne⟩, fun x a b => ⟨?_, ?_, ?_, ?_, hr, ⟨a, b⟩, hne⟩⟩ <;> go_simp
def AddPost (gh gg : Nat) (w : World) (h g : Int) (e : Ending) (w' : World) : Prop := e = .returned (.tuple #[]) ∧ HG gh gg w' h g ∧ But (Two gh gg) w w'
set_option maxHeartbeats 1000000 in
theorem add_any (gh gg : Nat) (h g : Int) (w : World) (hh : HG gh gg w h g) :
    Calls Tryz.prog 146 #[.pointer (some ⟨gh, 0, none⟩), .pointer (some ⟨gg, 0, none⟩)] w (AddPost gh gg w (IntKind.u64.wrap (h + g)) (IntKind.u64.wrap (g + IntKind.u64.wrap (h + g)))) := by
  have H1 := Lib.hid (hh.put.1 (IntKind.u64.wrap (h + g)) (w64_range _).1 (w64_range _).2)
  have H2 := Lib.hid (H1.out.put.2 (IntKind.u64.wrap (g + IntKind.u64.wrap (h + g))) (w64_range _).1 (w64_range _).2)
  obtain ⟨h0, g0, fh, fg, _, _, hne⟩ := hh
  have hne' : gg ≠ gh := fun e => hne e.symm
  go_enter Tryz.func146, Tryz.ntmps146
  go_wp2_with fail
  go_end0
  exact ⟨rfl, H2.out, ((But.refl _ w).setCell (p := ⟨gh, 0, none⟩) (.inl rfl) _).setCell (p := ⟨gg, 0, none⟩) (.inr rfl) _⟩

/-! the blocks of sixteen bytes -/
def mmStep (h g : Int) (b : List UInt8) : Int × Int :=
  let h' := IntKind.u64.wrap (IntKind.u64.wrap (IntKind.u64.wrap (rotI (Go.bits .xor .u64 h (lowI b)) 27 + g) * 5) + 1390208809)
  (h', IntKind.u64.wrap (IntKind.u64.wrap (IntKind.u64.wrap (rotI (Go.bits .xor .u64 g (highI (b.drop 8))) 31 + h') * 5) + 944331445))
def mmLoop : Nat → Int → Int → List UInt8 → Int × Int × List UInt8
  | 0, h, g, b => (h, g, b)
  | n + 1, h, g, b => if b.length < 16 then (h, g, b) else mmLoop n (mmStep h g b).1 (mmStep h g b).2 (b.drop 16)
theorem mmLoop_stop (n : Nat) (h g : Int) (b : List UInt8) (hb : b.length < 16) : mmLoop n h g b = (h, g, b) := by
  cases n with
  | zero => rfl
  | succ n => simp only [mmLoop]; rw [if_pos hb]
theorem mmLoop_go (n : Nat) (h g : Int) (b : List UInt8) (hb : ¬ b.length < 16) : mmLoop (n + 1) h g b = mmLoop n (mmStep h g b).1 (mmStep h g b).2 (b.drop 16) := by
  simp only [mmLoop]; rw [if_neg hb]
def mmEnd (n : Int) (r : Int × Int × List UInt8) : Int × Int :=
  let g1 := if 8 < r.2.2.length then Go.bits .xor .u64 r.2.1 (highI (r.2.2.drop 8)) else r.2.1
  let h1 := if 0 < r.2.2.length then Go.bits .xor .u64 r.1 (lowI r.2.2) else r.1
  let h2 := Go.bits .xor .u64 h1 n
  let g2 := Go.bits .xor .u64 g1 n
  let h3 := IntKind.u64.wrap (h2 + g2)
  let g3 := IntKind.u64.wrap (g2 + h3)
  let h4 := mixI h3
  let g4 := mixI g3
  let h5 := IntKind.u64.wrap (h4 + g4)
  (h5, IntKind.u64.wrap (g4 + h5))
def mmSum (b : List UInt8) (seed : Int) : Int × Int := mmEnd (b.length : Int) (mmLoop b.length seed seed b)
end Go.Proofs.YtplghaoflmaadaaGreatDoor
end
