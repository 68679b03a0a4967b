/- Cells as values. They speak of the program's types alone; no condition. Plain laws of cells in bytes: signed numbers, texts, cells and lists of cells, both ways. They speak of no program; no condition. Contracts of the codec's Zig, Zag, text, PutText, GetText, Sum and of the reference's. Conditions: numbers of their kinds; lengths leave room. -/
import Derived.Test.YtefndmjimmbhnaaZ01
import Derived.Test.YtefndmjimmbhnaaZ00
import Derived.Test.YtefndmjimmbhnaaZ05
section
set_option linter.unusedVariables false
set_option linter.unusedSimpArgs false
set_option maxRecDepth 20000
namespace Go.Proofs.Ytefndmjimmbhnaa
open Go.RowKit Go.Sort

structure Ky where
  t : ByteArray
  p : ByteArray
  r : Int
  c : ByteArray
structure Vr where
  time : Int
  dead : Bool
  loc : Int
  kind : Int
  n : Int
  s : ByteArray
structure Cel where
  k : Ky
  v : Vr
def kyEnc (k : Ky) : List Value := [.string k.t, .string k.p, .int .i64 k.r, .string k.c]
def vrEnc (v : Vr) : List Value := [.int .i64 v.time, .bool v.dead, .int .i64 v.loc, .int .i64 v.kind, .int .i64 v.n, .string v.s]
def celEnc (c : Cel) : List Value := [.string c.k.t, .string c.k.p, .int .i64 c.k.r, .string c.k.c, .int .i64 c.v.time, .bool c.v.dead, .int .i64 c.v.loc, .int .i64 c.v.kind, .int .i64 c.v.n, .string c.v.s]
theorem celEnc_one : ∀ (x : Cel) (u : Value), u ∈ celEnc x → u.oneCell' = true := fun x u hu => by
  simp [celEnc] at hu
  rcases hu with rfl | rfl | rfl | rfl | rfl | rfl | rfl | rfl | rfl | rfl <;> rfl
def zCel : Value := .agg #[.string ⟨#[]⟩, .string ⟨#[]⟩, .int .i64 0, .string ⟨#[]⟩, .int .i64 0, .bool false, .int .i64 0, .int .i64 0, .int .i64 0, .string ⟨#[]⟩]
theorem infoCel : (Try.prog.info? 62).map (fun i => (i.zero, i.size, i.bytes)) = some (some zCel, 10, 112) := by kernel_rfl
/-- cells -/
def eC : El Cel := { st := 26, t := 62, size := 10, bytes := 112, z := zCel, enc := celEnc, len := fun _ => rfl, one := celEnc_one, info := infoCel, und := Try.underlying26, elem := by kernel_rfl, zs := by kernel_rfl, pos := by decide }

def In64 (n : Int) : Prop := -9223372036854775808 ≤ n ∧ n ≤ 9223372036854775807
end Go.Proofs.Ytefndmjimmbhnaa
end

section
set_option linter.unusedVariables false
set_option linter.unusedSimpArgs false
namespace Go.Proofs.Ytefndmjimmbhnaa

/-- a signed number without a sign -/
def zigN (n : Int) : Nat := if n < 0 then (2 * (-(n + 1)) + 1).toNat else (2 * n).toNat
def zagI (u : Nat) : Int := if u % 2 = 1 then -((u / 2 : Nat) : Int) - 1 else ((u / 2 : Nat) : Int)
theorem zag_zig (n : Int) : zagI (zigN n) = n := by
  unfold zagI zigN
  split <;> split <;> omega
theorem zigN_lt (n : Int) (h : In64 n) : zigN n < 18446744073709551616 := by
  unfold In64 at h; unfold zigN; split <;> omega
theorem zagI_in (u : Nat) (h : u < 18446744073709551616) : In64 (zagI u) := by
  unfold In64 zagI; split <;> omega
/-- an int as a number without a sign, and back -/
def u64N (n : Int) : Nat := (n % 18446744073709551616).toNat
theorem u64N_lt (n : Int) : u64N n < 18446744073709551616 := by unfold u64N; omega
def i64I (u : Nat) : Int := if u < 9223372036854775808 then (u : Int) else (u : Int) - 18446744073709551616
theorem i64_u64 (n : Int) (h : In64 n) : i64I (u64N n) = n := by unfold In64 at h; unfold i64I u64N; split <;> omega
theorem i64I_in (u : Nat) (h : u < 18446744073709551616) : In64 (i64I u) := by unfold In64 i64I; split <;> omega

/-- a text in bytes; one number, one text that bytes begin with, and what is left -/
def textL (s : List UInt8) : List UInt8 := putL s.length ++ s
def rdNum (l : List UInt8) : Option (Nat × List UInt8) := (getL 0 0 l).map fun p => (p.1, l.drop p.2)
def getT (l : List UInt8) : Option (List UInt8 × Nat) :=
  match getL 0 0 l with
  | none => none
  | some (n, k) => if n ≤ l.length - k then some ((l.drop k).take n, k + n) else none
def rdText (l : List UInt8) : Option (List UInt8 × List UInt8) := (getT l).map fun p => (p.1, l.drop p.2)
def rdInt (l : List UInt8) : Option (Int × List UInt8) := (rdNum l).map fun p => (zagI p.1, p.2)
/-- a byte 0 or 1 -/
def rdFlag : List UInt8 → Option (Bool × List UInt8)
  | [] => none
  | x :: r => if 1 < x.toNat then none else some (x.toNat == 1, r)
theorem get_put (u : Nat) (r : List UInt8) (h : u < 18446744073709551616) : getL 0 0 (putL u ++ r) = some (u, (putL u).length) := by
  rw [getL_put r u u 0 0 (Nat.le_refl _) (by omega) (by decide) (by omega)]
  simp
theorem rdNum_put (u : Nat) (r : List UInt8) (h : u < 18446744073709551616) : rdNum (putL u ++ r) = some (u, r) := by
  rw [rdNum, get_put u r h]; simp
theorem rdInt_zig (n : Int) (r : List UInt8) (h : In64 n) : rdInt (putL (zigN n) ++ r) = some (n, r) := by
  rw [rdInt, rdNum_put _ _ (zigN_lt n h)]; simp [zag_zig]
theorem rdText_text (s r : List UInt8) (h : s.length < 18446744073709551616) : rdText (textL s ++ r) = some (s, r) := by
  rw [rdText, getT, textL, List.append_assoc, get_put _ _ h]
  simp [List.drop_append]
theorem rdNum_len {l r : List UInt8} {u : Nat} (h : rdNum l = some (u, r)) : u < 18446744073709551616 ∧ r.length + 1 ≤ l.length ∧ ∃ k, 0 < k ∧ k ≤ l.length ∧ r = l.drop k := by
  rw [rdNum] at h
  cases e : getL 0 0 l with
  | none => rw [e] at h; simp at h
  | some p =>
    rw [e] at h; simp at h
    obtain ⟨h1, h2⟩ := h
    have := getL_bound l 0 0 p.1 p.2 (by decide) (by decide) (by rw [e])
    subst h1 h2
    refine ⟨this.1, by simp; omega, p.2, by omega, by omega, rfl⟩
theorem rdText_len {l r s : List UInt8} (h : rdText l = some (s, r)) : s.length + r.length + 1 ≤ l.length ∧ ∃ k, 0 < k ∧ k ≤ l.length ∧ r = l.drop k := by
  rw [rdText, getT] at h
  cases e : getL 0 0 l with
  | none => rw [e] at h; simp at h
  | some p =>
    obtain ⟨n, k⟩ := p
    rw [e] at h; simp at h
    have hb := getL_bound l 0 0 n k (by decide) (by decide) e
    obtain ⟨hn, h1, h2⟩ := h
    subst h1 h2
    refine ⟨by simp; omega, k + n, by omega, by omega, rfl⟩

/-- a cell in bytes -/
def verL (v : Vr) : List UInt8 := putL (zigN v.time) ++ (if v.dead = true then 1 :: putL (zigN v.loc) else 0 :: (putL (u64N v.kind) ++ putL (zigN v.n) ++ textL v.s.toList))
def cellL (c : Cel) : List UInt8 := textL c.k.t.toList ++ textL c.k.p.toList ++ putL (zigN c.k.r) ++ textL c.k.c.toList ++ verL c.v
def cellsL (l : List Cel) : List UInt8 := putL l.length ++ l.flatMap cellL
/-- one that bytes begin with -/
def rdVer (l : List UInt8) : Option (Vr × List UInt8) := do
  let (tm, l) ← rdInt l
  let (d, l) ← rdFlag l
  if d then
    let (lo, l) ← rdInt l
    return (⟨tm, true, lo, 0, 0, ⟨#[]⟩⟩, l)
  else
    let (k, l) ← rdNum l
    let (n, l) ← rdInt l
    let (s, l) ← rdText l
    return (⟨tm, false, 0, i64I k, n, ⟨s.toArray⟩⟩, l)
def rdCell (l : List UInt8) : Option (Cel × List UInt8) := do
  let (t, l) ← rdText l
  let (p, l) ← rdText l
  let (r, l) ← rdInt l
  let (c, l) ← rdText l
  let (v, l) ← rdVer l
  return (⟨⟨⟨t.toArray⟩, ⟨p.toArray⟩, r, ⟨c.toArray⟩⟩, v⟩, l)
def rdMany : Nat → List UInt8 → Option (List Cel × List UInt8)
  | 0, l => some ([], l)
  | n + 1, l => match rdCell l with
    | none => none
    | some (c, l) => (rdMany n l).map fun p => (c :: p.1, p.2)
def rdCells (l : List UInt8) : Option (List Cel) :=
  match rdNum l with
  | none => none
  | some (n, l) => match rdMany n l with
    | some (cs, []) => some cs
    | _ => none

/-- the cells that bytes tell again: no dead one has a value, no live one a Local -/
structure CelBy (c : Cel) : Prop where
  row : In64 c.k.r
  time : In64 c.v.time
  loc : In64 c.v.loc
  kind : In64 c.v.kind
  num : In64 c.v.n
  lt : c.k.t.toList.length < 1000000
  lp : c.k.p.toList.length < 1000000
  lc : c.k.c.toList.length < 1000000
  ls : c.v.s.toList.length < 1000000
  dead : c.v.dead = true → c.v.kind = 0 ∧ c.v.n = 0 ∧ c.v.s.toList = []
  live : c.v.dead = false → c.v.loc = 0
theorem ba_toList (s : ByteArray) : (⟨s.toList.toArray⟩ : ByteArray) = s := by
  rw [ByteArray.toList_eq]
theorem rdVer_ver (c : Cel) (r : List UInt8) (h : CelBy c) : rdVer (verL c.v ++ r) = some (c.v, r) := by
  obtain ⟨k, v⟩ := c
  obtain ⟨tm, d, lo, kd, n, s⟩ := v
  have := h.loc; have hT := h.time; have hK := h.kind; have hN := h.num; have hS := h.ls
  simp only at this hT hK hN hS
  cases d with
  | true =>
    obtain ⟨e1, e2, e3⟩ := h.dead rfl
    simp only at e1 e2 e3
    have e4 : s = ⟨#[]⟩ := by rw [← ba_toList s, e3]
    subst e1 e2 e4
    simp only [verL, if_true, List.append_assoc, rdVer, rdInt_zig _ _ hT, bind, Option.bind, List.cons_append]
    simp only [rdFlag, show (1 : UInt8).toNat = 1 from rfl, show ¬ (1 < 1) by decide, if_false, beq_self_eq_true, if_true, rdInt_zig _ _ this]
    rfl
  | false =>
    have e1 := h.live rfl
    simp only at e1
    subst e1
    simp only [verL, Bool.false_eq_true, if_false, List.append_assoc, rdVer, rdInt_zig _ _ hT, bind, Option.bind, List.cons_append]
    simp only [rdFlag, show (0 : UInt8).toNat = 0 from rfl, show ¬ (1 < 0) by decide, if_false, show ((0 : Nat) == 1) = false from rfl, Bool.false_eq_true, rdNum_put _ _ (u64N_lt kd), rdInt_zig _ _ hN, rdText_text _ _ (show s.toList.length < 18446744073709551616 by omega), i64_u64 _ hK, ba_toList]
    rfl
theorem rdCell_cell (c : Cel) (r : List UInt8) (h : CelBy c) : rdCell (cellL c ++ r) = some (c, r) := by
  have h1 := h.lt; have h2 := h.lp; have h3 := h.lc
  simp only [cellL, List.append_assoc, rdCell, rdText_text _ _ (show c.k.t.toList.length < 18446744073709551616 by omega), rdText_text _ _ (show c.k.p.toList.length < 18446744073709551616 by omega), rdText_text _ _ (show c.k.c.toList.length < 18446744073709551616 by omega), rdInt_zig _ _ h.row, rdVer_ver c r h, bind, Option.bind, ba_toList]
  rfl
theorem rdMany_cells : ∀ (l : List Cel) (r : List UInt8), (∀ c ∈ l, CelBy c) → rdMany l.length (l.flatMap cellL ++ r) = some (l, r)
  | [], r, _ => rfl
  | c :: l, r, h => by
    rw [List.length_cons, rdMany, List.flatMap_cons, List.append_assoc, rdCell_cell c _ (h c (List.mem_cons_self ..))]
    simp only [rdMany_cells l r (fun x hx => h x (List.mem_cons_of_mem _ hx)), Option.map_some]
theorem rdCells_cells (l : List Cel) (h : ∀ c ∈ l, CelBy c) (hl : l.length < 1000000) : rdCells (cellsL l) = some l := by
  rw [rdCells, cellsL, rdNum_put _ _ (by omega)]
  have := rdMany_cells l [] h
  rw [List.append_nil] at this
  simp only [this]
end Go.Proofs.Ytefndmjimmbhnaa
end

section
set_option linter.unusedVariables false
set_option linter.unusedSimpArgs false
set_option maxRecDepth 20000
namespace Go.Proofs.Ytefndmjimmbhnaa
open Go.RowKit

theorem wu64 (x : Int) : IntKind.u64.wrap x = x % 18446744073709551616 := by rw [IntKind.wrap_u64]
theorem xor64_0 (a : Nat) (h : a < 18446744073709551616) : Go.bits .xor .u64 (a : Int) 0 = (a : Int) := by
  show IntKind.wrap .u64 ((BitVec.ofInt 64 (a : Int) ^^^ BitVec.ofInt 64 0).toNat : Int) = _
  rw [show BitVec.ofInt 64 0 = 0#64 from by decide, BitVec.xor_zero, BitVec.ofInt_natCast, BitVec.toNat_ofNat, Nat.mod_eq_of_lt h, wu64]
  omega
theorem xor64_1 (a : Nat) (h : a < 18446744073709551616) : Go.bits .xor .u64 (a : Int) 18446744073709551615 = ((18446744073709551615 - a : Nat) : Int) := by
  have e : (BitVec.ofInt 64 (a : Int) ^^^ BitVec.ofInt 64 18446744073709551615).toNat = 18446744073709551615 - a := by
    rw [show BitVec.ofInt 64 18446744073709551615 = BitVec.allOnes 64 from by decide, BitVec.xor_allOnes, BitVec.toNat_not, BitVec.ofInt_natCast, BitVec.toNat_ofNat, Nat.mod_eq_of_lt (by omega)]
  show IntKind.wrap .u64 ((BitVec.ofInt 64 (a : Int) ^^^ BitVec.ofInt 64 18446744073709551615).toNat : Int) = _
  rw [e, wu64]
  omega
theorem zig_val (n : Int) (h : In64 n) : Go.bits .xor .u64 (IntKind.u64.wrap (IntKind.u64.wrap n * 2)) (IntKind.u64.wrap (n / 9223372036854775808)) = (zigN n : Int) := by
  unfold In64 at h
  by_cases h0 : n < 0
  · have e1 : IntKind.u64.wrap (n / 9223372036854775808) = 18446744073709551615 := by rw [wu64]; omega
    obtain ⟨a, ha⟩ : ∃ a : Nat, IntKind.u64.wrap (IntKind.u64.wrap n * 2) = a := ⟨(IntKind.u64.wrap (IntKind.u64.wrap n * 2)).toNat, by rw [wu64, wu64]; omega⟩
    rw [ha, e1, xor64_1 a (by rw [wu64, wu64] at ha; omega)]
    rw [wu64, wu64] at ha
    unfold zigN
    rw [if_pos h0]
    omega
  · have e1 : IntKind.u64.wrap (n / 9223372036854775808) = 0 := by rw [wu64]; omega
    obtain ⟨a, ha⟩ : ∃ a : Nat, IntKind.u64.wrap (IntKind.u64.wrap n * 2) = a := ⟨(IntKind.u64.wrap (IntKind.u64.wrap n * 2)).toNat, by rw [wu64, wu64]; omega⟩
    rw [ha, e1, xor64_0 a (by rw [wu64, wu64] at ha; omega)]
    rw [wu64, wu64] at ha
    unfold zigN
    rw [if_neg h0]
    omega
theorem and64_1 (u : Nat) (h : u < 18446744073709551616) : Go.bits .and .u64 (u : Int) 1 = ((u % 2 : Nat) : Int) := by
  have e : (BitVec.ofInt 64 (u : Int) &&& BitVec.ofInt 64 1).toNat = u % 2 := by
    rw [show BitVec.ofInt 64 1 = 1#64 from by decide, BitVec.toNat_and, BitVec.ofInt_natCast, BitVec.toNat_ofNat, Nat.mod_eq_of_lt (by omega)]
    exact Nat.and_one_is_mod u
  show IntKind.wrap .u64 ((BitVec.ofInt 64 (u : Int) &&& BitVec.ofInt 64 1).toNat : Int) = _
  rw [e, wu64]
  omega
theorem zag_val (u : Nat) (h : u < 18446744073709551616) : Go.bits .xor .i64 ((u : Int) / 2) (wrap64 (-wrap64 (Go.bits .and .u64 (u : Int) 1))) = zagI u := by
  rw [and64_1 u h]
  obtain ⟨a, ha⟩ : ∃ a : Nat, (u : Int) / 2 = a := ⟨u / 2, by omega⟩
  have hlt : a < 9223372036854775808 := by omega
  rcases Nat.mod_two_eq_zero_or_one u with h1 | h1
  · rw [h1, ha, show wrap64 (-wrap64 ((0 : Nat) : Int)) = 0 from by unfold wrap64; omega]
    show IntKind.wrap .i64 ((BitVec.ofInt 64 (a : Int) ^^^ BitVec.ofInt 64 0).toNat : Int) = _
    rw [show BitVec.ofInt 64 0 = 0#64 from by decide, BitVec.xor_zero, BitVec.ofInt_natCast, BitVec.toNat_ofNat, Nat.mod_eq_of_lt (by omega)]
    unfold zagI
    rw [if_neg (by omega)]
    rw [IntKind.wrap_i64]
    omega
  · rw [h1, ha, show wrap64 (-wrap64 ((1 : Nat) : Int)) = -1 from by unfold wrap64; omega]
    have e : (BitVec.ofInt 64 (a : Int) ^^^ BitVec.ofInt 64 (-1)).toNat = 18446744073709551615 - a := by
      rw [show BitVec.ofInt 64 (-1) = BitVec.allOnes 64 from by decide, BitVec.xor_allOnes, BitVec.toNat_not, BitVec.ofInt_natCast, BitVec.toNat_ofNat, Nat.mod_eq_of_lt (by omega)]
    show IntKind.wrap .i64 ((BitVec.ofInt 64 (a : Int) ^^^ BitVec.ofInt 64 (-1)).toNat : Int) = _
    rw [e]
    unfold zagI
    rw [if_pos h1]
    rw [IntKind.wrap_i64]
    omega
theorem Zig_any (n : Int) (h : In64 n) (w : World) : Calls Try.prog 74 #[.int .i64 n] w fun e w' => e = .returned (.int .u64 (zigN n : Int)) ∧ w = w' := by
  have hz := zig_val n h
  have HZ := Lib.hid hz; clear hz
  unfold In64 at h
  go_enter Try.func74, Try.ntmps74
  go_wp2_with fail
  go_ret
  exact ⟨ret_i HZ.out, rfl⟩
theorem Zag_any (u : Nat) (h : u < 18446744073709551616) (w : World) : Calls Try.prog 63 #[.int .u64 (u : Int)] w fun e w' => e = .returned (.int .i64 (zagI u)) ∧ w = w' := by
  have hz := zag_val u h
  have HZ := Lib.hid hz; clear hz
  have hu : (u : Int) < 18446744073709551616 := by omega
  go_enter Try.func63, Try.ntmps63
  go_wp2_with fail
  go_ret
  exact ⟨ret_i HZ.out, rfl⟩
theorem text_any (base : Nat) (v : Value) (l : List UInt8) (s : ByteArray) (w : World) (HO : OwnB w base v l) (hbase : base ≤ w.heap.size) (hs : s.size ≤ 1000000) (hl : l.length ≤ 10000000000) :
    Calls Try.prog 73 #[v, .string s] w (RetB base w (l ++ textL s.toList)) := by
  have C := Lib.hid (put_any base v l s.size w HO hbase (by omega) (by omega))
  have hp := putL_len 9 s.size (by omega)
  have hm : (l ++ putL s.size).length + s.size ≤ 140737488355328 := by simp; omega
  have hsz : s.size ≤ maxLen := by unfold maxLen; omega
  unfold maxLen at hsz
  clear hp
  have hW : IntKind.u64.wrap (s.size : Int) = (s.size : Int) := by rw [wu64]; omega
  have HL := Lib.hid (show textL s.toList = putL s.size ++ s.toList by unfold textL; rw [str_len])
  generalize hput : putL s.size = pu at *
  clear HO
  go_enter Try.func73, Try.ntmps73
  go_wp2_with fail
  refine C.out.mono ?_
  rintro e w1 ⟨v1, rfl, hO1, hb1⟩
  have hz1 := Nat.le_trans hbase hb1.size
  go_wp2_with (at_builtin; go_must (refine ap_str rfl (.tmp 9) (.tmp 10) rfl base v1 _ s rfl rfl hO1 hb1 hz1 hm ?_); intro v2 w2 hO2 hB2 hz2 _)
  go_ret
  exact ⟨_, rfl, by rw [HL.out, ← List.append_assoc]; exact hO2, hB2⟩
theorem PutText_any (v : Value) (l : List UInt8) (s : ByteArray) (B : Nat) (w : World) (hv : SlB B w v l) (hs : s.size ≤ 1000000) (hl : l.length ≤ 1000000000) :
    Calls Try.prog 78 #[v, .string s] w (RetB w.heap.size w (l ++ textL s.toList)) := by
  have HV := Lib.hid hv
  obtain ⟨a, c, rfl, hc, hx⟩ := hv.ex
  clear hx hv
  have C := Lib.hid (fun W v1 (h : OwnB W w.heap.size v1 l) (hz : w.heap.size ≤ W.heap.size) => text_any w.heap.size v1 l s W h hz hs (by omega))
  have hl2 : ([] : List UInt8).length + l.length ≤ 140737488355328 := by simp; omega
  go_enter Try.func78, Try.ntmps78
  go_wp2_with (at_builtin; go_must (refine ap_sl rfl (.const (.slice none 0 0)) (.tmp 5) rfl w.heap.size (.slice none 0 0) [] B _ l rfl rfl HV.out (OwnB.nil _ _) (Below.refl _ _) (Nat.le_refl _) hl2 ?_); intro v1 w1 hO1 hB1 hz1 _)
  rw [List.nil_append] at hO1
  refine (C.out _ _ hO1 hz1).mono ?_
  rintro e w2 ⟨v2, rfl, hO2, hb2⟩
  have hB2 := hB1.trans hb2
  clear hO1 hB1 hb2
  go_wp2_with fail
  go_ret
  exact ⟨_, rfl, hO2, hB2⟩
/-- a text that bytes begin with, and how many they are -/
def getTV (o : Option (List UInt8 × Nat)) : Ending := .returned (.tuple #[sv (o.getD ([], 0)).1, .int .i64 ((o.getD ([], 0)).2 : Int)])
theorem getT_cases (l : List UInt8) : (getL 0 0 l = none ∧ getT l = none) ∨ ∃ n k, getL 0 0 l = some (n, k) ∧ n < 18446744073709551616 ∧ 0 < k ∧ k ≤ l.length ∧ getT l = if n ≤ l.length - k then some ((l.drop k).take n, k + n) else none := by
  unfold getT
  cases e : getL 0 0 l with
  | none => exact .inl ⟨rfl, rfl⟩
  | some p =>
    obtain ⟨n, k⟩ := p
    have hb := getL_bound l 0 0 n k (by decide) (by decide) e
    exact .inr ⟨n, k, rfl, hb.1, by omega, by omega, rfl⟩
theorem SlB.reads {B : Nat} {w : World} {v : Value} {l : List UInt8} (h : SlB B w v l) : ReadsB w v l := by
  obtain ⟨a, c, rfl, hc, hx⟩ := h.ex
  by_cases h0 : 0 < l.length
  · obtain ⟨g, o, rfl, hg, hcell⟩ := hx h0
    refine conv_at w g o c l.length l rfl (fun j u hj => ?_)
    have hlt : j < l.length := by
      rcases Nat.lt_or_ge j (bcells l).length with h | h
      · rwa [bcells_length] at h
      · rw [List.getElem?_eq_none h] at hj; cases hj
    rw [bcells_get, List.getElem?_eq_getElem hlt] at hj
    rw [hcell j hlt]; exact hj
  · obtain rfl : l = [] := List.eq_nil_of_length_eq_zero (by omega)
    cases a with
    | none => exact run_convert_bytes_nil w 69 5 Try.underlying69 Try.underlying5 0 c 9 Try.underlying9
    | some ad =>
      obtain ⟨g, o, z⟩ := ad
      unfold ReadsB
      rw [run_convert_bytes_string w 69 9 5 _ _ c Try.underlying69 Try.underlying5 Try.underlying9]
      simp [Conv.bytesToString, loadCells]
      rfl
/-- b[i:i+k] -/
theorem SlB.mid {B : Nat} {w : World} {v : Value} {l : List UInt8} (h : SlB B w v l) (i k : Nat) (hk : i + k ≤ l.length) :
    ∃ a c, SlB B w (.slice a k c) ((l.drop i).take k) ∧ ∀ (y : Int), y = (i + k : Nat) → ∀ W, (Instr.slice 69 v (some (.int .i64 (i : Int))) (some (.int .i64 y)) none).run Try.prog W = .ok (.slice a k c) W := by
  obtain ⟨a, c, rfl, hc, hx⟩ := h.ex
  have h1 := h.cut i (by omega)
  exact ⟨_, _, h1.head k (by rw [List.length_drop]; omega) rfl, fun y hy W => mid_run (by omega) W y hy⟩
set_option maxHeartbeats 1000000 in
theorem GetText_any (v : Value) (l : List UInt8) (B : Nat) (w : World) (hv : SlB B w v l) (hl : l.length ≤ 1000000) :
    Calls Try.prog 66 #[v] w fun e w' => e = getTV (getT l) ∧ w = w' := by
  have HV := Lib.hid hv
  have C := Lib.hid (Get_any v l B w hv hl)
  obtain ⟨a, c, rfl, hc, hx⟩ := hv.ex
  clear hv hx
  rcases getT_cases l with ⟨h1, h2⟩ | ⟨n, k, h1, h2, h3, h4, h5⟩
  · rw [h1] at C
    rw [h2]
    clear h1 h2
    go_enter Try.func66, Try.ntmps66
    go_wp2_with fail
    refine C.out.mono ?_
    rintro e w' ⟨rfl, rfl⟩
    unfold getV
    go_wp2_with fail
    go_ret2
    exact ⟨rfl, rfl⟩
  · rw [h1] at C
    have b0 : ((k : Int) == 0) = false := by rw [beq_eq_false_iff_ne]; omega
    have hW : IntKind.u64.wrap ((l.length : Int) - k) = (l.length : Int) - k := by rw [wu64]; omega
    have hkl : (k : Int) ≤ (l.length : Int) := by omega
    by_cases h6 : n ≤ l.length - k
    · rw [if_pos h6] at h5
      obtain ⟨a2, c2, hm, hr⟩ := HV.out.mid k n (by omega)
      have hrd := hm.reads.out
      have hr' := hr ((k : Int) + (n : Int)) (by omega)
      have H5 := Lib.hid h5
      have q : ¬ (l.length : Int) - k < (n : Int) := by omega
      have hn : (n : Int) ≤ 1000000 := by omega
      have H6 := Lib.hid h6
      clear h1 h2 h5 h6 hr hm
      generalize hx : (l.drop k).take n = x at *
      clear hx
      go_enter Try.func66, Try.ntmps66
      go_wp2_with fail
      refine C.out.mono ?_
      rintro e w' ⟨rfl, rfl⟩
      unfold getV
      go_wp2_with fail
      go_ret2
      refine ⟨?_, rfl⟩
      rw [H5.out]
      unfold getTV
      simp
    · rw [if_neg h6] at h5
      have H5 := Lib.hid h5
      have q : (l.length : Int) - k < (n : Int) := by omega
      have H6 := Lib.hid h6
      clear h1 h5 h6
      go_enter Try.func66, Try.ntmps66
      go_wp2_with fail
      refine C.out.mono ?_
      rintro e w' ⟨rfl, rfl⟩
      unfold getV
      go_wp2_with fail
      go_ret2
      exact ⟨by rw [H5.out]; rfl, rfl⟩
end Go.Proofs.Ytefndmjimmbhnaa
end
