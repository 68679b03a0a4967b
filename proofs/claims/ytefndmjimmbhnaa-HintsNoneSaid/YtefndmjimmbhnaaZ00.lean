/- Words used by all texts of this claim: endings, worlds that grow, slices that are read. They speak of no program; no condition. Plain laws of layer 1: numbers in bytes, four bytes, the sum; a sum tells any one turned bit. No program in sight; no condition. Words on byte slices that a call builds (owned rows), and on the package-level variables that the library reads. No condition. -/
import Derived.WalkKit
import Derived.ProofKit
import Derived.WalkSpells
import Derived.Deep.QuietTactic
import Derived.BigQuiet
import Derived.WalkLawsBesides
import Derived.StillTailTactics
import Derived.Lib.Hide
import Derived.Deep.RegionHeld3
import Derived.Deep.DeepCutAuto
import Derived.Deep.CutBlock
import Derived.Deep.DeepFit
import Derived.Deep.DeepMust
import Derived.Test.YtefndmjimmbhnaaProg
import Derived.Lib.AppendStr
import Derived.Maps.AppendAt
import Derived.Lib.ItoaMem
import Derived.Lib.SmallJoins
section
set_option linter.unusedVariables false
set_option linter.unusedSimpArgs false
namespace Go.Proofs.Ytefndmjimmbhnaa
open Go.RowKit

theorem ret_i {k : IntKind} {a b : Int} (h : a = b) : Ending.returned (.int k a) = .returned (.int k b) := by rw [h]
theorem ret_b {a b : Bool} (h : a = b) : Ending.returned (.bool a) = .returned (.bool b) := by rw [h]
theorem ret_s {a b : ByteArray} (h : a = b) : Ending.returned (.string a) = .returned (.string b) := by rw [h]

/-- All old memory is as it was. -/
theorem bcell {W w1 : World} (hb : Below W.heap.size W w1) : (∀ b o, b < W.heap.size → w1.cell? ⟨b, o, none⟩ = W.cell? ⟨b, o, none⟩) ∧ (∀ b o, b < W.heap.size → w1.frozen? ⟨b, o, none⟩ = W.frozen? ⟨b, o, none⟩) :=
  ⟨fun b o h => hb.cell (p := ⟨b, o, none⟩) h, fun b o h => hb.frozen (p := ⟨b, o, none⟩) h⟩
theorem below_alloc {w W : World} (h : Below w.heap.size w W) (o : Obj) : Below w.heap.size w (W.alloc o) := h.alloc h.size o
theorem below_al {B : Nat} {w W : World} (h : Below B w W) (o : Obj) (hB : B ≤ W.heap.size) : Below B w (W.alloc o) := h.alloc hB o
theorem heap_last (w : World) (o : Obj) : (w.alloc o).heap[w.heap.size]? = some o := by show (w.heap.push o)[w.heap.size]? = _; simp
theorem below_drewN {B : Nat} {w W : World} (h : Below B w W) (n : Nat) : Below B w (W.drewN n) := ⟨h.os, h.tape, h.output, h.size, h.block⟩
theorem below_tr {w w1 w2 : World} (h : Below w.heap.size w w1) (k : Below w1.heap.size w1 w2) : Below w.heap.size w w2 := h.trans (k.mono h.size)
theorem cell_keep {w w1 : World} (h : Below w.heap.size w w1) {a : Addr} {v : Value} (hc : w.cell? a = some v) : w1.cell? a = some v := (h.cell (World.block_lt_of_cell? w a hc)).trans hc
/-! a region that draws its order: words that are carried -/
/-- Grown out of W; a word of its own, so that no search takes it for another growth. -/
def InW (W w : World) : Prop := Below W.heap.size W w
theorem InW.refl (W : World) : InW W W := Below.refl _ _
theorem InW.al {W w : World} (h : InW W w) (o : Obj) : InW W (w.alloc o) := below_al h o h.size
theorem InW.drew {W w : World} (h : InW W w) : InW W w.drew := Below.drew h
theorem InW.drewN {W w : World} (h : InW W w) (n : Nat) : InW W (w.drewN n) := below_drewN h n
theorem InW.tr {W w w1 : World} (h : InW W w) (k : Below w.heap.size w w1) : InW W w1 := below_tr h k
theorem InW.grown {W w w1 : World} {row : Option Nat} (h : InW W w) (hg : w.grownBy w1 row) (hr : ∀ k, row = some k → W.heap.size ≤ k) : InW W w1 := Below.grown h hg h.size hr


/-! all blocks but some are as they were -/
structure But (S : Nat → Prop) (w w' : World) : Prop where
  os : w'.os = w.os
  tape : w'.tape = w.tape
  output : w'.output = w.output
  size : w.heap.size ≤ w'.heap.size
  block : ∀ k, k < w.heap.size → ¬ S k → w'.heap[k]? = w.heap[k]?
section
variable {S : Nat → Prop} {w w1 w2 : World}
theorem But.refl (S : Nat → Prop) (w : World) : But S w w := ⟨rfl, rfl, rfl, Nat.le_refl _, fun _ _ _ => rfl⟩
theorem But.trans (h : But S w w1) (k : But S w1 w2) : But S w w2 :=
  ⟨k.os.trans h.os, k.tape.trans h.tape, k.output.trans h.output, Nat.le_trans h.size k.size, fun i hi hs => (k.block i (Nat.lt_of_lt_of_le hi h.size) hs).trans (h.block i hi hs)⟩
theorem But.of_below (S : Nat → Prop) (h : Below w.heap.size w w1) : But S w w1 := ⟨h.os, h.tape, h.output, h.size, fun k hk _ => h.block k hk⟩
theorem But.below (h : But S w w1) {B : Nat} (hB : B ≤ w.heap.size) (hs : ∀ k, S k → B ≤ k) : Below B w w1 :=
  ⟨h.os, h.tape, h.output, h.size, fun k hk => h.block k (Nat.lt_of_lt_of_le hk hB) (fun e => by have := hs k e; omega)⟩
theorem But.mono (h : But S w w1) {S' : Nat → Prop} (hs : ∀ k, k < w.heap.size → S k → S' k) : But S' w w1 := ⟨h.os, h.tape, h.output, h.size, fun k hk hn => h.block k hk (fun e => hn (hs k hk e))⟩
theorem But.tail (h : But S w w1) (k : Below w1.heap.size w1 w2) : But S w w2 := h.trans (But.of_below S k)
theorem But.drew (h : But S w w1) : But S w w1.drew := ⟨h.os, h.tape, h.output, h.size, h.block⟩
theorem But.drewN (h : But S w w1) (n : Nat) : But S w (w1.drewN n) := ⟨h.os, h.tape, h.output, h.size, h.block⟩
theorem But.alloc (h : But S w w1) (o : Obj) : But S w (w1.alloc o) := h.tail (below_alloc (Below.refl _ _) o)
theorem But.setCell (h : But S w w1) {p : Addr} (hp : S p.block) (u : Value) : But S w (w1.setCell p u) :=
  h.trans ⟨rfl, rfl, rfl, by simp [World.setCell], fun k _ hn => Below.heap_setCell _ _ _ _ (fun e => hn (e ▸ hp))⟩
theorem But.grown (h : But S w w1) {row : Option Nat} (hg : w1.grownBy w2 row) (hr : ∀ k, row = some k → S k) : But S w w2 :=
  h.trans ⟨hg.os, hg.tape, hg.output, hg.size, fun k hk hn => hg.block k hk (fun e => hn (hr k e.symm))⟩
theorem But.cell (h : But S w w1) {p : Addr} {v : Value} (hc : w.cell? p = some v) (hs : ¬ S p.block) : w1.cell? p = some v := (World.cell?_of_block (w := w) (h.block p.block (World.block_lt_of_cell? w p hc) hs)).trans hc
theorem But.frozen (h : But S w w1) {p : Addr} (hp : p.block < w.heap.size) (hs : ¬ S p.block) : w1.frozen? p = w.frozen? p := World.frozen?_of_block (w := w) (h.block p.block hp hs)
end

/-- Goals that are one are met once: 'apply meet_once; · intro KK; (the walk of all orders); all_goals exact KK.out'. -/
theorem meet_once {C X : Prop} (h : Hid C → X) (k : C) : X := h (Lib.hid k)

def Two (a b : Nat) : Nat → Prop := fun k => k = a ∨ k = b

/-! a block that is known whole -/
def Blk (w : World) (g : Nat) (t : TypeId) (cs : Array Value) : Prop := w.heap[g]? = some (.cells cs t (0, 0))
section
variable {w w1 : World} {g : Nat} {t : TypeId} {cs : Array Value}
theorem Blk.lt (h : Blk w g t cs) : g < w.heap.size := by
  rcases Nat.lt_or_ge g w.heap.size with hlt | hge
  · exact hlt
  · unfold Blk at h; rw [Array.getElem?_eq_none hge] at h; cases h
theorem Blk.cell (h : Blk w g t cs) (i : Nat) {v : Value} (hi : cs[i]? = some v) : w.cell? ⟨g, i, none⟩ = some v := (cell_of_row w g i cs t (0, 0) h).trans hi
theorem Blk.frozen (h : Blk w g t cs) (i : Nat) : w.frozen? ⟨g, i, none⟩ = false := by unfold Blk at h; simp [World.frozen?, h]
theorem Blk.new (w : World) (t : TypeId) (cs : Array Value) : Blk (w.alloc (.cells cs t)) w.heap.size t cs := heap_last w _
theorem Blk.drew (h : Blk w g t cs) : Blk w.drew g t cs := h
theorem Blk.drewN (h : Blk w g t cs) (n : Nat) : Blk (w.drewN n) g t cs := h
theorem Blk.alloc (h : Blk w g t cs) (o : Obj) : Blk (w.alloc o) g t cs := (Below.heap_alloc w o g h.lt).trans h
theorem Blk.put (h : Blk w g t cs) (i : Nat) (u : Value) : Blk (w.setCell ⟨g, i, none⟩ u) g t (cs.setIfInBounds i u) := by
  unfold Blk at h ⊢
  simp [World.setCell, Array.getElem?_modify, h]
theorem Blk.far (h : Blk w g t cs) {p : Addr} (hp : g ≠ p.block) (u : Value) : Blk (w.setCell p u) g t cs := (Below.heap_setCell w p u g hp).trans h
theorem Blk.below (h : Blk w g t cs) (hb : Below w.heap.size w w1) : Blk w1 g t cs := (hb.block g h.lt).trans h
theorem Blk.under {B : Nat} (h : Blk w g t cs) (hb : Below B w w1) (hg : g < B) : Blk w1 g t cs := (hb.block g hg).trans h
theorem Blk.but {S : Nat → Prop} (h : Blk w g t cs) (hb : But S w w1) (hs : ¬ S g) : Blk w1 g t cs := (hb.block g h.lt hs).trans h
theorem Blk.grown {row : Option Nat} (h : Blk w g t cs) (hb : w.grownBy w1 row) (hg : some g ≠ row) : Blk w1 g t cs := (hb.block g h.lt hg).trans h
theorem Blk.ne {g' : Nat} {t' : TypeId} {cs' : Array Value} (h : Blk w g t cs) (h' : Blk w g' t' cs') (hne : t ≠ t') : g ≠ g' := by
  rintro rfl
  unfold Blk at h h'
  rw [h] at h'
  injection h' with h'
  injection h' with _ ht
  exact hne ht
end
end Go.Proofs.Ytefndmjimmbhnaa
end

section
set_option linter.unusedVariables false
set_option linter.unusedSimpArgs false
namespace Go.Proofs.Ytefndmjimmbhnaa
open Go.RowKit

/-! the sum's steps -/
def crcBit (z : Int) : Int := Go.bits .xor .u32 (z / 2) (Go.bits .and .u32 3988292384 (-(Go.bits .and .u32 z 1) % 4294967296))
def crcBits : Nat → Int → Int
  | 0, z => z
  | n + 1, z => crcBit (crcBits n z)
def crcByte (z : Int) (x : UInt8) : Int := crcBits 8 (Go.bits .xor .u32 z (x.toNat : Int))
def crcL (c : Int) (l : List UInt8) : Int := l.foldl crcByte c
def sealL (a b : List UInt8) : Int := 4294967295 - crcL (crcL 4294967295 a) b

def In32 (z : Int) : Prop := 0 ≤ z ∧ z < 4294967296
theorem bits32 (op : BinOp) (x y : Int) : 0 ≤ Go.bits op .u32 x y ∧ Go.bits op .u32 x y < 4294967296 := by
  unfold Go.bits
  simp only [IntKind.wrap, IntKind.signed, IntKind.bits, Bool.false_and]
  constructor
  · simp; omega
  · simp; omega
theorem crcL_snoc (c : Int) (l : List UInt8) (x : UInt8) : crcL c (l ++ [x]) = crcByte (crcL c l) x := by simp [crcL]
theorem crcL_app (c : Int) (a b : List UInt8) : crcL c (a ++ b) = crcL (crcL c a) b := by simp [crcL]
theorem crcByte_range (c : Int) (x : UInt8) : 0 ≤ crcByte c x ∧ crcByte c x < 4294967296 := by
  show 0 ≤ crcBit (crcBits 7 _) ∧ crcBit (crcBits 7 _) < 4294967296
  unfold crcBit; exact bits32 _ _ _
theorem crcL_range (l : List UInt8) : ∀ c : Int, 0 ≤ c → c < 4294967296 → 0 ≤ crcL c l ∧ crcL c l < 4294967296 := by
  induction l with
  | nil => intro c h0 h1; exact ⟨h0, h1⟩
  | cons x l ih =>
    intro c _ _
    have h := crcByte_range c x
    exact ih (crcByte c x) h.1 h.2

/-! as words of 32 bits -/
theorem wrap32u (n : Nat) (h : n < 4294967296) : IntKind.u32.wrap (n : Int) = n := by
  simp only [IntKind.wrap, IntKind.signed, IntKind.bits, Bool.false_and]
  simp; omega
theorem v_xor (a b : Int) : BitVec.ofInt 32 (Go.bits .xor .u32 a b) = BitVec.ofInt 32 a ^^^ BitVec.ofInt 32 b := by
  show BitVec.ofInt 32 (IntKind.u32.wrap ((BitVec.ofInt 32 a ^^^ BitVec.ofInt 32 b).toNat : Int)) = _
  rw [wrap32u _ (BitVec.isLt _), BitVec.ofInt_natCast, BitVec.ofNat_toNat, BitVec.setWidth_eq]
theorem v_and (a b : Int) : BitVec.ofInt 32 (Go.bits .and .u32 a b) = BitVec.ofInt 32 a &&& BitVec.ofInt 32 b := by
  show BitVec.ofInt 32 (IntKind.u32.wrap ((BitVec.ofInt 32 a &&& BitVec.ofInt 32 b).toNat : Int)) = _
  rw [wrap32u _ (BitVec.isLt _), BitVec.ofInt_natCast, BitVec.ofNat_toNat, BitVec.setWidth_eq]
theorem v_half (a : Int) (h0 : 0 ≤ a) (h1 : a < 4294967296) : BitVec.ofInt 32 (a / 2) = BitVec.ofInt 32 a >>> 1 := by
  obtain ⟨n, rfl⟩ : ∃ n : Nat, a = n := ⟨a.toNat, by omega⟩
  rw [show ((n : Int) / 2) = ((n / 2 : Nat) : Int) by omega, BitVec.ofInt_natCast, BitVec.ofInt_natCast]
  apply BitVec.eq_of_toNat_eq
  rw [BitVec.toNat_ushiftRight, BitVec.toNat_ofNat, BitVec.toNat_ofNat, Nat.mod_eq_of_lt (by omega), Nat.mod_eq_of_lt (by omega), Nat.shiftRight_eq_div_pow]
theorem v_neg (a : Int) : BitVec.ofInt 32 (-a % 4294967296) = -(BitVec.ofInt 32 a) := by
  apply BitVec.eq_of_toInt_eq
  rw [← BitVec.ofInt_neg, BitVec.toInt_ofInt, BitVec.toInt_ofInt]
  have := Int.emod_bmod (-a) (2 ^ 32)
  exact this
theorem v_inj {a b : Int} (ha : In32 a) (hb : In32 b) (h : BitVec.ofInt 32 a = BitVec.ofInt 32 b) : a = b := by
  obtain ⟨a0, a1⟩ := ha; obtain ⟨b0, b1⟩ := hb
  have := congrArg BitVec.toNat h
  rw [BitVec.toNat_ofInt, BitVec.toNat_ofInt] at this
  omega

def cb (z : BitVec 32) : BitVec 32 := (z >>> 1) ^^^ (3988292384#32 &&& -(z &&& 1#32))
theorem v_crcBit (z : Int) (h0 : 0 ≤ z) (h1 : z < 4294967296) : BitVec.ofInt 32 (crcBit z) = cb (BitVec.ofInt 32 z) := by
  unfold crcBit cb
  rw [v_xor, v_and, v_neg, v_and, v_half z h0 h1]
  rfl
theorem and_one (z : BitVec 32) : z &&& 1#32 = if z.getLsbD 0 then 1#32 else 0#32 := by
  apply BitVec.eq_of_getLsbD_eq
  intro i hi
  rw [BitVec.getLsbD_and, BitVec.getLsbD_one]
  cases h : z.getLsbD 0
  · rcases i with _ | i
    · rw [h]; simp
    · simp
  · rcases i with _ | i
    · rw [h]; simp
    · simp
theorem cb_eq (z : BitVec 32) : cb z = (z >>> 1) ^^^ (if z.getLsbD 0 then 3988292384#32 else 0#32) := by
  unfold cb
  rw [and_one]
  cases h : z.getLsbD 0
  · simp
  · have : (3988292384#32 &&& -(1#32)) = 3988292384#32 := by decide
    simp [this]
theorem cb_top (z : BitVec 32) : (cb z).getLsbD 31 = z.getLsbD 0 := by
  rw [cb_eq, BitVec.getLsbD_xor, BitVec.getLsbD_ushiftRight, BitVec.getLsbD_of_ge z (1 + 31) (by omega), Bool.false_xor]
  cases h : z.getLsbD 0
  · simp
  · simp
theorem cb_inj {a b : BitVec 32} (h : cb a = cb b) : a = b := by
  have h0 : a.getLsbD 0 = b.getLsbD 0 := by rw [← cb_top a, ← cb_top b, h]
  rw [cb_eq, cb_eq, h0] at h
  have h1 : a >>> 1 = b >>> 1 := by
    have := congrArg (· ^^^ (if b.getLsbD 0 then 3988292384#32 else 0#32)) h
    simpa [BitVec.xor_assoc] using this
  apply BitVec.eq_of_getLsbD_eq
  intro i hi
  rcases i with _ | i
  · exact h0
  · have := congrArg (fun v : BitVec 32 => v.getLsbD i) h1
    simpa [BitVec.getLsbD_ushiftRight, Nat.add_comm] using this
theorem crcBit_inj {a b : Int} (ha : In32 a) (hb : In32 b) (h : crcBit a = crcBit b) : a = b := by
  have := congrArg (BitVec.ofInt 32) h
  rw [v_crcBit a ha.1 ha.2, v_crcBit b hb.1 hb.2] at this
  exact v_inj ha hb (cb_inj this)
theorem crcBits_range : ∀ (n : Nat) (z : Int), In32 z → In32 (crcBits n z)
  | 0, z, h => h
  | n + 1, z, h => by show In32 (crcBit _); unfold crcBit; exact bits32 _ _ _
theorem crcBits_inj : ∀ (n : Nat) {a b : Int}, In32 a → In32 b → crcBits n a = crcBits n b → a = b
  | 0, a, b, _, _, h => h
  | n + 1, a, b, ha, hb, h => crcBits_inj n ha hb (crcBit_inj (crcBits_range n a ha) (crcBits_range n b hb) h)
theorem xor_inj_l {a b c : Int} (ha : In32 a) (hb : In32 b) (h : Go.bits .xor .u32 a c = Go.bits .xor .u32 b c) : a = b := by
  have := congrArg (BitVec.ofInt 32) h
  rw [v_xor, v_xor] at this
  refine v_inj ha hb ?_
  have := congrArg (· ^^^ BitVec.ofInt 32 c) this
  simpa [BitVec.xor_assoc] using this
theorem xor_inj_r {a b c : Int} (ha : In32 a) (hb : In32 b) (h : Go.bits .xor .u32 c a = Go.bits .xor .u32 c b) : a = b := by
  have := congrArg (BitVec.ofInt 32) h
  rw [v_xor, v_xor] at this
  refine v_inj ha hb ?_
  have := congrArg (BitVec.ofInt 32 c ^^^ ·) this
  simpa [← BitVec.xor_assoc] using this
theorem byte32 (x : UInt8) : In32 (x.toNat : Int) := by have := x.toNat_lt; unfold In32; omega
theorem crcByte_inj_l {a b : Int} (x : UInt8) (ha : In32 a) (hb : In32 b) (h : crcByte a x = crcByte b x) : a = b :=
  xor_inj_l ha hb (crcBits_inj 8 (bits32 _ _ _) (bits32 _ _ _) h)
theorem crcByte_inj_r {x y : UInt8} (c : Int) (h : crcByte c x = crcByte c y) : x = y := by
  have h1 := xor_inj_r (byte32 x) (byte32 y) (crcBits_inj 8 (bits32 _ _ _) (bits32 _ _ _) h)
  exact UInt8.toNat_inj.1 (by omega)
theorem crcL_inj (l : List UInt8) : ∀ {a b : Int}, In32 a → In32 b → crcL a l = crcL b l → a = b := by
  induction l with
  | nil => intro a b _ _ h; exact h
  | cons x l ih => intro a b ha hb h; exact crcByte_inj_l x ha hb (ih (crcByte_range a x) (crcByte_range b x) h)
/-- One byte turned: another sum. -/
theorem crcL_turn (c : Int) (hc : In32 c) (l r : List UInt8) (x y : UInt8) (h : crcL c (l ++ x :: r) = crcL c (l ++ y :: r)) : x = y := by
  rw [crcL_app, crcL_app] at h
  have h2 : crcByte (crcL c l) x = crcByte (crcL c l) y := crcL_inj r (crcByte_range _ x) (crcByte_range _ y) h
  exact crcByte_inj_r _ h2

/-! the document's sum -/
def refBit (x : Int) (k : Nat) (c : Int) : Int := if (Go.bits .and .u32 (Go.bits .xor .u32 c (x / 2 ^ k)) 1) = 1 then Go.bits .xor .u32 (c / 2) 3988292384 else c / 2
def refBits (x : Int) : Nat → Int → Int
  | 0, c => c
  | n + 1, c => refBit x n (refBits x n c)
def refSum (c : Int) (l : List UInt8) : Int := l.foldl (fun c x => refBits (x.toNat : Int) 8 c) c
theorem refBit_range (x : Int) (k : Nat) (c : Int) (h : In32 c) : In32 (refBit x k c) := by
  unfold refBit; split
  · exact bits32 _ _ _
  · unfold In32 at *; omega
theorem refBits_range (x : Int) : ∀ (k : Nat) (c : Int), In32 c → In32 (refBits x k c)
  | 0, c, h => h
  | n + 1, c, h => refBit_range x n _ (refBits_range x n c h)
theorem v_shift (x : Nat) (k : Nat) (h : x < 256) : BitVec.ofInt 32 ((x : Int) / 2 ^ k) = BitVec.ofInt 32 (x : Int) >>> k := by
  rw [show ((x : Int) / 2 ^ k) = ((x / 2 ^ k : Nat) : Int) by simp, BitVec.ofInt_natCast, BitVec.ofInt_natCast]
  apply BitVec.eq_of_toNat_eq
  have : x / 2 ^ k ≤ x := Nat.div_le_self _ _
  rw [BitVec.toNat_ushiftRight, BitVec.toNat_ofNat, BitVec.toNat_ofNat, Nat.mod_eq_of_lt (by omega), Nat.mod_eq_of_lt (by omega), Nat.shiftRight_eq_div_pow]
theorem bit_one (z : Int) : (Go.bits .and .u32 z 1 = 1) ↔ (BitVec.ofInt 32 z).getLsbD 0 = true := by
  have hr := bits32 .and z 1
  have hv := v_and z 1
  rw [show BitVec.ofInt 32 1 = 1#32 from rfl, and_one] at hv
  constructor
  · intro h
    rw [h] at hv
    cases hb : (BitVec.ofInt 32 z).getLsbD 0
    · rw [hb] at hv; exact absurd hv (by decide)
    · rfl
  · intro h
    rw [h] at hv
    exact v_inj hr (by unfold In32; omega) hv
theorem ref_step (x k : Nat) (hx : x < 256) (c : Int) (hc : In32 c) :
    Go.bits .xor .u32 (refBit x k c) ((x : Int) / 2 ^ (k + 1)) = crcBit (Go.bits .xor .u32 c ((x : Int) / 2 ^ k)) := by
  refine v_inj (bits32 _ _ _) (bits32 _ _ _) ?_
  have hr := bits32 .xor c ((x : Int) / 2 ^ k)
  rw [v_crcBit _ hr.1 hr.2, v_xor, v_xor, cb_eq, v_shift x k hx, v_shift x (k + 1) hx]
  have hb := bit_one (Go.bits .xor .u32 c ((x : Int) / 2 ^ k))
  rw [v_xor, v_shift x k hx] at hb
  have hsh : (BitVec.ofInt 32 c ^^^ BitVec.ofInt 32 (x : Int) >>> k) >>> 1 = (BitVec.ofInt 32 c >>> 1) ^^^ (BitVec.ofInt 32 (x : Int) >>> (k + 1)) := by
    rw [BitVec.ushiftRight_xor_distrib, BitVec.shiftRight_add]
  rw [hsh]
  unfold refBit
  split
  · rename_i h
    rw [if_pos (hb.1 h), v_xor, v_half c hc.1 hc.2, show BitVec.ofInt 32 3988292384 = 3988292384#32 from rfl]
    simp only [BitVec.xor_assoc]
    rw [BitVec.xor_comm (3988292384#32)]
  · rename_i h
    have h2 : ¬ ((BitVec.ofInt 32 c ^^^ BitVec.ofInt 32 (x : Int) >>> k).getLsbD 0 = true) := fun e => h (hb.2 e)
    rw [if_neg h2, v_half c hc.1 hc.2]
    simp
theorem ref_steps (x : Nat) (hx : x < 256) (c : Int) (hc : In32 c) : ∀ k : Nat, Go.bits .xor .u32 (refBits x k c) ((x : Int) / 2 ^ k) = crcBits k (Go.bits .xor .u32 c (x : Int))
  | 0 => by show Go.bits .xor .u32 c ((x : Int) / 2 ^ 0) = _; simp [crcBits]
  | k + 1 => by
    show Go.bits .xor .u32 (refBit x k (refBits x k c)) _ = crcBit _
    rw [ref_step x k hx _ (refBits_range x k c hc), ref_steps x hx c hc k]
theorem xor_nought (z : Int) (h : In32 z) : Go.bits .xor .u32 z 0 = z := by
  refine v_inj (bits32 _ _ _) h ?_
  rw [v_xor]; simp
theorem ref_byte (x : UInt8) (c : Int) (hc : In32 c) : refBits (x.toNat : Int) 8 c = crcByte c x := by
  have hx := x.toNat_lt
  have h := ref_steps x.toNat hx c hc 8
  rw [show ((x.toNat : Int) / 2 ^ 8) = 0 by omega, xor_nought _ (refBits_range _ _ _ hc)] at h
  exact h
theorem refSum_eq (l : List UInt8) : ∀ c : Int, In32 c → refSum c l = crcL c l := by
  induction l with
  | nil => intro c _; rfl
  | cons x l ih =>
    intro c hc
    show refSum (refBits (x.toNat : Int) 8 c) l = crcL (crcByte c x) l
    rw [ref_byte x c hc]
    exact ih _ (crcByte_range c x)
theorem refSum_snoc (c : Int) (l : List UInt8) (x : UInt8) : refSum c (l ++ [x]) = refBits (x.toNat : Int) 8 (refSum c l) := by simp [refSum]

/-! bytes -/
/-- the byte of a small number -/
def byteOf (n : Int) : UInt8 := UInt8.ofNat n.toNat
theorem byteOf_val {n : Int} (h0 : 0 ≤ n) (h1 : n < 256) : ((byteOf n).toNat : Int) = n := by
  unfold byteOf
  rw [UInt8.toNat_ofNat']; omega
theorem byteOf_toNat (x : UInt8) : byteOf (x.toNat : Int) = x := by
  unfold byteOf; simp

/-! four bytes -/
/-- a number in four bytes -/
def fourL (n : Int) : List UInt8 := [byteOf (n / 16777216 % 256), byteOf (n / 65536 % 256), byteOf (n / 256 % 256), byteOf (n % 256)]
theorem fourL_length (n : Int) : (fourL n).length = 4 := rfl
def step32 (u : Int) (x : UInt8) : Int := Go.bits .or .u32 (IntKind.u32.wrap (u * 2 ^ 8)) (x.toNat : Int)
def num32 (l : List UInt8) : Int := l.foldl step32 0
theorem num32_snoc (l : List UInt8) (x : UInt8) : num32 (l ++ [x]) = step32 (num32 l) x := by simp [num32]
theorem step32_val (u : Int) (x : UInt8) (h0 : 0 ≤ u) (h1 : u < 16777216) : step32 u x = u * 256 + (x.toNat : Int) := by
  obtain ⟨a, rfl⟩ : ∃ a : Nat, u = a := ⟨u.toNat, by omega⟩
  have hy : x.toNat < 256 := x.toNat_lt
  have hw : IntKind.u32.wrap ((a : Int) * 2 ^ 8) = ((a * 256 : Nat) : Int) := by
    simp only [IntKind.wrap, IntKind.signed, IntKind.bits, Bool.false_and]
    simp
    omega
  unfold step32
  rw [hw]
  have e : (BitVec.ofInt 32 ((a * 256 : Nat) : Int) ||| BitVec.ofInt 32 (x.toNat : Int)).toNat = a * 256 + x.toNat := by
    rw [BitVec.toNat_or, BitVec.ofInt_natCast, BitVec.ofInt_natCast, BitVec.toNat_ofNat, BitVec.toNat_ofNat, Nat.mod_eq_of_lt (by omega), Nat.mod_eq_of_lt (by omega)]
    have := Nat.shiftLeft_add_eq_or_of_lt (b := x.toNat) (i := 8) (by omega) a
    rw [Nat.shiftLeft_eq] at this
    exact this.symm
  show IntKind.u32.wrap ((BitVec.ofInt 32 ((a * 256 : Nat) : Int) ||| BitVec.ofInt 32 (x.toNat : Int)).toNat : Int) = _
  rw [e, wrap32u _ (by omega)]
  omega
theorem num32_four (a b c d : UInt8) : num32 [a, b, c, d] = (a.toNat : Int) * 16777216 + (b.toNat : Int) * 65536 + (c.toNat : Int) * 256 + (d.toNat : Int) := by
  have := a.toNat_lt; have := b.toNat_lt; have := c.toNat_lt; have := d.toNat_lt
  show step32 (step32 (step32 (step32 0 a) b) c) d = _
  rw [step32_val 0 a (by omega) (by omega), step32_val _ b (by omega) (by omega), step32_val _ c (by omega) (by omega), step32_val _ d (by omega) (by omega)]
  omega
theorem num32_fourL (n : Int) (h0 : 0 ≤ n) (h1 : n < 4294967296) : num32 (fourL n) = n := by
  have h : ∀ m : Int, ((byteOf (m % 256)).toNat : Int) = m % 256 := fun m => byteOf_val (Int.emod_nonneg _ (by decide)) (Int.emod_lt_of_pos _ (by decide))
  unfold fourL
  rw [num32_four, h, h, h, h]
  omega
theorem list4 (l : List UInt8) (h : l.length = 4) : ∃ a b c d, l = [a, b, c, d] := by
  match l, h with
  | [a, b, c, d], _ => exact ⟨a, b, c, d, rfl⟩
theorem num32_range (l : List UInt8) (h : l.length = 4) : 0 ≤ num32 l ∧ num32 l < 4294967296 := by
  obtain ⟨a, b, c, d, rfl⟩ := list4 l h
  have := a.toNat_lt; have := b.toNat_lt; have := c.toNat_lt; have := d.toNat_lt
  rw [num32_four]; omega
theorem num32_inj (l m : List UInt8) (h : l.length = 4) (h' : m.length = 4) (e : num32 l = num32 m) : l = m := by
  obtain ⟨a, b, c, d, rfl⟩ := list4 l h
  obtain ⟨a', b', c', d', rfl⟩ := list4 m h'
  have := a.toNat_lt; have := b.toNat_lt; have := c.toNat_lt; have := d.toNat_lt
  have := a'.toNat_lt; have := b'.toNat_lt; have := c'.toNat_lt; have := d'.toNat_lt
  rw [num32_four, num32_four] at e
  have e1 : a = a' := UInt8.toNat_inj.1 (by omega)
  have e2 : b = b' := UInt8.toNat_inj.1 (by omega)
  have e3 : c = c' := UInt8.toNat_inj.1 (by omega)
  have e4 : d = d' := UInt8.toNat_inj.1 (by omega)
  rw [e1, e2, e3, e4]

/-! numbers of any size -/
/-- a number's bytes, seven bits each, the lowest first -/
def putL (u : Nat) : List UInt8 := if u < 128 then [UInt8.ofNat u] else UInt8.ofNat (u % 128 + 128) :: putL (u / 128)
  termination_by u
  decreasing_by omega
theorem putL_small (u : Nat) (h : u < 128) : putL u = [UInt8.ofNat u] := by rw [putL, if_pos h]
theorem putL_great (u : Nat) (h : ¬ u < 128) : putL u = UInt8.ofNat (u % 128 + 128) :: putL (u / 128) := by rw [putL, if_neg h]
theorem putL_len : ∀ (k u : Nat), u < 128 ^ (k + 1) → (putL u).length ≤ k + 1
  | 0, u, h => by rw [putL_small u (by simpa using h)]; simp
  | k + 1, u, h => by
    by_cases hu : u < 128
    · rw [putL_small u hu]; simp
    · rw [putL_great u hu]
      have := putL_len k (u / 128) (by rw [Nat.div_lt_iff_lt_mul (by decide)]; rwa [← Nat.pow_succ])
      simp; omega
theorem putL_pos (u : Nat) : 0 < (putL u).length := by rw [putL]; split <;> simp
/-- the number that bytes begin with, and how many they are: u is what i bytes ahead of them gave -/
def getL : Nat → Nat → List UInt8 → Option (Nat × Nat)
  | _, _, [] => none
  | i, u, x :: r => if (i = 9 ∧ 1 < x.toNat) ∨ (0 < i ∧ x.toNat = 0) then none else if x.toNat < 128 then some (u + x.toNat * 128 ^ i, i + 1) else getL (i + 1) (u + x.toNat % 128 * 128 ^ i) r
theorem getL_put (r : List UInt8) : ∀ (n v i u : Nat), v ≤ n → u + v * 128 ^ i < 18446744073709551616 → i ≤ 9 → (0 < i → 0 < v) → getL i u (putL v ++ r) = some (u + v * 128 ^ i, i + (putL v).length) := by
  intro n
  induction n with
  | zero =>
    intro v i u hv hb hi h0
    obtain rfl : v = 0 := by omega
    have : i = 0 := by omega
    subst this
    rw [putL_small 0 (by decide)]
    simp [getL]
  | succ n ih =>
    intro v i u hv hb hi h0
    by_cases hs : v < 128
    · rw [putL_small v hs]
      have hx : (UInt8.ofNat v).toNat = v := by rw [UInt8.toNat_ofNat']; omega
      show getL i u (UInt8.ofNat v :: r) = _
      rw [getL, hx, if_neg, if_pos hs]
      · rfl
      · rintro (⟨rfl, h⟩ | ⟨h1, h2⟩)
        · have : 2 * 128 ^ 9 ≤ v * 128 ^ 9 := Nat.mul_le_mul_right _ (by omega)
          omega
        · have := h0 h1; omega
    · rw [putL_great v hs]
      have hx : (UInt8.ofNat (v % 128 + 128)).toNat = v % 128 + 128 := by rw [UInt8.toNat_ofNat']; omega
      have hp : v * 128 ^ i = v % 128 * 128 ^ i + v / 128 * 128 ^ (i + 1) := by
        rw [Nat.pow_succ, ← Nat.mul_assoc, Nat.mul_right_comm, ← Nat.add_mul]
        congr 1
        omega
      have hi9 : i ≠ 9 := by
        rintro rfl
        have : 128 * 128 ^ 9 ≤ v * 128 ^ 9 := Nat.mul_le_mul_right _ (by omega)
        omega
      show getL i u (UInt8.ofNat (v % 128 + 128) :: (putL (v / 128) ++ r)) = _
      rw [getL, hx, if_neg (by omega), if_neg (by omega), show (v % 128 + 128) % 128 = v % 128 by omega, ih (v / 128) (i + 1) _ (by omega) (by omega) (by omega) (by omega)]
      simp only [List.length_cons, Option.some.injEq, Prod.mk.injEq]
      omega
theorem getL_bound : ∀ (l : List UInt8) (i u v k : Nat), u < 128 ^ i → i ≤ 9 → getL i u l = some (v, k) → v < 18446744073709551616 ∧ i < k ∧ k ≤ i + l.length
  | [], i, u, v, k, _, _, h => by simp [getL] at h
  | x :: r, i, u, v, k, hu, hi, h => by
    rw [getL] at h
    split at h
    · cases h
    · rename_i hn
      have hp : 128 ^ (i + 1) = 128 * 128 ^ i := by rw [Nat.pow_succ, Nat.mul_comm]
      split at h
      · injection h with h; injection h with h1 h2; subst h1 h2
        refine ⟨?_, by omega, by simp⟩
        by_cases h9 : i = 9
        · subst h9
          have : x.toNat * 128 ^ 9 ≤ 1 * 128 ^ 9 := Nat.mul_le_mul_right _ (by omega)
          omega
        · have h1 : x.toNat * 128 ^ i ≤ 127 * 128 ^ i := Nat.mul_le_mul_right _ (by omega)
          have h2 : 128 ^ (i + 1) ≤ 128 ^ 9 := Nat.pow_le_pow_right (by decide) (by omega)
          omega
      · have h9 : i ≠ 9 := by rintro rfl; omega
        have h1 : x.toNat % 128 * 128 ^ i ≤ 127 * 128 ^ i := Nat.mul_le_mul_right _ (by omega)
        have := getL_bound r (i + 1) _ v k (by omega) (by omega) h
        simp only [List.length_cons]; omega

/-! frames -/
def frameL (b : List UInt8) : List UInt8 := if b.length ≤ 262144 then fourL b.length ++ fourL (sealL (fourL b.length) b) ++ b else []
/-- the content of the frame that bytes begin with, how many bytes it is, and the error -/
def unframeL (b : List UInt8) : List UInt8 × Nat × Int :=
  if b.length < 8 then ([], 0, 10)
  else if 262144 < num32 (b.take 4) then ([], 0, 6)
  else if (b.length : Int) - 8 < num32 (b.take 4) then ([], 0, 10)
  else if sealL (b.take 4) ((b.drop 8).take (num32 (b.take 4)).toNat) ≠ num32 ((b.drop 4).take 4) then ([], 0, 8)
  else ((b.drop 8).take (num32 (b.take 4)).toNat, (num32 (b.take 4)).toNat + 8, 0)
theorem sealL_range (a b : List UInt8) : 0 ≤ sealL a b ∧ sealL a b < 4294967296 := by
  have h1 := crcL_range a 4294967295 (by decide) (by decide)
  have h2 := crcL_range b _ h1.1 h1.2
  unfold sealL; omega
theorem frameL_length (c : List UInt8) (h : c.length ≤ 262144) : (frameL c).length = c.length + 8 := by
  unfold frameL; rw [if_pos h]; simp [fourL_length]; omega
theorem frame_take4 (c : List UInt8) (h : c.length ≤ 262144) (r : List UInt8) : (frameL c ++ r).take 4 = fourL c.length := by
  unfold frameL; rw [if_pos h, List.append_assoc, List.append_assoc, List.take_left' (by rfl)]
theorem frame_drop4 (c : List UInt8) (h : c.length ≤ 262144) (r : List UInt8) : ((frameL c ++ r).drop 4).take 4 = fourL (sealL (fourL c.length) c) := by
  unfold frameL; rw [if_pos h, List.append_assoc, List.append_assoc, List.drop_left' (by rfl), List.take_left' (by rfl)]
theorem frame_drop8 (c : List UInt8) (h : c.length ≤ 262144) (r : List UInt8) : (frameL c ++ r).drop 8 = c ++ r := by
  unfold frameL; rw [if_pos h, List.append_assoc, List.drop_left' (by simp [fourL_length])]
theorem unframe_frame (c r : List UInt8) (h : c.length ≤ 262144) : unframeL (frameL c ++ r) = (c, c.length + 8, 0) := by
  have hl := frameL_length c h
  have hn := num32_fourL c.length (by omega) (by omega)
  have hs := sealL_range (fourL c.length) c
  unfold unframeL
  rw [frame_take4 c h r, frame_drop4 c h r, frame_drop8 c h r, hn, num32_fourL _ hs.1 hs.2, Int.toNat_natCast, List.take_left' rfl]
  rw [if_neg (by rw [List.length_append]; omega), if_neg (by omega), if_neg (by rw [List.length_append]; omega), if_neg (by simp)]
/-- A frame that is cut is none. -/
theorem unframe_cut (c : List UInt8) (h : c.length ≤ 262144) (k : Nat) (hk : k < c.length + 8) : unframeL ((frameL c).take k) = ([], 0, 10) := by
  have hl := frameL_length c h
  have hn := num32_fourL c.length (by omega) (by omega)
  have hlk : ((frameL c).take k).length = k := by rw [List.length_take]; omega
  unfold unframeL
  rw [hlk]
  by_cases h8 : k < 8
  · rw [if_pos h8]
  · have h4 : ((frameL c).take k).take 4 = fourL c.length := by
      rw [List.take_take, Nat.min_eq_left (by omega)]
      have := frame_take4 c h []
      rwa [List.append_nil] at this
    rw [if_neg h8, h4, hn, if_neg (by omega), if_pos (by omega)]
/-- A frame with more behind it is shorter than what it begins. -/
theorem seal_app (a b : List UInt8) : sealL a b = 4294967295 - crcL 4294967295 (a ++ b) := by rw [crcL_app]; rfl
/-- One byte turned behind the count: it is corrupt. -/
theorem unframe_turn (c : List UInt8) (h : c.length ≤ 262144) (k : Nat) (h4 : 4 ≤ k) (hk : k < c.length + 8) (y : UInt8) (hy : y ≠ (frameL c).getD k 0) : unframeL ((frameL c).set k y) = ([], 0, 8) := by
  have hl := frameL_length c h
  have hn := num32_fourL c.length (by omega) (by omega)
  have ht4 : ((frameL c).set k y).take 4 = fourL c.length := by
    rw [List.take_set_of_le (by omega)]
    have := frame_take4 c h []
    rwa [List.append_nil] at this
  have hF4 := frame_drop4 c h []
  have hF8 := frame_drop8 c h []
  rw [List.append_nil] at hF4 hF8
  rw [List.append_nil] at hF8
  unfold unframeL
  rw [List.length_set, hl, if_neg (by omega), ht4, hn, if_neg (by omega), if_neg (by omega), Int.toNat_natCast, if_pos]
  by_cases h8 : k < 8
  · -- in the sum
    have e8 : ((frameL c).set k y).drop 8 = c := by rw [List.drop_set_of_lt (by omega), hF8]
    have e4 : (((frameL c).set k y).drop 4).take 4 = (fourL (sealL (fourL c.length) c)).set (k - 4) y := by
      rw [List.drop_set, if_neg (by omega), List.take_set, hF4]
    rw [e8, e4, List.take_of_length_le (Nat.le_refl _)]
    intro he
    have hs := sealL_range (fourL c.length) c
    rw [← num32_fourL _ hs.1 hs.2] at he
    have he2 := num32_inj _ _ (by rfl) (by rw [List.length_set]; rfl) he
    apply hy
    have g1 := congrArg (fun l : List UInt8 => l[k - 4]?) he2
    rw [List.getElem?_set_self (by rw [fourL_length]; omega), ← hF4, List.getElem?_take, if_pos (by omega), List.getElem?_drop] at g1
    rw [show 4 + (k - 4) = k by omega] at g1
    rw [List.getD_eq_getElem?_getD, g1]; rfl
  · have e4 : (((frameL c).set k y).drop 4).take 4 = fourL (sealL (fourL c.length) c) := by
      rw [List.drop_set, if_neg (by omega), List.take_set_of_le (by omega), hF4]
    have e8 : ((frameL c).set k y).drop 8 = c.set (k - 8) y := by rw [List.drop_set, if_neg (by omega), hF8]
    have hs := sealL_range (fourL c.length) c
    rw [e4, num32_fourL _ hs.1 hs.2, e8, List.take_of_length_le (by rw [List.length_set]; omega)]
    intro he
    rw [seal_app, seal_app] at he
    have hj : k - 8 < c.length := by omega
    have hc : c = c.take (k - 8) ++ c[k - 8] :: c.drop (k - 8 + 1) := by rw [List.getElem_cons_drop, List.take_append_drop]
    have hd : c.set (k - 8) y = c.take (k - 8) ++ y :: c.drop (k - 8 + 1) := by
      rw [List.set_eq_take_append_cons_drop, if_pos hj]
    have he3 : crcL 4294967295 (fourL c.length ++ c.set (k - 8) y) = crcL 4294967295 (fourL c.length ++ c) := by omega
    rw [hd] at he3
    have he4 : crcL 4294967295 ((fourL c.length ++ c.take (k - 8)) ++ y :: c.drop (k - 8 + 1)) = crcL 4294967295 ((fourL c.length ++ c.take (k - 8)) ++ c[k - 8] :: c.drop (k - 8 + 1)) := by
      rw [List.append_assoc, List.append_assoc, ← hc]; exact he3
    have := crcL_turn 4294967295 (by unfold In32; omega) _ _ _ _ he4
    apply hy
    have g : (frameL c)[k]? = some c[k - 8] := by
      have g1 : ((frameL c).drop 8)[k - 8]? = some c[k - 8] := by rw [hF8]; exact List.getElem?_eq_getElem hj
      rwa [List.getElem?_drop, show 8 + (k - 8) = k by omega] at g1
    rw [List.getD_eq_getElem?_getD, g]; exact this
end Go.Proofs.Ytefndmjimmbhnaa
end

section
set_option linter.unusedVariables false
set_option linter.unusedSimpArgs false
namespace Go.Proofs.Ytefndmjimmbhnaa
open Go.RowKit

def bcells (l : List UInt8) : List Value := l.map fun b => Value.int .u8 b.toNat
theorem bcells_length (l : List UInt8) : (bcells l).length = l.length := by simp [bcells]
theorem bcells_append (a b : List UInt8) : bcells (a ++ b) = bcells a ++ bcells b := by simp [bcells]
theorem bcells_str (s : ByteArray) : Lib.strCells s = bcells s.toList := by rw [Lib.strCells, bcells, ByteArray.toList_eq]
theorem bcells_get (l : List UInt8) (j : Nat) : (bcells l)[j]? = (l[j]?).map fun b => Value.int .u8 b.toNat := by simp [bcells]
theorem bcells_one (l : List UInt8) : ∀ u ∈ bcells l, u.oneCell' = true := by
  intro u hu; simp only [bcells, List.mem_map] at hu; obtain ⟨b, _, rfl⟩ := hu; rfl
theorem str_len (s : ByteArray) : s.toList.length = s.size := by rw [ByteArray.toList_eq, Array.length_toList]; rfl

/-- The slice value v owns the bytes l, in a block from base on. -/
def OwnB (w : World) (base : Nat) (v : Value) (l : List UInt8) : Prop := w.ownsRow base 5 1 v l.length (bcells l)
/-- What a call that builds bytes leaves: a slice that owns them, in a block from base on. -/
def RetB (base : Nat) (w : World) (l : List UInt8) (e : Ending) (w' : World) : Prop := ∃ v, e = .returned v ∧ OwnB w' base v l ∧ Below base w w'
theorem OwnB.nil (w : World) (base : Nat) : OwnB w base (.slice none 0 0) [] := World.ownsRow_nil w base _ _
theorem OwnB.below {w w1 : World} {base : Nat} {v : Value} {l : List UInt8} (h : OwnB w base v l) (hb : Below w.heap.size w w1) : OwnB w1 base v l :=
  h.kept (row := none) ⟨hb.os, hb.tape, hb.output, hb.size, fun k hk _ => hb.block k hk⟩ (by cases v.ownBlock <;> simp)
theorem OwnB.drew {w : World} {base : Nat} {v : Value} {l : List UInt8} (h : OwnB w base v l) : OwnB w.drew base v l := World.ownsRow.drew h
theorem OwnB.drewN {w : World} {base n : Nat} {v : Value} {l : List UInt8} (h : OwnB w base v l) : OwnB (w.drewN n) base v l := h.below (below_drewN (Below.refl _ _) n)
theorem OwnB.alloc {w : World} {base : Nat} {v : Value} {l : List UInt8} (h : OwnB w base v l) (o : Obj) : OwnB (w.alloc o) base v l := World.ownsRow.alloc h o
theorem OwnB.base {w : World} {base : Nat} {v : Value} {l : List UInt8} (h : OwnB w base v l) : ∀ k, v.ownBlock = some k → base ≤ k := fun k hk => (World.ownsRow.lt h k hk).1
theorem OwnB.weaken {w : World} {base base' : Nat} {v : Value} {l : List UInt8} (h : OwnB w base v l) (hb : base' ≤ base) : OwnB w base' v l := by
  obtain ⟨h1, h2⟩ := h
  refine ⟨h1, ?_⟩
  rcases h2 with h2 | ⟨g, cap, cur, e, hg, r⟩
  · exact .inl h2
  · exact .inr ⟨g, cap, cur, e, Nat.le_trans hb hg, r⟩
theorem OwnB.len {w : World} {base : Nat} {v : Value} {l : List UInt8} (h : OwnB w base v l) : l.length ≤ 9223372036854775807 := by
  rcases h.2 with ⟨_, h0⟩ | ⟨g, cap, cur, _, _, _, h1, h2, _⟩
  · omega
  · unfold maxLen at h2; omega

theorem bcells_one_byte {n : Int} (h0 : 0 ≤ n) (h1 : n < 256) : [Value.int .u8 n] = bcells [byteOf n] := by
  simp [bcells, byteOf_val h0 h1]
theorem take_snoc {α : Type} (l : List α) (k : Nat) (x : α) (h : l[k]? = some x) : l.take (k + 1) = l.take k ++ [x] := by
  rw [List.take_add_one, h]; rfl

theorem infoByte : (Try.prog.info? 5).map (fun i => (i.zero, i.size, i.bytes)) = some (some (.int .u8 0), 1, 1) := by kernel_rfl

section
variable {ops : Array Oper} {rest : List Oper} {o : Oper} {a : Act} {Q : Exit → Act → World → Prop} {W w0 : World}
/-- append(s, t...), t a text. -/
theorem ap_str (hgd : o.guard = none) (s x : Operand) (ho : o.op = .call { callee := .builtin .append, args := #[s, x], argTypes := #[69, 9] })
    (base : Nat) (v : Value) (l : List UInt8) (y : ByteArray) (hs : a.eval s = v) (hx : a.eval x = .string y) (HO : OwnB W base v l) (HB : Below base w0 W) (hbase : base ≤ W.heap.size) (hl : l.length + y.size ≤ 140737488355328)
    (h : ∀ v1 w1, OwnB w1 base v1 (l ++ y.toList) → Below base w0 w1 → base ≤ w1.heap.size → W.grownBy w1 v.ownBlock → wpList Try.prog ops Q rest (a.put o.dst v1) w1) : wpList Try.prog ops Q (o :: rest) a W := by
  obtain ⟨i0, hi, hz0, hz1, hz2⟩ := info_parts infoByte
  refine Lib.wpList_append_own_string W hgd s x _ _ ho base 5 i0 Try.underlying69 Try.underlying9 hi hz0 hz1 hz2 v l.length (bcells l) hs HO y hx (by simp only [maxLen]; omega) hl hbase ?_
  intro v1 w1 hown hg _
  refine h v1 w1 ?_ (HB.grown hg hbase HO.base) (Nat.le_trans hbase hg.size) hg
  unfold OwnB
  rw [List.length_append, str_len, bcells_append, ← bcells_str]
  exact hown
/-- append(s, t...), t bytes that lie in memory. -/
theorem ap_bytes (hgd : o.guard = none) (s x : Operand) (ho : o.op = .call { callee := .builtin .append, args := #[s, x], argTypes := #[69, 69] })
    (base : Nat) (v : Value) (l : List UInt8) (news : List UInt8) (ad : Addr) (m c : Nat) (hs : a.eval s = v) (hx : a.eval x = .slice (some ad) m c) (hm : m = news.length)
    (hn : ∀ j u, (bcells news)[j]? = some u → W.cell? (ad.add j) = some u) (HO : OwnB W base v l) (HB : Below base w0 W) (hbase : base ≤ W.heap.size) (hl : l.length + news.length ≤ 140737488355328)
    (h : ∀ v1 w1, OwnB w1 base v1 (l ++ news) → Below base w0 w1 → base ≤ w1.heap.size → W.grownBy w1 v.ownBlock → wpList Try.prog ops Q rest (a.put o.dst v1) w1) : wpList Try.prog ops Q (o :: rest) a W := by
  subst hm
  obtain ⟨i0, hi, hz0, hz1, hz2⟩ := info_parts infoByte
  refine wpList_append_own _ hgd s x _ ho base 5 i0 _ 1 1 Try.underlying69 hi hz0 hz1 hz2 rfl (by decide) v l.length (bcells l) hs HO ad news.length c (bcells news) hx (by rw [bcells_length]; omega) hn (bcells_one news) (by simp only [maxLen]; omega) (by omega) hbase ?_
  intro v1 w1 hown hg _
  refine h v1 w1 ?_ (HB.grown hg hbase HO.base) (Nat.le_trans hbase hg.size) hg
  unfold OwnB
  rw [List.length_append, bcells_append]
  exact hown
/-- append(s, a) .. append(s, a, b): the few new bytes lie in a block of their own. -/
theorem lit_cells {w : World} {g : Nat} {news : List UInt8} {cs : Array Value} {t : TypeId} (h : w.heap[g]? = some (.cells cs t (0, 0))) (hc : cs.toList = bcells news) : ∀ j u, (bcells news)[j]? = some u → w.cell? ((⟨g, 0, none⟩ : Addr).add j) = some u := by
  intro j u hj
  have e : (⟨g, 0, none⟩ : Addr).add j = ⟨g, j, none⟩ := by unfold Addr.add; split <;> simp_all
  rw [e]
  have : cs[j]? = some u := by rw [← Array.getElem?_toList, hc]; exact hj
  simp [World.cell?, h, this]
/-- .. the bytes lie in the block that was made last. -/
theorem ap_lit (hgd : o.guard = none) (s x : Operand) (ho : o.op = .call { callee := .builtin .append, args := #[s, x], argTypes := #[69, 69] })
    (base : Nat) (v : Value) (l : List UInt8) (news : List UInt8) (cs : Array Value) (m c : Nat) (hs : a.eval s = v) (hx : a.eval x = .slice (some ⟨W.heap.size, 0, none⟩) m c) (hm : m = news.length)
    (hcs : cs.toList = bcells news) (HO : OwnB W base v l) (HB : Below base w0 W) (hbase : base ≤ W.heap.size) (hl : l.length + news.length ≤ 140737488355328)
    (h : ∀ v1 w1, OwnB w1 base v1 (l ++ news) → Below base w0 w1 → base ≤ w1.heap.size → wpList Try.prog ops Q rest (a.put o.dst v1) w1) : wpList Try.prog ops Q (o :: rest) a (W.alloc (.cells cs 5)) :=
  ap_bytes hgd s x ho base v l news ⟨W.heap.size, 0, none⟩ m c hs hx hm (lit_cells (heap_last _ _) hcs) (HO.alloc _) (below_al HB _ hbase) (by simp; omega) hl (fun v1 w1 h1 h2 h3 _ => h v1 w1 h1 h2 h3)
end

/-- a text's value out of a list of bytes -/
abbrev sv (l : List UInt8) : Value := .string ⟨l.toArray⟩
theorem size_mk (l : List UInt8) : (⟨l.toArray⟩ : ByteArray).size = l.length := List.size_toArray
theorem toList_mk (l : List UInt8) : (⟨l.toArray⟩ : ByteArray).toList = l := ByteArray.toList_mk l
theorem sv_toList (s : ByteArray) : sv s.toList = .string s := by rw [ByteArray.toList_eq]
/-- string(b): bytes that lie in memory, as a text -/
theorem conv_at (W : World) (b off c n : Nat) (l : List UInt8) (hn : n = l.length) (hc : ∀ j u, (bcells l)[j]? = some u → W.cell? ⟨b, off + j, none⟩ = some u) :
    (convert 69 9 (.slice (some ⟨b, off, none⟩) n c)).run Try.prog W = .ok (sv l) W := by
  subst hn
  have h := run_convert_bytes_arg (P := Try.prog) W 69 5 Try.underlying69 Try.underlying5 b off l.length c (l.map fun x => (x.toNat : Int)) (by simp) (fun i hi => by
    have hx : (bcells l)[i]? = some (.int .u8 (l[i].toNat : Int)) := by rw [bcells_get, List.getElem?_eq_getElem hi]; rfl
    rw [hc i _ hx]; simp [List.getD_eq_getElem?_getD, List.getElem?_eq_getElem hi]) 9 Try.underlying9
  have e : strOfNums (l.map fun x => (x.toNat : Int)) = ⟨l.toArray⟩ := by
    unfold strOfNums
    rw [List.map_map, show ((fun n : Int => UInt8.ofNat n.toNat) ∘ fun x : UInt8 => (x.toNat : Int)) = id by funext x; simp, List.map_id]
  rw [h, e]
theorem conv_own {W : World} {base : Nat} {v : Value} {l : List UInt8} (h : OwnB W base v l) : (convert 69 9 v).run Try.prog W = .ok (sv l) W := by
  rcases h.2 with ⟨rfl, h0⟩ | ⟨g, cap, cur, rfl, hg, _⟩
  · obtain rfl : l = [] := List.eq_nil_of_length_eq_zero h0
    exact run_convert_bytes_nil W 69 5 Try.underlying69 Try.underlying5 0 0 9 Try.underlying9
  · refine conv_at W g 0 cap l.length l rfl (fun j u hj => ?_)
    have := World.ownsRow.cells h (g := g) rfl j u hj
    rwa [show (⟨g, 0, none⟩ : Addr).add j = ⟨g, 0 + j, none⟩ by unfold Addr.add; split <;> simp_all] at this
theorem conv_lit (W : World) (n : Int) (h0 : 0 ≤ n) (h1 : n < 256) : (convert 69 9 (.slice (some ⟨W.heap.size, 0, none⟩) 1 1)).run Try.prog (W.alloc (.cells #[.int .u8 n] 5)) = .ok (sv [byteOf n]) (W.alloc (.cells #[.int .u8 n] 5)) := by
  refine conv_at _ _ 0 1 1 [byteOf n] rfl (fun j u hj => ?_)
  have := lit_cells (heap_last W (.cells #[.int .u8 n] 5)) (bcells_one_byte h0 h1) j u hj
  rwa [show (⟨W.heap.size, 0, none⟩ : Addr).add j = ⟨W.heap.size, 0 + j, none⟩ by unfold Addr.add; split <;> simp_all] at this

/-- The slice value v reads as the bytes l (as a text). -/
def ReadsB (W : World) (v : Value) (l : List UInt8) : Prop := (convert 69 9 v).run Try.prog W = .ok (sv l) W
theorem ReadsB.out {W : World} {v : Value} {l : List UInt8} (h : ReadsB W v l) : (convert 69 9 v).run Try.prog W = .ok (sv l) W := h

theorem OwnB.reads {W : World} {base : Nat} {v : Value} {l : List UInt8} (h : OwnB W base v l) : ReadsB W v l := conv_own h
theorem add0 (g j : Nat) : (⟨g, 0, none⟩ : Addr).add j = ⟨g, 0 + j, none⟩ := by unfold Addr.add; split <;> simp_all
theorem reads_lit (W : World) (cs : Array Value) (l : List UInt8) (n c : Nat) (hn : n = l.length) (hcs : cs.toList = bcells l) : ReadsB (W.alloc (.cells cs 5)) (.slice (some ⟨W.heap.size, 0, none⟩) n c) l := by
  refine conv_at _ _ 0 c n _ hn (fun j u hj => ?_)
  have := lit_cells (heap_last W (.cells cs 5)) hcs j u hj
  rwa [add0] at this

/-- What the library's variables hold. -/
structure Env (w : World) : Prop where
theorem Env.below {w w1 : World} (h : Env w) (hb : Below w.heap.size w w1) : Env w1 where
end Go.Proofs.Ytefndmjimmbhnaa
end
