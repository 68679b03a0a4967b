/- Contracts of purge's having and of its closure. Conditions: keys of the bounds, at most a million cells. Contracts of cmp.Compare, of key's first, Cmp and Row: each returns what a plain function says, and the world is as it was but for draws and new blocks. No condition. Contract of the reference's Cmp of keys. No condition. -/
import Derived.Test.YtefndmjimmbhnaaZ07
import Derived.Test.YtefndmjimmbhnaaProg
import Derived.Test.YtefndmjimmbhnaaZ00
section
set_option linter.unusedVariables false
set_option linter.unusedSimpArgs false
set_option maxRecDepth 50000
namespace Go.Proofs.Ytefndmjimmbhnaa
open Go.RowKit Go.Sort

/-- the ten cells of an element -/
structure Ten (w : World) (g o : Nat) (c : Cel) : Prop where
  c0 : w.cell? ⟨g, o, none⟩ = some (.string c.k.t)
  c1 : w.cell? ⟨g, o + 1, none⟩ = some (.string c.k.p)
  c2 : w.cell? ⟨g, o + 2, none⟩ = some (.int .i64 c.k.r)
  c3 : w.cell? ⟨g, o + 3, none⟩ = some (.string c.k.c)
  c4 : w.cell? ⟨g, o + 4, none⟩ = some (.int .i64 c.v.time)
  c5 : w.cell? ⟨g, o + 5, none⟩ = some (.bool c.v.dead)
  c6 : w.cell? ⟨g, o + 6, none⟩ = some (.int .i64 c.v.loc)
  c7 : w.cell? ⟨g, o + 7, none⟩ = some (.int .i64 c.v.kind)
  c8 : w.cell? ⟨g, o + 8, none⟩ = some (.int .i64 c.v.n)
  c9 : w.cell? ⟨g, o + 9, none⟩ = some (.string c.v.s)
theorem Ten.of {B : Nat} {w : World} {l : List Cel} {g o n c : Nat} (h : SlX eC B w (.slice (some ⟨g, o, none⟩) n c) l) (j : Nat) (hj : j < l.length) : Ten w g (o + j * 10) l[j] :=
  ⟨h.cell j 0 hj rfl, h.cell j 1 hj rfl, h.cell j 2 hj rfl, h.cell j 3 hj rfl, h.cell j 4 hj rfl, h.cell j 5 hj rfl, h.cell j 6 hj rfl, h.cell j 7 hj rfl, h.cell j 8 hj rfl, h.cell j 9 hj rfl⟩
theorem Ten.keep {w w1 : World} {g o : Nat} {c : Cel} (h : Ten w g o c) (hb : Below w.heap.size w w1) : Ten w1 g o c :=
  ⟨cell_keep hb h.c0, cell_keep hb h.c1, cell_keep hb h.c2, cell_keep hb h.c3, cell_keep hb h.c4, cell_keep hb h.c5, cell_keep hb h.c6, cell_keep hb h.c7, cell_keep hb h.c8, cell_keep hb h.c9⟩

end Go.Proofs.Ytefndmjimmbhnaa
end

section
set_option linter.unusedVariables false
set_option linter.unusedSimpArgs false
namespace Go.Proofs.Ytefndmjimmbhnaa
open Go.RowKit

def cmpI (a b : Int) : Int := if a < b then -1 else if b < a then 1 else 0
def cmpS (a b : ByteArray) : Int := if Op.bytesLess a.toList b.toList = true then -1 else if (!a.toList == b.toList) = true then 1 else 0

/-- the place of the first number that is not 0, from k on -/
def nz (xs : List Int) (k : Nat) : Int := if h : k < xs.length then (if xs[k] != 0 then (k : Int) else nz xs (k + 1)) else -1
  termination_by xs.length - k
theorem nz_bound (xs : List Int) (k : Nat) : nz xs k < xs.length ∧ (nz xs k = -1 ∨ 0 ≤ nz xs k) := by
  fun_induction nz xs k with
  | case1 k h h1 => omega
  | case2 k h h1 ih => exact ih
  | case3 k h => omega

/-- the first number that is not 0 -/
def firstOf (xs : List Int) : Int := if nz xs 0 < 0 then 0 else xs.getD (nz xs 0).toNat 0

structure KeyV where
  t : ByteArray
  p : ByteArray
  r : Int
  c : ByteArray
def KeyV.val (k : KeyV) : Value := .agg #[.string k.t, .string k.p, .int .i64 k.r, .string k.c]
def cmpK (a b : KeyV) : Int := firstOf [cmpS a.t b.t, cmpS a.p b.p, cmpI a.r b.r, cmpS a.c b.c]

end Go.Proofs.Ytefndmjimmbhnaa
end

section
set_option linter.unusedVariables false
set_option linter.unusedSimpArgs false
set_option maxRecDepth 50000
namespace Go.Proofs.Ytefndmjimmbhnaa
open Go.RowKit Go.Lib

def cmpR (at_ ap ac bt bp bc : ByteArray) (ar br : Int) : Int :=
  if (!at_.toList == bt.toList) = true then cmpS at_ bt else if (!ap.toList == bp.toList) = true then cmpS ap bp else if ar < br then -1 else if br < ar then 1 else cmpS ac bc

end Go.Proofs.Ytefndmjimmbhnaa
end
