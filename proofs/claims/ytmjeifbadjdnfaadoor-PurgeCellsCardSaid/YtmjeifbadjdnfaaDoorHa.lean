/- Cells as values; contracts of the law's dead, of purge's Old. Conditions: numbers are ints. -/
import Derived.Test.YtmjeifbadjdnfaaDoorEl
set_option linter.unusedVariables false
set_option linter.unusedSimpArgs false
set_option maxRecDepth 20000
namespace Go.Proofs.YtmjeifbadjdnfaaDoor
open Go.RowKit Go.Sort

structure Ky where
  t : ByteArray
  p : ByteArray
  r : Int
  c : ByteArray
structure Vr where
  time : Int
  dead : Bool
  loc : Int
  kind : Int
  n : Int
  s : ByteArray
structure Cel where
  k : Ky
  v : Vr
def kyEnc (k : Ky) : List Value := [.string k.t, .string k.p, .int .i64 k.r, .string k.c]
def vrEnc (v : Vr) : List Value := [.int .i64 v.time, .bool v.dead, .int .i64 v.loc, .int .i64 v.kind, .int .i64 v.n, .string v.s]
def celEnc (c : Cel) : List Value := [.string c.k.t, .string c.k.p, .int .i64 c.k.r, .string c.k.c, .int .i64 c.v.time, .bool c.v.dead, .int .i64 c.v.loc, .int .i64 c.v.kind, .int .i64 c.v.n, .string c.v.s]
theorem celEnc_one : ∀ (x : Cel) (u : Value), u ∈ celEnc x → u.oneCell' = true := fun x u hu => by
  simp [celEnc] at hu
  rcases hu with rfl | rfl | rfl | rfl | rfl | rfl | rfl | rfl | rfl | rfl <;> rfl
def zCel : Value := .agg #[.string ⟨#[]⟩, .string ⟨#[]⟩, .int .i64 0, .string ⟨#[]⟩, .int .i64 0, .bool false, .int .i64 0, .int .i64 0, .int .i64 0, .string ⟨#[]⟩]
theorem infoCel : (Tryd.prog.info? 35).map (fun i => (i.zero, i.size, i.bytes)) = some (some zCel, 10, 112) := by kernel_rfl
/-- cells -/
def eC : El Cel := { st := 22, t := 35, size := 10, bytes := 112, z := zCel, enc := celEnc, len := fun _ => rfl, one := celEnc_one, info := infoCel, und := Tryd.underlying22, elem := by kernel_rfl, zs := by kernel_rfl, pos := by decide }

def cDead (s : ByteArray) (i : Int) : Cel := ⟨⟨⟨#[116]⟩, ⟨#[120]⟩, 0, s⟩, ⟨1, true, i, 0, 0, ⟨#[]⟩⟩⟩
theorem dead_any (s : ByteArray) (i : Int) (w : World) : Calls Tryd.prog 36 #[.string s, .int .i64 i] w fun e w' => e = .returned (.agg (celEnc (cDead s i)).toArray) ∧ Below w.heap.size w w' := by
  go_enter Tryd.func36, Tryd.ntmps36
  go_wp2_with fail
  exact bodyPost_ret (v := .agg #[.string ⟨#[116]⟩, .string ⟨#[120]⟩, .int .i64 0, .string s, .int .i64 1, .bool true, .int .i64 i, .int .i64 0, .int .i64 0, .string ⟨#[]⟩]) (by simp [results, Tryd.results36, go_sem]) rfl ⟨rfl, by (repeat (first | exact Below.refl _ _ | assumption | refine below_alloc ?_ _ | refine Below.drew ?_ | refine below_drewN ?_ _ | refine below_tr ?_ (by assumption)))⟩

def In64 (n : Int) : Prop := -9223372036854775808 ≤ n ∧ n ≤ 9223372036854775807
def oldV (v : Vr) (now g : Int) : Bool := v.dead && (decide (v.loc ≤ now) && decide (max g 0 ≤ now - v.loc))
theorem Old_any (v : Vr) (now g : Int) (w : World) (h1 : In64 v.loc) (h2 : In64 now) (h3 : In64 g) : Calls Tryd.prog 13 #[.agg (vrEnc v).toArray, .int .i64 now, .int .i64 g] w fun e w' => e = .returned (.bool (oldV v now g)) ∧ Below w.heap.size w w' := by
  obtain ⟨t, d, l, k, n, s⟩ := v
  unfold In64 at h1 h2 h3
  simp only [vrEnc, oldV] at *
  cases d with
  | false =>
    go_enter Tryd.func13, Tryd.ntmps13
    go_wp2_with fail
    go_ret
    exact ⟨rfl, below_alloc (Below.refl _ _) _⟩
  | true =>
    by_cases hl : l ≤ now
    · have hw : IntKind.u64.wrap (wrap64 (now - l)) = now - l := by rw [IntKind.wrap_u64]; unfold wrap64; omega
      have HW := Lib.hid hw
      rw [decide_eq_true hl]
      by_cases hg : 0 ≤ g
      · have hw2 : IntKind.u64.wrap g = g := by rw [IntKind.wrap_u64]; omega
        rw [show max g 0 = g by omega]
        have HW2 := Lib.hid hw2
        clear h1 h2 h3 hw hw2
        go_enter Tryd.func13, Tryd.ntmps13
        go_wp2_with fail
        go_ret
        exact ⟨by rw [HW.out, HW2.out]; rfl, below_alloc (Below.refl _ _) _⟩
      · rw [show max g 0 = 0 by omega]
        have H0 := Lib.hid (show (0 : Int) ≤ now - l by omega)
        clear h1 h2 h3 hw
        go_enter Tryd.func13, Tryd.ntmps13
        go_wp2_with fail
        go_ret
        exact ⟨by first | rfl | (rw [HW.out]; rfl) | (rw [decide_eq_true H0.out]; rfl) | (rw [HW.out, decide_eq_true H0.out]; rfl), below_alloc (Below.refl _ _) _⟩
    · rw [decide_eq_false hl]
      clear h1 h2 h3
      go_enter Tryd.func13, Tryd.ntmps13
      go_wp2_with fail
      go_ret
      exact ⟨rfl, below_alloc (Below.refl _ _) _⟩
end Go.Proofs.YtmjeifbadjdnfaaDoor
