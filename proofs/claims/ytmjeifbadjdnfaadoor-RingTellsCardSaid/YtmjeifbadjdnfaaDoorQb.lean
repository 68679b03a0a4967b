/- Contracts of murmur's Sum. Conditions: at most a million bytes; the seed is of uint64. -/
import Derived.Test.YtmjeifbadjdnfaaDoorQa
import Derived.Deep.RegionWith
import Derived.Deep.RegionLaw
set_option linter.unusedVariables false
set_option linter.unusedSimpArgs false
set_option maxRecDepth 20000
namespace Go.Proofs.YtmjeifbadjdnfaaDoor
open Go.RowKit

/-- the sum's two variables -/
structure HG (gh gg : Nat) (W : World) (h g : Int) : Prop where
  h0 : W.cell? ⟨gh, 0, none⟩ = some (.int .u64 h)
  g0 : W.cell? ⟨gg, 0, none⟩ = some (.int .u64 g)
  fh : W.frozen? ⟨gh, 0, none⟩ = false
  fg : W.frozen? ⟨gg, 0, none⟩ = false
  hr : 0 ≤ h ∧ h < 18446744073709551616
  gr : 0 ≤ g ∧ g < 18446744073709551616
  hne : gh ≠ gg
theorem HG.put {gh gg : Nat} {W : World} {h g : Int} (hh : HG gh gg W h g) :
    (∀ x, 0 ≤ x → x < 18446744073709551616 → HG gh gg (W.setCell ⟨gh, 0, none⟩ (.int .u64 x)) x g) ∧ (∀ x, 0 ≤ x → x < 18446744073709551616 → HG gh gg (W.setCell ⟨gg, 0, none⟩ (.int .u64 x)) h x) := by
  obtain ⟨h0, g0, fh, fg, hr, gr, hne⟩ := hh
  have hne' : gg ≠ gh := fun e => hne e.symm
  refine ⟨fun x a b => ⟨?_, ?_, ?_, ?_, ⟨a, b⟩, gr, hne⟩, fun x a b => ⟨?_, ?_, ?_, ?_, hr, ⟨a, b⟩, hne⟩⟩ <;> go_simp
def AddPost (gh gg : Nat) (w : World) (h g : Int) (e : Ending) (w' : World) : Prop := e = .returned (.tuple #[]) ∧ HG gh gg w' h g ∧ But (Two gh gg) w w'
set_option maxHeartbeats 1000000 in
theorem add_any (gh gg : Nat) (h g : Int) (w : World) (hh : HG gh gg w h g) :
    Calls Tryd.prog 93 #[.pointer (some ⟨gh, 0, none⟩), .pointer (some ⟨gg, 0, none⟩)] w (AddPost gh gg w (IntKind.u64.wrap (h + g)) (IntKind.u64.wrap (g + IntKind.u64.wrap (h + g)))) := by
  have H1 := Lib.hid (hh.put.1 (IntKind.u64.wrap (h + g)) (w64_range _).1 (w64_range _).2)
  have H2 := Lib.hid (H1.out.put.2 (IntKind.u64.wrap (g + IntKind.u64.wrap (h + g))) (w64_range _).1 (w64_range _).2)
  obtain ⟨h0, g0, fh, fg, _, _, hne⟩ := hh
  have hne' : gg ≠ gh := fun e => hne e.symm
  go_enter Tryd.func93, Tryd.ntmps93
  go_wp2_with fail
  go_end0
  exact ⟨rfl, H2.out, ((But.refl _ w).setCell (p := ⟨gh, 0, none⟩) (.inl rfl) _).setCell (p := ⟨gg, 0, none⟩) (.inr rfl) _⟩

/-! the blocks of sixteen bytes -/
def mmStep (h g : Int) (b : List UInt8) : Int × Int :=
  let h' := IntKind.u64.wrap (IntKind.u64.wrap (IntKind.u64.wrap (rotI (Go.bits .xor .u64 h (lowI b)) 27 + g) * 5) + 1390208809)
  (h', IntKind.u64.wrap (IntKind.u64.wrap (IntKind.u64.wrap (rotI (Go.bits .xor .u64 g (highI (b.drop 8))) 31 + h') * 5) + 944331445))
def mmLoop : Nat → Int → Int → List UInt8 → Int × Int × List UInt8
  | 0, h, g, b => (h, g, b)
  | n + 1, h, g, b => if b.length < 16 then (h, g, b) else mmLoop n (mmStep h g b).1 (mmStep h g b).2 (b.drop 16)
theorem mmLoop_stop (n : Nat) (h g : Int) (b : List UInt8) (hb : b.length < 16) : mmLoop n h g b = (h, g, b) := by
  cases n with
  | zero => rfl
  | succ n => simp only [mmLoop]; rw [if_pos hb]
theorem mmLoop_go (n : Nat) (h g : Int) (b : List UInt8) (hb : ¬ b.length < 16) : mmLoop (n + 1) h g b = mmLoop n (mmStep h g b).1 (mmStep h g b).2 (b.drop 16) := by
  simp only [mmLoop]; rw [if_neg hb]
def mmEnd (n : Int) (r : Int × Int × List UInt8) : Int × Int :=
  let g1 := if 8 < r.2.2.length then Go.bits .xor .u64 r.2.1 (highI (r.2.2.drop 8)) else r.2.1
  let h1 := if 0 < r.2.2.length then Go.bits .xor .u64 r.1 (lowI r.2.2) else r.1
  let h2 := Go.bits .xor .u64 h1 n
  let g2 := Go.bits .xor .u64 g1 n
  let h3 := IntKind.u64.wrap (h2 + g2)
  let g3 := IntKind.u64.wrap (g2 + h3)
  let h4 := mixI h3
  let g4 := mixI g3
  let h5 := IntKind.u64.wrap (h4 + g4)
  (h5, IntKind.u64.wrap (g4 + h5))
def mmSum (b : List UInt8) (seed : Int) : Int × Int := mmEnd (b.length : Int) (mmLoop b.length seed seed b)
end Go.Proofs.YtmjeifbadjdnfaaDoor
