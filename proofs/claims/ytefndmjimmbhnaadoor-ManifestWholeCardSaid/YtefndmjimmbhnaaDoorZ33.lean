/- Contracts of the reference's File and of what manifest's Read does for each number. Conditions: at most a million bytes. -/
import Derived.Test.YtefndmjimmbhnaaDoorZ32
section
set_option linter.unusedVariables false
set_option linter.unusedSimpArgs false
set_option maxRecDepth 20000
namespace Go.Proofs.YtefndmjimmbhnaaDoor
open Go.RowKit

/-- Read's two variables: the bytes that are left, and whether all is well. -/
structure NS (B gc gk : Nat) (W : World) (c : List UInt8) (ok : Bool) : Prop where
  ex : ∃ a n cp, W.cell? ⟨gc, 0, none⟩ = some (.slice a n cp) ∧ SlB B W (.slice a n cp) c
  k0 : W.cell? ⟨gk, 0, none⟩ = some (.bool ok)
  fc : W.frozen? ⟨gc, 0, none⟩ = false
  fk : W.frozen? ⟨gk, 0, none⟩ = false
  hne : gc ≠ gk
  hb : B ≤ gc ∧ B ≤ gk
def NextPost (B gc gk : Nat) (w : World) (r : Int × Bool × List UInt8) (e : Ending) (w' : World) : Prop := e = .returned (.int .i64 r.1) ∧ NS B gc gk w' r.2.2 r.2.1 ∧ But (Two gc gk) w w'

set_option maxHeartbeats 1000000 in
theorem next_any (B gc gk : Nat) (c : List UInt8) (ok : Bool) (w : World) (h : NS B gc gk w c ok) (hl : c.length ≤ 1000000) :
    Calls Tryd.prog 53 #[.pointer (some ⟨gc, 0, none⟩), .pointer (some ⟨gk, 0, none⟩)] w (NextPost B gc gk w (nextM ok c)) := by
  obtain ⟨⟨a, n, cp, c0, hv⟩, k0, fc, fk, hne, hb1, hb2⟩ := h
  have HV := Lib.hid hv
  have hne' : gk ≠ gc := fun e => hne e.symm
  obtain ⟨a', cp', he, hcc, _⟩ := hv.ex
  injection he with e1 e2 e3
  subst e1 e2 e3
  have G := Lib.hid (Get_any (.slice a c.length cp) c B w HV.out hl)
  have fin : ∀ (k : Nat) (ok2 : Bool), k ≤ c.length → ∀ a' n' c', cutV (.slice a c.length cp) k = .slice a' n' c' → NS B gc gk ((w.setCell ⟨gk, 0, none⟩ (.bool ok2)).setCell ⟨gc, 0, none⟩ (.slice a' n' c')) (c.drop k) ok2 := by
    intro k ok2 hk a' n' c' hv'
    have cut := HV.out.cut k hk
    rw [hv'] at cut
    have hB : Below B w ((w.setCell ⟨gk, 0, none⟩ (.bool ok2)).setCell ⟨gc, 0, none⟩ (.slice a' n' c')) := ((Below.refl B w).setCell (p := ⟨gk, 0, none⟩) hb2 _).setCell (p := ⟨gc, 0, none⟩) hb1 _
    refine ⟨⟨a', n', c', ?_, cut.below hB⟩, ?_, ?_, ?_, hne, hb1, hb2⟩ <;> go_simp
  have FIN := Lib.hid fin; clear fin
  have but : ∀ (u v : Value), But (Two gc gk) w ((w.setCell ⟨gk, 0, none⟩ u).setCell ⟨gc, 0, none⟩ v) := fun u v =>
    ((But.refl _ w).setCell (p := ⟨gk, 0, none⟩) (.inr rfl) u).setCell (p := ⟨gc, 0, none⟩) (.inl rfl) v
  have BUT := Lib.hid but; clear but
  clear hv
  rcases hg : getL 0 0 c with _ | ⟨u, k⟩
  · have e : nextM ok c = (0, false, c) := nextM_none hg
    rw [e]
    rw [hg] at G
    have cr := HV.out.cut_run 0 (by omega)
    obtain ⟨a', n', c', hv'⟩ : ∃ a' n' c', cutV (.slice a c.length cp) 0 = .slice a' n' c' := ⟨_, _, _, rfl⟩
    have F := Lib.hid (FIN.out 0 false (by omega) a' n' c' hv')
    rw [hv', show ((0 : Nat) : Int) = 0 from rfl] at cr
    clear e hg hv'
    rcases ok with _ | _
    · go_enter Tryd.func53, Tryd.ntmps53
      go_wp2_with fail
      refine G.out.mono ?_
      rintro e w1 ⟨he, rfl⟩
      rw [show getV none = .returned (.tuple #[.int .u64 0, .int .i64 0]) from rfl] at he
      subst he
      go_wp2_with fail
      go_ret
      exact ⟨rfl, F.out, BUT.out _ _⟩
    · go_enter Tryd.func53, Tryd.ntmps53
      go_wp2_with fail
      refine G.out.mono ?_
      rintro e w1 ⟨he, rfl⟩
      rw [show getV none = .returned (.tuple #[.int .u64 0, .int .i64 0]) from rfl] at he
      subst he
      go_wp2_with fail
      go_ret
      exact ⟨rfl, F.out, BUT.out _ _⟩
  · have e : nextM ok c = (wrap64 (u : Int), ok && decide ((u : Int) ≤ 999999999), c.drop k) := nextM_some hg
    have gp := getL0_pos hg
    have hkl : k ≤ c.length := by omega
    have hu64 : u < 18446744073709551616 := by omega
    have hk0 : 0 < k := by omega
    rw [e]
    rw [hg] at G
    have cr := HV.out.cut_run k hkl
    obtain ⟨a', n', c', hv'⟩ : ∃ a' n' c', cutV (.slice a c.length cp) k = .slice a' n' c' := ⟨_, _, _, rfl⟩
    have F := Lib.hid (fun b => FIN.out k b hkl a' n' c' hv')
    rw [hv'] at cr
    clear e hg hv' gp
    rcases ok with _ | _
    · go_enter Tryd.func53, Tryd.ntmps53
      go_wp2_with fail
      refine G.out.mono ?_
      rintro e w1 ⟨he, rfl⟩
      rw [show getV (some (u, k)) = .returned (.tuple #[.int .u64 (u : Int), .int .i64 (k : Int)]) from rfl] at he
      subst he
      go_wp2_with fail
      go_ret
      exact ⟨rfl, F.out _, BUT.out _ _⟩
    · rcases hd : decide ((u : Int) ≤ 999999999) with _ | _
      · have hgt : (999999999 : Int) < (u : Int) := by have := of_decide_eq_false hd; omega
        go_enter Tryd.func53, Tryd.ntmps53
        go_wp2_with fail
        refine G.out.mono ?_
        rintro e w1 ⟨he, rfl⟩
        rw [show getV (some (u, k)) = .returned (.tuple #[.int .u64 (u : Int), .int .i64 (k : Int)]) from rfl] at he
        subst he
        go_wp2_with fail
        go_ret
        exact ⟨rfl, F.out _, BUT.out _ _⟩
      · have hgt : (u : Int) ≤ 999999999 := of_decide_eq_true hd
        go_enter Tryd.func53, Tryd.ntmps53
        go_wp2_with fail
        refine G.out.mono ?_
        rintro e w1 ⟨he, rfl⟩
        rw [show getV (some (u, k)) = .returned (.tuple #[.int .u64 (u : Int), .int .i64 (k : Int)]) from rfl] at he
        subst he
        go_wp2_with fail
        go_ret
        refine ⟨?_, F.out _, BUT.out _ _⟩
        exact ret_i (by simp only; rw [wrap64_small u hgt])
end Go.Proofs.YtefndmjimmbhnaaDoor
end
