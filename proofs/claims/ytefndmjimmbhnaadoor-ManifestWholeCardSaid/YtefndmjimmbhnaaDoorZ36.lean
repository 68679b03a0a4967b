/- Contracts of manifest's steps over four closures, and of Store's closures. Conditions: as told at each. -/
import Derived.Test.YtefndmjimmbhnaaDoorZ35
section
set_option linter.unusedVariables false
set_option linter.unusedSimpArgs false
set_option maxRecDepth 50000
namespace Go.Proofs.YtefndmjimmbhnaaDoor
open Go.RowKit Go.Shelf

/-- four closures in a row of memory -/
structure Four (W : World) (g : Nat) (f1 f2 f3 f4 : Nat) (c1 c2 c3 c4 : Array Value) : Prop where
  k0 : W.cell? ⟨g, 0, none⟩ = some (.func (.func f1) #[] c1)
  k1 : W.cell? ⟨g, 1, none⟩ = some (.func (.func f2) #[] c2)
  k2 : W.cell? ⟨g, 2, none⟩ = some (.func (.func f3) #[] c3)
  k3 : W.cell? ⟨g, 3, none⟩ = some (.func (.func f4) #[] c4)
set_option maxHeartbeats 2000000 in
theorem steps_any (f1 f2 f3 f4 g : Nat) (c1 c2 c3 c4 : Array Value) (e1 : ∀ args w, (callFunc f1 args).run Tryd.prog w = .ok (.enter f1 args) w) (e2 : ∀ args w, (callFunc f2 args).run Tryd.prog w = .ok (.enter f2 args) w) (e3 : ∀ args w, (callFunc f3 args).run Tryd.prog w = .ok (.enter f3 args) w) (e4 : ∀ args w, (callFunc f4 args).run Tryd.prog w = .ok (.enter f4 args) w)
    (S : Nat → World → Prop) (Bad : World → Prop) (w : World) (h0 : S 0 w) (hc : ∀ n W, S n W → Four W g f1 f2 f3 f4 c1 c2 c3 c4) (ht : ∀ n W W1, S n W → Below W.heap.size W W1 → S n W1) (hbt : ∀ W W1, Bad W → Below W.heap.size W W1 → Bad W1)
    (H1 : ∀ W, S 0 W → Calls Tryd.prog f1 c1 W fun e w' => (e = .returned (.int .i64 0) ∧ S 1 w') ∨ (e = .returned (.int .i64 9) ∧ Bad w'))
    (H2 : ∀ W, S 1 W → Calls Tryd.prog f2 c2 W fun e w' => (e = .returned (.int .i64 0) ∧ S 2 w') ∨ (e = .returned (.int .i64 9) ∧ Bad w'))
    (H3 : ∀ W, S 2 W → Calls Tryd.prog f3 c3 W fun e w' => (e = .returned (.int .i64 0) ∧ S 3 w') ∨ (e = .returned (.int .i64 9) ∧ Bad w'))
    (H4 : ∀ W, S 3 W → Calls Tryd.prog f4 c4 W fun e w' => (e = .returned (.int .i64 0) ∧ S 4 w') ∨ (e = .returned (.int .i64 9) ∧ Bad w')) :
    Calls Tryd.prog 19 #[.slice (some ⟨g, 0, none⟩) 4 4] w fun e w' => (e = .returned (.int .i64 0) ∧ S 4 w') ∨ (e = .returned (.int .i64 9) ∧ Bad w') := by
  have HC := Lib.hid hc; have HT := Lib.hid ht; have HBT := Lib.hid hbt; have HH1 := Lib.hid H1; have HH2 := Lib.hid H2; have HH3 := Lib.hid H3; have HH4 := Lib.hid H4; have HH0 := Lib.hid h0
  clear hc ht hbt H1 H2 H3 H4 h0
  go_enter Tryd.func19, Tryd.ntmps19
  go_wp2_with fail
  go_loopw [8, 4, 5] (fun i _ _ wr => ∃ k : Nat, k ≤ 4 ∧ i = .int .i64 (k : Int) ∧ S k wr) (fun i _ _ _ => 4 - (intOf i).toNat)
  case atStart => exact ⟨0, by omega, rfl, HH0.out⟩
  case round =>
    obtain ⟨k, hk, rfl, hS⟩ := hrel
    have FR := HC.out k wr hS
    obtain ⟨k0, k1, k2, k3⟩ := FR
    have HS := Lib.hid hS
    clear hS
    rcases k with _ | _ | _ | _ | _ | k
    · have CALL := Lib.hid (HH1.out wr HS.out)
      go_wp2_with fail
      refine CALL.out.mono ?_
      rintro e w1 (⟨rfl, hs⟩ | ⟨rfl, hs⟩)
      · have HS1 := Lib.hid hs; clear hs k0 k1 k2 k3
        go_wp2_with fail
        go_roundw
        case rel => exact ⟨1, by omega, by rfl, HS1.out⟩
        case measure => (first | (simp [intOf]; done) | (simp [intOf]; omega))
      · have HS1 := Lib.hid hs; clear hs k0 k1 k2 k3
        go_wp2_with fail
        go_ret
        exact .inr ⟨rfl, HS1.out⟩
    · have CALL := Lib.hid (HH2.out wr HS.out)
      go_wp2_with fail
      refine CALL.out.mono ?_
      rintro e w1 (⟨rfl, hs⟩ | ⟨rfl, hs⟩)
      · have HS1 := Lib.hid hs; clear hs k0 k1 k2 k3
        go_wp2_with fail
        go_roundw
        case rel => exact ⟨2, by omega, by rfl, HS1.out⟩
        case measure => (first | (simp [intOf]; done) | (simp [intOf]; omega))
      · have HS1 := Lib.hid hs; clear hs k0 k1 k2 k3
        go_wp2_with fail
        go_ret
        exact .inr ⟨rfl, HS1.out⟩
    · have CALL := Lib.hid (HH3.out wr HS.out)
      go_wp2_with fail
      refine CALL.out.mono ?_
      rintro e w1 (⟨rfl, hs⟩ | ⟨rfl, hs⟩)
      · have HS1 := Lib.hid hs; clear hs k0 k1 k2 k3
        go_wp2_with fail
        go_roundw
        case rel => exact ⟨3, by omega, by rfl, HS1.out⟩
        case measure => (first | (simp [intOf]; done) | (simp [intOf]; omega))
      · have HS1 := Lib.hid hs; clear hs k0 k1 k2 k3
        go_wp2_with fail
        go_ret
        exact .inr ⟨rfl, HS1.out⟩
    · have CALL := Lib.hid (HH4.out wr HS.out)
      go_wp2_with fail
      refine CALL.out.mono ?_
      rintro e w1 (⟨rfl, hs⟩ | ⟨rfl, hs⟩)
      · have HS1 := Lib.hid hs; clear hs k0 k1 k2 k3
        go_wp2_with fail
        go_roundw
        case rel => exact ⟨4, by omega, by rfl, HS1.out⟩
        case measure => (first | (simp [intOf]; done) | (simp [intOf]; omega))
      · have HS1 := Lib.hid hs; clear hs k0 k1 k2 k3
        go_wp2_with fail
        go_ret
        exact .inr ⟨rfl, HS1.out⟩
    · clear k0 k1 k2 k3
      go_wp2_with fail
      go_ret
      exact .inl ⟨rfl, HS.out⟩
    · omega

theorem storeC1 (d gd : Nat) (w : World) (hc : w.cell? ⟨gd, 0, none⟩ = some (ptrV d)) (Q : Ending → World → Prop) (C : Calls Tryd.prog 21 #[ptrV d, .string (⟨#[109, 97, 110, 105, 102, 101, 115, 116, 46, 110, 101, 119]⟩ : ByteArray)] w Q) (hQ : ∀ e W, Q e W → ∃ n, e = .returned (.int .i64 n)) :
    Calls Tryd.prog 20 #[ptrV gd] w Q := by
  have HQ := Lib.hid hQ; have HC := Lib.hid C; clear hQ C
  simp only [ptrV] at *
  go_enter Tryd.func20, Tryd.ntmps20
  go_wp2_with fail
  refine HC.out.mono ?_
  intro e w1 hq
  obtain ⟨n, rfl⟩ := HQ.out e w1 hq
  have HQ1 := Lib.hid hq; clear hq
  go_wp2_with fail
  exact HQ1.out
theorem storeC2 (d gd gb : Nat) (a : Option Addr) (m c : Nat) (w : World) (hc : w.cell? ⟨gd, 0, none⟩ = some (ptrV d)) (hc2 : w.cell? ⟨gb, 0, none⟩ = some (.slice a m c)) (Q : Ending → World → Prop) (C : Calls Tryd.prog 23 #[ptrV d, .string (⟨#[109, 97, 110, 105, 102, 101, 115, 116, 46, 110, 101, 119]⟩ : ByteArray), .slice a m c] w Q) (hQ : ∀ e W, Q e W → ∃ n, e = .returned (.int .i64 n)) :
    Calls Tryd.prog 22 #[ptrV gd, ptrV gb] w Q := by
  have HQ := Lib.hid hQ; have HC := Lib.hid C; clear hQ C
  simp only [ptrV] at *
  go_enter Tryd.func22, Tryd.ntmps22
  go_wp2_with fail
  refine HC.out.mono ?_
  intro e w1 hq
  obtain ⟨n, rfl⟩ := HQ.out e w1 hq
  have HQ1 := Lib.hid hq; clear hq
  go_wp2_with fail
  exact HQ1.out
theorem storeC3 (d gd : Nat) (w : World) (hc : w.cell? ⟨gd, 0, none⟩ = some (ptrV d)) (Q : Ending → World → Prop) (C : Calls Tryd.prog 25 #[ptrV d, .string (⟨#[109, 97, 110, 105, 102, 101, 115, 116, 46, 110, 101, 119]⟩ : ByteArray)] w Q) (hQ : ∀ e W, Q e W → ∃ n, e = .returned (.int .i64 n)) :
    Calls Tryd.prog 24 #[ptrV gd] w Q := by
  have HQ := Lib.hid hQ; have HC := Lib.hid C; clear hQ C
  simp only [ptrV] at *
  go_enter Tryd.func24, Tryd.ntmps24
  go_wp2_with fail
  refine HC.out.mono ?_
  intro e w1 hq
  obtain ⟨n, rfl⟩ := HQ.out e w1 hq
  have HQ1 := Lib.hid hq; clear hq
  go_wp2_with fail
  exact HQ1.out
theorem storeC4 (d gd : Nat) (w : World) (hc : w.cell? ⟨gd, 0, none⟩ = some (ptrV d)) (Q : Ending → World → Prop) (C : Calls Tryd.prog 27 #[ptrV d, .string (⟨#[109, 97, 110, 105, 102, 101, 115, 116, 46, 110, 101, 119]⟩ : ByteArray), .string (⟨#[109, 97, 110, 105, 102, 101, 115, 116]⟩ : ByteArray)] w Q) (hQ : ∀ e W, Q e W → ∃ n, e = .returned (.int .i64 n)) :
    Calls Tryd.prog 26 #[ptrV gd] w Q := by
  have HQ := Lib.hid hQ; have HC := Lib.hid C; clear hQ C
  simp only [ptrV] at *
  go_enter Tryd.func26, Tryd.ntmps26
  go_wp2_with fail
  refine HC.out.mono ?_
  intro e w1 hq
  obtain ⟨n, rfl⟩ := HQ.out e w1 hq
  have HQ1 := Lib.hid hq; clear hq
  go_wp2_with fail
  exact HQ1.out
end Go.Proofs.YtefndmjimmbhnaaDoor
end
