/- Contracts of the reference's Add and Norm of cells. Condition: room (the row's own bound). Contracts of slices.IndexFunc and DeleteFunc at one cell, of purge.without, Cells and Table there. Contracts of slices.IndexFunc and DeleteFunc at cells, by whatever function that answers of each. Condition: room. -/
import Derived.Test.YtefndmjimmbhnaaZ21
import Derived.Test.YtefndmjimmbhnaaZ08
import Derived.Test.YtefndmjimmbhnaaZ16
import Derived.Lib.LazyBuf
section
set_option linter.unusedVariables false
set_option linter.unusedSimpArgs false
set_option maxRecDepth 50000
namespace Go.Proofs.Ytefndmjimmbhnaa
open Go.RowKit Go.Sort
open Go.Lib hiding intOf

def addC (c : Cel) (l : List Cel) : List Cel := (addR kcK joinP (toP c) false (l.map toP)).map ofP
theorem addR_len (c : Ky × Vr) : ∀ (l : List (Ky × Vr)) (d : Bool), (addR kcK joinP c d l).length ≤ l.length + 1
  | [], d => by cases d <;> simp [addR]
  | x :: r, d => by
    have h1 := addR_len c r true; have h2 := addR_len c r d
    have h3 : ∀ l : List (Ky × Vr), (addR kcK joinP c true l).length ≤ l.length := by
      intro l
      induction l with
      | nil => simp [addR]
      | cons y l ih =>
        rw [addR]
        split
        · simpa using ih
        · rw [if_neg (by simp)]; simpa using ih
    have h4 := h3 r
    rw [addR]
    split
    · simp only [List.length_cons]; omega
    · split <;> (simp only [List.length_cons]; omega)
theorem Blk.put46 {w : World} {g : Nat} {t : TypeId} {a0 a1 a2 a3 a4 a5 a6 a7 a8 a9 : Value} (h : Blk w g t #[a0, a1, a2, a3, a4, a5, a6, a7, a8, a9]) (u4 u5 u6 u7 u8 u9 : Value) :
    Blk ((((((w.setCell ⟨g, 4, none⟩ u4).setCell ⟨g, 5, none⟩ u5).setCell ⟨g, 6, none⟩ u6).setCell ⟨g, 7, none⟩ u7).setCell ⟨g, 8, none⟩ u8).setCell ⟨g, 9, none⟩ u9) g t #[a0, a1, a2, a3, u4, u5, u6, u7, u8, u9] := by
  have h4 : Blk (w.setCell ⟨g, 4, none⟩ u4) g t #[a0, a1, a2, a3, u4, a5, a6, a7, a8, a9] := h.put 4 u4
  have h5 : Blk ((w.setCell ⟨g, 4, none⟩ u4).setCell ⟨g, 5, none⟩ u5) g t #[a0, a1, a2, a3, u4, u5, a6, a7, a8, a9] := h4.put 5 u5
  have h6 : Blk (((w.setCell ⟨g, 4, none⟩ u4).setCell ⟨g, 5, none⟩ u5).setCell ⟨g, 6, none⟩ u6) g t #[a0, a1, a2, a3, u4, u5, u6, a7, a8, a9] := h5.put 6 u6
  have h7 : Blk ((((w.setCell ⟨g, 4, none⟩ u4).setCell ⟨g, 5, none⟩ u5).setCell ⟨g, 6, none⟩ u6).setCell ⟨g, 7, none⟩ u7) g t #[a0, a1, a2, a3, u4, u5, u6, u7, a8, a9] := h6.put 7 u7
  have h8 : Blk (((((w.setCell ⟨g, 4, none⟩ u4).setCell ⟨g, 5, none⟩ u5).setCell ⟨g, 6, none⟩ u6).setCell ⟨g, 7, none⟩ u7).setCell ⟨g, 8, none⟩ u8) g t #[a0, a1, a2, a3, u4, u5, u6, u7, u8, a9] := h7.put 8 u8
  have h9 : Blk ((((((w.setCell ⟨g, 4, none⟩ u4).setCell ⟨g, 5, none⟩ u5).setCell ⟨g, 6, none⟩ u6).setCell ⟨g, 7, none⟩ u7).setCell ⟨g, 8, none⟩ u8).setCell ⟨g, 9, none⟩ u9) g t #[a0, a1, a2, a3, u4, u5, u6, u7, u8, u9] := h8.put 9 u9
  exact h9
/-- At a statement's end the world is forgotten but for what is said of it. -/
theorem wp_gen {K : Act → World → Prop} {a : Act} {W : World} (R : World → Prop) (hR : R W) (h : ∀ w2, R w2 → K a w2) : K a W := h W hR

theorem gb_set {w w1 : World} {g : Nat} (h : w.grownBy w1 (some g)) (i : Nat) (u : Value) : w.grownBy (w1.setCell ⟨g, i, none⟩ u) (some g) :=
  ⟨h.os, h.tape, h.output, by simpa [World.setCell] using h.size, fun k hk hne => (Below.heap_setCell w1 ⟨g, i, none⟩ u k (fun e => hne (by rw [e]))).trans (h.block k hk hne)⟩
theorem two_room (acc : List Cel) (x y : Cel) (n : Nat) (h : acc.length + 2 ≤ n + 1) (hl : (n + 1) * 112 ≤ 140737488355328) :
    (acc ++ [x]).length + [y].length ≤ 9223372036854775807 ∧ ((acc ++ [x]).length + [y].length) * eC.bytes ≤ 140737488355328 ∧ (acc ++ [x] ++ [y]).length = acc.length + 2 := by
  have e : (acc ++ [x]).length + [y].length = acc.length + 2 := by simp
  rw [e]
  refine ⟨by omega, ?_, by simp⟩
  show (acc.length + 2) * 112 ≤ _
  omega
theorem addR_eq (c x : Ky × Vr) (r : List (Ky × Vr)) (d : Bool) (h : kcK x.1 c.1 = 0) : addR kcK joinP c d (x :: r) = (x.1, joinP x.2 c.2) :: addR kcK joinP c true r := by rw [addR, if_pos h]
theorem addR_gt (c x : Ky × Vr) (r : List (Ky × Vr)) (h : 0 < kcK x.1 c.1) : addR kcK joinP c false (x :: r) = c :: x :: addR kcK joinP c true r := by rw [addR, if_neg (by omega), if_pos ⟨h, rfl⟩]
theorem addR_gt' (c x : Ky × Vr) (r : List (Ky × Vr)) (h : 0 < kcK x.1 c.1) : addR kcK joinP c true (x :: r) = x :: addR kcK joinP c true r := by rw [addR, if_neg (by omega), if_neg (by simp)]
theorem addR_lt (c x : Ky × Vr) (r : List (Ky × Vr)) (d : Bool) (h : kcK x.1 c.1 < 0) : addR kcK joinP c d (x :: r) = x :: addR kcK joinP c d r := by rw [addR, if_neg (by omega), if_neg (by omega)]

end Go.Proofs.Ytefndmjimmbhnaa
end

section
set_option linter.unusedVariables false
set_option linter.unusedSimpArgs false
set_option maxRecDepth 50000
namespace Go.Proofs.Ytefndmjimmbhnaa
open Go.RowKit Go.Sort

end Go.Proofs.Ytefndmjimmbhnaa
end

section
set_option linter.unusedVariables false
set_option linter.unusedSimpArgs false
set_option maxRecDepth 50000
namespace Go.Proofs.Ytefndmjimmbhnaa
open Go.RowKit Go.Sort
open Go.Lib hiding intOf

/-- a function on cells that answers b, in every world that w0 (of B blocks) grows into -/
def Asks (f : Nat) (caps : Array Value) (B : Nat) (w0 : World) (L : List Cel) (b : Cel → Bool) : Prop :=
  ∀ W, Below B w0 W → ∀ x ∈ L, Calls Try.prog f (#[.agg (celEnc x).toArray] ++ caps) W fun e w' => e = .returned (.bool (b x)) ∧ Below W.heap.size W w'
def IdxP (L : List Cel) (b : Cel → Bool) (r : Int) : Prop := (r = -1 ∧ ∀ x ∈ L, b x = false) ∨ ∃ k : Nat, ∃ h : k < L.length, r = k ∧ b L[k] = true ∧ ∀ x ∈ L.take k, b x = false

set_option maxHeartbeats 1000000 in
theorem idxG_any (f : Nat) (caps : Array Value) (eg : ∀ args w, (callFunc f args).run Try.prog w = .ok (.enter f args) w) (B : Nat) (w0 : World) (L : List Cel) (b : Cel → Bool) (v : Value) (w : World) (GA : Asks f caps B w0 L b) (hv : SlX eC w.heap.size w v L) (hB : Below B w0 w) (hBs : B ≤ w.heap.size) (hl : Room L.length) :
    Calls Try.prog 70 #[v, .func (.func f) #[] caps] w fun e w' => ∃ r, e = .returned (.int .i64 r) ∧ IdxP L b r ∧ Below w.heap.size w w' := by
  have HV := Lib.hid hv
  obtain ⟨a, cap, rfl, hc, hx⟩ := hv.ex
  have HX := Lib.hid hx; clear hx hv
  unfold Room at hl
  have GH := Lib.hid GA; have HB := Lib.hid hB
  clear GA hB
  go_enter Try.func70, Try.ntmps70
  go_wp2_with fail
  go_loopw [5, 8] (fun _ v8 wr => ∃ i : Nat, v8 = .int .i64 (i : Int) ∧ i ≤ L.length ∧ Hid (∀ x ∈ L.take i, b x = false) ∧ Below w.heap.size w wr) (fun _ v8 _ => L.length - (intOf v8).toNat)
  case atStart => exact ⟨0, rfl, by omega, Lib.hid (by simp), Below.refl _ _⟩
  case round =>
    obtain ⟨i, rfl, hi, HN, hb⟩ := hrel
    have HBw := Lib.hid hb; clear hb
    by_cases hlt : i < L.length
    · have hz : (i : Int) < (L.length : Int) := by omega
      obtain ⟨gl, o, rfl, hgl2, _⟩ := HX.out (by omega)
      have ten := (Ten.of HV.out i hlt).keep HBw.out
      have GI := Lib.hid (fun W hW => GH.out W hW L[i] (List.getElem_mem hlt))
      have YES := Lib.hid (fun (h : b L[i] = true) => show IdxP L b (i : Int) from .inr ⟨i, hlt, rfl, h, HN.out⟩)
      have NO := Lib.hid (fun (h : b L[i] = false) => show ∀ x ∈ L.take (i + 1), b x = false by
        rw [List.take_succ_eq_append_getElem hlt]
        intro x hx
        rcases List.mem_append.1 hx with hx | hx
        · exact HN.out x hx
        · rw [List.mem_singleton.1 hx]; exact h)
      generalize b L[i] = bi at *
      generalize L[i] = x at *
      obtain ⟨c0, c1, c2, c3, c4, c5, c6, c7, c8, c9⟩ := ten
      obtain ⟨⟨t, p, r, q⟩, ⟨tm, dd, lc, kd, nn, ss⟩⟩ := x
      simp only [celEnc] at *
      have CALL := Lib.hid (GI.out wr (Below.trans HB.out (Below.mono HBw.out hBs)))
      go_wp2_with fail
      refine CALL.out.mono ?_
      rintro e w1 ⟨rfl, hb⟩
      have HB1 := Lib.hid (below_tr HBw.out hb); clear hb c0 c1 c2 c3 c4 c5 c6 c7 c8 c9
      cases bi with
      | true =>
        go_wp2_with fail
        go_ret
        exact ⟨_, rfl, YES.out (by trivial), HB1.out⟩
      | false =>
        have N := Lib.hid (NO.out (by trivial))
        go_wp2_with fail
        exact ⟨⟨i + 1, by first | rfl | go_num, by omega, N, HB1.out⟩, by simp [intOf]; omega⟩
    · have hz : ¬ (i : Int) < (L.length : Int) := by omega
      have e : L.take i = L := List.take_of_length_le (by omega)
      have hn := HN.out
      rw [e] at hn
      have FIN := Lib.hid (show IdxP L b (-1) from .inl ⟨rfl, hn⟩)
      clear hn e HN
      go_wp2_with fail
      go_ret
      exact ⟨_, rfl, FIN.out, HBw.out⟩

end Go.Proofs.Ytefndmjimmbhnaa
end
