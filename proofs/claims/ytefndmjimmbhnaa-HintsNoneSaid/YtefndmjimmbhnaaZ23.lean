/- Contracts of Sorted of cells, the program's and the reference's, of Write's closure and of ContainsFunc at cells. Condition: room. Contract of wal's Record. Conditions: the cells' texts and numbers are of the bounds; at most a million bytes. -/
import Derived.Test.YtefndmjimmbhnaaZ21
import Derived.Test.YtefndmjimmbhnaaZ22
import Derived.Test.YtefndmjimmbhnaaZ10
section
set_option linter.unusedVariables false
set_option linter.unusedSimpArgs false
set_option maxRecDepth 50000
namespace Go.Proofs.Ytefndmjimmbhnaa
open Go.RowKit Go.Sort
open Go.Lib hiding intOf

/-- the first n cells' keys grow -/
def IncC (L : List Cel) (n : Nat) : Prop := ∀ (i : Nat) (h : i + 1 < L.length), i + 1 < n → kcK (L[i]'(by omega)).k L[i + 1].k < 0

def SortB (L : List Cel) (w : World) (e : Ending) (w' : World) : Prop := ∃ b : Bool, e = .returned (.bool b) ∧ (b = true ↔ IncC L L.length) ∧ Below w.heap.size w w'

theorem hasC_any (f : Nat) (caps : Array Value) (eg : ∀ args w, (callFunc f args).run Try.prog w = .ok (.enter f args) w) (B : Nat) (w0 : World) (L : List Cel) (b : Cel → Bool) (v : Value) (w : World) (GA : Asks f caps B w0 L b) (hv : SlX eC w.heap.size w v L) (hB : Below B w0 w) (hBs : B ≤ w.heap.size) (hl : Room L.length) :
    Calls Try.prog 46 #[v, .func (.func f) #[] caps] w fun e w' => e = .returned (.bool (L.any b)) ∧ Below w.heap.size w w' := by
  have C := Lib.hid (idxG_any f caps eg B w0 L b v w GA hv hB hBs hl)
  clear GA hv hB
  go_enter Try.func46, Try.ntmps46
  go_wp2_with fail
  refine C.out.mono ?_
  rintro e w1 ⟨r, rfl, hr, hb⟩
  have HB := Lib.hid hb; have HR := Lib.hid hr
  clear hb hr
  go_wp2_with fail
  go_ret
  refine ⟨ret_b ?_, HB.out⟩
  rcases HR.out with ⟨rfl, h⟩ | ⟨k, hk, rfl, h1, _⟩
  · have : L.any b = false := by rw [List.any_eq_false]; intro x hx; rw [h x hx]; simp
    rw [this]; decide
  · have : L.any b = true := by rw [List.any_eq_true]; exact ⟨_, List.getElem_mem hk, h1⟩
    rw [this]; simp
end Go.Proofs.Ytefndmjimmbhnaa
end

section
set_option linter.unusedVariables false
set_option linter.unusedSimpArgs false
set_option maxRecDepth 50000
namespace Go.Proofs.Ytefndmjimmbhnaa
open Go.RowKit

theorem recBad_any (c : Cel) (w : World) (hc : CelT c) : Calls Try.prog 47 #[.agg (celEnc c).toArray] w fun e w' => e = .returned (.bool (!goodC c)) ∧ Below w.heap.size w w' := by
  have G := Lib.hid (fun W => goodC_any c W hc)
  have HB0 := Lib.hid (below_alloc (Below.refl _ w) (.cells (celEnc c).toArray 62))
  generalize goodC c = b at *
  obtain ⟨⟨t, p, r, q⟩, ⟨tm, dd, lc, kd, nn, ss⟩⟩ := c
  simp only [celEnc] at *
  clear hc
  go_enter Try.func47, Try.ntmps47
  go_wp2_with fail
  refine (G.out _).mono ?_
  rintro e w1 ⟨rfl, hb⟩
  have HB := Lib.hid (below_tr HB0.out hb); clear hb
  go_wp2_with fail
  go_ret
  exact ⟨rfl, HB.out⟩
/-- the error of a record, and its bytes -/
def recC (L : List Cel) : Int := if L.length = 0 ∨ 400 < L.length ∨ (L.any fun c => !goodC c) = true then 2 else if 262144 < (cellsL L).length then 7 else 0
def recL (L : List Cel) : List UInt8 := if recC L = 0 then frameL (cellsL L) else []
structure RecIn (L : List Cel) : Prop where
  room : Room L.length
  t : ∀ c ∈ L, CelT c
  n : ∀ c ∈ L, CelIn c
  s : (L.flatMap cellL).length ≤ 900000
theorem recC_bad {L : List Cel} (h : L.length = 0 ∨ 400 < L.length ∨ (L.any fun c => !goodC c) = true) : recC L = 2 ∧ recL L = [] := by
  have : recC L = 2 := by unfold recC; rw [if_pos h]
  exact ⟨this, by unfold recL; rw [this, if_neg (by decide)]⟩
set_option maxHeartbeats 1000000 in
theorem record_any (v : Value) (L : List Cel) (w : World) (hv : SlX eC w.heap.size w v L) (hl : RecIn L) :
    Calls Try.prog 27 #[v] w fun e w' => ∃ v', e = .returned (.tuple #[v', .int .i64 (recC L)]) ∧ OwnB w' w.heap.size v' (recL L) ∧ Below w.heap.size w w' := by
  obtain ⟨a, c, rfl, _, _⟩ := hv.ex
  by_cases h0 : L.length = 0
  · obtain ⟨e1, e2⟩ := recC_bad (.inl h0)
    rw [e1, e2]
    have h0' : ((L.length : Int) == 0) = true := by rw [h0]; rfl
    clear hv hl e1 e2
    go_enter Try.func27, Try.ntmps27
    go_wp2_with fail
    go_ret2
    exact ⟨_, rfl, OwnB.nil _ _, Below.refl _ _⟩
  · have h0' : ((L.length : Int) == 0) = false := by rw [beq_eq_false_iff_ne]; omega
    by_cases h4 : 400 < L.length
    · obtain ⟨e1, e2⟩ := recC_bad (.inr (.inl h4))
      rw [e1, e2]
      have h4' : (400 : Int) < (L.length : Int) := by omega
      clear hv hl e1 e2
      go_enter Try.func27, Try.ntmps27
      go_wp2_with fail
      go_ret2
      exact ⟨_, rfl, OwnB.nil _ _, Below.refl _ _⟩
    · have h4' : ¬ (400 : Int) < (L.length : Int) := by omega
      have CF := Lib.hid (fun W (hb : Below w.heap.size w W) => hasC_any 47 #[] (enters_of Try.func47 (by kernel_rfl) rfl) W.heap.size W L (fun c => !goodC c) (.slice a L.length c) W (fun W' _ x hx => recBad_any x W' (hl.t x hx)) (hv.keep hb) (Below.refl _ _) (Nat.le_refl _) hl.room)
      have CE := Lib.hid (fun W (hb : Below w.heap.size w W) => Cells_any (.slice a L.length c) L W (hv.keep hb) hl.n (by have := hl.s; omega) (by omega))
      rcases hbad : (L.any fun c => !goodC c) with _ | _
      · rw [hbad] at CF
        have hcl : (cellsL L).length ≤ 1000000 := by unfold cellsL; rw [List.length_append]; have := putL_len 9 L.length (by omega); have := hl.s; omega
        have hrc : recC L = if 262144 < (cellsL L).length then 7 else 0 := by unfold recC; rw [if_neg (fun h => by rcases h with h | h | h; exact h0 h; exact h4 h; (rw [hbad] at h; cases h))]
        have hrl : recL L = if 262144 < (cellsL L).length then [] else frameL (cellsL L) := by
          unfold recL; rw [hrc]
          split <;> rfl
        rw [hrc, hrl]
        have FR := Lib.hid (fun W v' (ho : OwnB W w.heap.size v' (cellsL L)) => Frame_any v' (cellsL L) W ho.slB hcl)
        clear hv hl hbad hrc hrl
        by_cases hbig : 262144 < (cellsL L).length
        · rw [if_pos hbig, if_pos hbig]
          have hbig' : (262144 : Int) < ((cellsL L).length : Int) := by omega
          clear hcl FR
          go_enter Try.func27, Try.ntmps27
          go_wp2_with fail
          refine (CF.out _ (Below.refl _ _)).mono ?_
          rintro e w1 ⟨rfl, hb⟩
          have HB := Lib.hid hb; clear hb CF
          go_wp2_with fail
          refine (CE.out _ HB.out).mono ?_
          rintro e w2 ⟨v2, rfl, ho, hb⟩
          obtain ⟨a2, c2, rfl, _, _⟩ := ho.slB.ex
          have HB2 := Lib.hid (below_tr HB.out hb)
          clear ho hb CE
          go_wp2_with fail
          go_ret2
          exact ⟨_, rfl, OwnB.nil _ _, HB2.out⟩
        · rw [if_neg hbig, if_neg hbig]
          have hbig' : ¬ (262144 : Int) < ((cellsL L).length : Int) := by omega
          clear hcl
          go_enter Try.func27, Try.ntmps27
          go_wp2_with fail
          refine (CF.out _ (Below.refl _ _)).mono ?_
          rintro e w1 ⟨rfl, hb⟩
          have HB := Lib.hid hb; clear hb CF
          go_wp2_with fail
          refine (CE.out _ HB.out).mono ?_
          rintro e w2 ⟨v2, rfl, ho, hb⟩
          obtain ⟨a2, c2, rfl, _, _⟩ := ho.slB.ex
          have HO := Lib.hid (ho.weaken HB.out.size); have HB2 := Lib.hid (below_tr HB.out hb)
          have FR2 := Lib.hid (FR.out w2 _ HO.out)
          clear ho hb CE FR
          go_wp2_with fail
          refine FR2.out.mono ?_
          rintro e w3 ⟨v3, rfl, ho3, hb3⟩
          have HO3 := Lib.hid (ho3.weaken HB2.out.size); have HB3 := Lib.hid (below_tr HB2.out hb3)
          clear ho3 hb3 FR2
          go_wp2_with fail
          go_ret2
          exact ⟨_, rfl, HO3.out, HB3.out⟩
      · rw [hbad] at CF
        obtain ⟨e1, e2⟩ := recC_bad (.inr (.inr hbad))
        rw [e1, e2]
        clear hv hl hbad e1 e2 CE
        go_enter Try.func27, Try.ntmps27
        go_wp2_with fail
        refine (CF.out _ (Below.refl _ _)).mono ?_
        rintro e w1 ⟨rfl, hb⟩
        have HB := Lib.hid hb; clear hb CF
        go_wp2_with fail
        go_ret2
        exact ⟨_, rfl, OwnB.nil _ _, HB.out⟩
end Go.Proofs.Ytefndmjimmbhnaa
end
