/- Contracts of the reference's Lend and Kept: bytes handed out in the middle of greater memory. Condition: room. -/
import Derived.Test.YtplghaoflmaadaaGreatDoorZ12
section
set_option linter.unusedVariables false
set_option linter.unusedSimpArgs false
set_option maxRecDepth 50000
namespace Go.Proofs.YtplghaoflmaadaaGreatDoor
open Go.RowKit

/-- what Lend's memory holds when i bytes are copied -/
structure LendS (b l : List UInt8) (i : Nat) : Prop where
  len : l.length = b.length + 2
  first : l[0]? = some 165
  last : l[b.length + 1]? = some 90
  mid : ∀ j, j < i → l[j + 1]? = b[j]?
theorem LendS.start (b : List UInt8) : LendS b (((List.replicate (b.length + 2) (0 : UInt8)).set 0 165).set (b.length + 1) 90) 0 := by
  refine ⟨by simp, ?_, ?_, fun j hj => absurd hj (by omega)⟩
  · rw [List.getElem?_set_ne (by omega), List.getElem?_set_self (by simp)]
  · rw [List.getElem?_set_self (by simp)]
theorem LendS.step {b l : List UInt8} {i : Nat} (h : LendS b l i) (hi : i < b.length) : LendS b (l.set (i + 1) b[i]) (i + 1) := by
  refine ⟨by simp [h.len], ?_, ?_, fun j hj => ?_⟩
  · rw [List.getElem?_set_ne (by omega)]; exact h.first
  · rw [List.getElem?_set_ne (by omega)]; exact h.last
  · by_cases e : j = i
    · subst e
      rw [List.getElem?_set_self (by have := h.len; omega), List.getElem?_eq_getElem hi]
    · rw [List.getElem?_set_ne (by omega)]; exact h.mid j (by omega)
theorem LendS.full {b l : List UInt8} (h : LendS b l b.length) : l = 165 :: (b ++ [90]) := by
  refine List.ext_getElem? fun j => ?_
  rcases j with _ | j
  · simpa using h.first
  · rw [List.getElem?_cons_succ]
    rcases Nat.lt_trichotomy j b.length with hj | hj | hj
    · rw [h.mid j hj, List.getElem?_append_left hj]
    · subst hj; rw [h.last]; simp
    · rw [List.getElem?_eq_none (by have := h.len; omega), List.getElem?_eq_none (by simp; omega)]
def lendL (b : List UInt8) : List UInt8 := 165 :: (b ++ [90])
theorem lendL_mid (b : List UInt8) : ((lendL b).drop 1).take b.length = b := by unfold lendL; simp
def lendA (n : Nat) : Array Value := ((Array.replicate (n + 2) (Value.int .u8 0)).setIfInBounds 0 (.int .u8 165)).setIfInBounds (n + 1) (.int .u8 90)
theorem lend_own (w : World) (n : Nat) (hn : n ≤ 900000) : OwnB (w.alloc (.cells (lendA n) 5)) w.heap.size (.slice (some ⟨w.heap.size, 0, none⟩) (n + 2) (n + 2)) (((List.replicate (n + 2) (0 : UInt8)).set 0 165).set (n + 1) 90) := by
  have h1 : ((165 : UInt8).toNat : Int) = 165 := by decide
  have h2 : ((90 : UInt8).toNat : Int) = 90 := by decide
  have h0 : ((0 : UInt8).toNat : Int) = 0 := by decide
  refine own_eB.1 (OwnX.lit (E := eB) w _ _ _ (n + 2) (Nat.le_refl _) (by simp) (by simp; omega) ?_)
  rw [eB_cells]
  unfold bcells lendA
  rw [Array.toList_setIfInBounds, Array.toList_setIfInBounds, Array.toList_replicate, List.map_set, List.map_set, List.map_replicate, h0, h1, h2]
theorem lend_fr (w : World) (n k : Nat) : (w.alloc (.cells (Array.replicate n (.int .u8 0)) 5)).frozen? ⟨w.heap.size, k, none⟩ = false := (blk_at (w := w) 5 (Array.replicate n (.int .u8 0)) rfl).frozen k
theorem lend_fr2 (w : World) (n k j : Nat) (u : Value) : ((w.alloc (.cells (Array.replicate n (.int .u8 0)) 5)).setCell ⟨w.heap.size, j, none⟩ u).frozen? ⟨w.heap.size, k, none⟩ = false := ((blk_at (w := w) 5 (Array.replicate n (.int .u8 0)) rfl).put j u).frozen k
set_option maxHeartbeats 2000000 in
theorem lend_any (v : Value) (b : List UInt8) (w : World) (hv : SlB w.heap.size w v b) (hl : b.length ≤ 900000) :
    Calls Tryz.prog 16 #[v] w fun e w' => ∃ wv ov, e = .returned (.tuple #[wv, ov]) ∧ SlB w'.heap.size w' wv (lendL b) ∧ SlB w'.heap.size w' ov b ∧ Below w.heap.size w w' := by
  have HV := Lib.hid hv
  obtain ⟨a, c, rfl, hc, hx⟩ := hv.ex
  have HX := Lib.hid hx
  have HST := Lib.hid (LendS.start b)
  have HSP := Lib.hid (fun l i (h : LendS b l i) (hi : i < b.length) => h.step hi)
  have HFU := Lib.hid (fun l (h : LendS b l b.length) => show l = lendL b from h.full)
  have HMD := Lib.hid (lendL_mid b)
  have HLL := Lib.hid (show (lendL b).length = b.length + 2 by unfold lendL; simp)
  have hmk : ∀ W, (Instr.makeSlice 29 (.int .i64 ((b.length : Int) + 2)) (.int .i64 ((b.length : Int) + 2))).run Tryz.prog W = .ok (.slice (some ⟨W.heap.size, 0, none⟩) (b.length + 2) (b.length + 2)) (W.alloc (.cells (Array.replicate (b.length + 2) (.int .u8 0)) 5)) := fun W => by
    have := (made_full eB 0 rfl rfl rfl W (b.length + 2) (by show 1 * (b.length + 2) ≤ _; omega) (by omega) .i64).1
    rwa [show ((b.length + 2 : Nat) : Int) = (b.length : Int) + 2 by omega] at this
  have hl4 := lend_own w b.length hl
  have START := Lib.hid (And.intro HST.out (And.intro hl4 (below_alloc (Below.refl _ w) (.cells (lendA b.length) 5))))
  unfold lendA at START
  have fr0 := lend_fr w (b.length + 2) 0; have fr1 := lend_fr w (b.length + 2) (b.length + 1)
  have fr2 := lend_fr2 w (b.length + 2) (b.length + 1) 0 (.int .u8 165)
  have q1 : wrap64 ((b.length : Int) + 2) = (b.length : Int) + 2 := by unfold wrap64; omega
  have q2 : wrap64 ((b.length : Int) + 1) = ((b.length + 1 : Nat) : Int) := by unfold wrap64; omega
  have i1 : ((b.length + 1 : Nat) : Int) < ((b.length + 2 : Nat) : Int) := by omega
  have HLM := Lib.hid hl
  clear hl4 hv hx HST hl
  go_enter Tryz.func16, Tryz.ntmps16
  go_wp2_with fail
  have Q2 := Lib.hid q2
  clear q1 q2
  go_loopw [5, 6, 20] (fun _ _ vi wr => ∃ (i : Nat) (l : List UInt8), vi = .int .i64 (i : Int) ∧ i ≤ b.length ∧ Hid (LendS b l i ∧ OwnB wr w.heap.size (.slice (some ⟨w.heap.size, 0, none⟩) (b.length + 2) (b.length + 2)) l ∧ Below w.heap.size w wr)) (fun _ _ vi _ => b.length - (intOf vi).toNat)
  case atStart => exact ⟨0, _, rfl, Nat.zero_le _, START⟩
  case round =>
    clear START fr0 fr1 fr2
    obtain ⟨i, l, rfl, hi, HH⟩ := hrel
    by_cases hlt : i < b.length
    · have hz : (i : Int) < (b.length : Int) := by omega
      obtain ⟨g, o, rfl, hg, hcell⟩ := HX.out (by omega)
      have c0 : wr.cell? ⟨g, o + i, none⟩ = some (.int .u8 (b[i].toNat : Int)) := by rw [HH.out.2.2.cell (p := ⟨g, o + i, none⟩) hg]; exact hcell i hlt
      have hll := HH.out.1.len
      have f0 : wr.frozen? ⟨w.heap.size, i + 1, none⟩ = false := (own_eB.2 HH.out.2.1).frozen (i + 1)
      have e0 := (own_eB.2 HH.out.2.1).cell (i + 1) 0 (by omega) (u := .int .u8 ((l[i + 1]'(by omega)).toNat : Int)) rfl
      rw [show (i + 1) * eB.size + 0 = i + 1 from by show (i + 1) * 1 + 0 = _; omega] at e0
      have NX := Lib.hid (show LendS b (l.set (i + 1) b[i]) (i + 1) ∧ OwnB (wr.setCell ⟨w.heap.size, i + 1, none⟩ (.int .u8 (b[i].toNat : Int))) w.heap.size (.slice (some ⟨w.heap.size, 0, none⟩) (b.length + 2) (b.length + 2)) (l.set (i + 1) b[i]) ∧ Below w.heap.size w (wr.setCell ⟨w.heap.size, i + 1, none⟩ (.int .u8 (b[i].toNat : Int))) from
        ⟨HSP.out l i HH.out.1 hlt, HH.out.2.1.set1 (i + 1) (by omega) b[i], HH.out.2.2.setCell (p := ⟨w.heap.size, i + 1, none⟩) (Nat.le_refl _) _⟩)
      have q3 : wrap64 ((i : Int) + 1) = ((i + 1 : Nat) : Int) := by have := HLM.out; unfold wrap64; omega
      have i2 : ((i + 1 : Nat) : Int) < ((b.length + 2 : Nat) : Int) := by omega
      generalize b[i] = x at *
      generalize (l[i + 1]'(by omega)).toNat = y at *
      clear hcell hll HH
      go_wp2_with fail
      go_roundw
      case rel => exact ⟨i + 1, _, by first | rfl | go_num, by omega, NX⟩
      case measure => rw [show (intOf (.int .i64 (wrap64 ((i : Int) + 1)))).toNat = i + 1 by rw [q3]; rfl, show (intOf (.int .i64 (i : Int))).toNat = i from rfl]; omega
    · have hz : ¬ (i : Int) < (b.length : Int) := by omega
      obtain rfl : i = b.length := by omega
      have hfl := HFU.out l HH.out.1
      have HO := Lib.hid HH.out.2.1; have HB := Lib.hid HH.out.2.2
      rw [hfl] at HO
      have SW := Lib.hid (OwnB.slB HO.out)
      obtain ⟨am, cm, hm, hmr⟩ := SW.out.mid 1 b.length (by rw [HLL.out]; omega)
      rw [HMD.out] at hm
      have HMM := Lib.hid hm
      have hsl : ∀ W, (Instr.slice 29 (.slice (some ⟨w.heap.size, 0, none⟩) (b.length + 2) (b.length + 2)) (some (.int .i64 1)) (some (.int .i64 ((b.length : Int) + 1))) none).run Tryz.prog W = .ok (.slice am b.length cm) W := hmr _ (by omega)
      clear hmr hm hfl HH HO
      have q2 := Q2.out
      go_wp2_with fail
      go_region
      go_wp2_with fail
      go_ret2
      exact ⟨_, _, rfl, SW.out.keep (Below.drew (Below.refl _ _)), HMM.out.keep (Below.drew (Below.refl _ _)), Below.drew HB.out⟩
theorem lendL_first (b : List UInt8) : (lendL b)[0]? = some 165 := rfl
theorem lendL_last (b : List UInt8) : (lendL b)[b.length + 1]? = some 90 := by unfold lendL; simp
set_option maxHeartbeats 2000000 in
theorem kept_any (v1 v2 : Value) (b : List UInt8) (w : World) (hv1 : SlB w.heap.size w v1 (lendL b)) (hv2 : SlB w.heap.size w v2 b) (hl : b.length ≤ 900000) :
    Calls Tryz.prog 17 #[v1, v2] w fun e w' => e = .returned (.bool true) ∧ Below w.heap.size w w' := by
  have HLL := Lib.hid (show (lendL b).length = b.length + 2 by unfold lendL; simp)
  have H1 := Lib.hid hv1; have H2 := Lib.hid hv2
  obtain ⟨am, cm, hm, hmr⟩ := hv1.mid 1 b.length (by rw [HLL.out]; omega)
  rw [lendL_mid] at hm
  have r1 : ∀ W, Below w.heap.size w W → (convert 29 9 (.slice am b.length cm)).run Tryz.prog W = .ok (sv b) W := fun W h => (hm.keep h).reads
  have r2 : ∀ W, Below w.heap.size w W → (convert 29 9 v2).run Tryz.prog W = .ok (sv b) W := fun W h => (hv2.keep h).reads
  obtain ⟨a1, c1, rfl, hc1, hx1⟩ := hv1.ex
  obtain ⟨a2, c2, rfl, hc2, hx2⟩ := hv2.ex
  obtain ⟨g, o, rfl, hg, hcell⟩ := hx1 (by rw [HLL.out]; omega)
  have e0 := hcell 0 (by rw [HLL.out]; omega)
  have e1 := hcell (b.length + 1) (by rw [HLL.out]; omega)
  have f0 : (lendL b)[0]'(by rw [HLL.out]; omega) = 165 := rfl
  have f1 : (lendL b)[b.length + 1]'(by rw [HLL.out]; omega) = 90 := by have := lendL_last b; rw [List.getElem?_eq_getElem (by rw [HLL.out]; omega)] at this; injection this
  rw [f0] at e0
  rw [f1] at e1
  rw [HLL.out] at *
  have hsl : ∀ W, (Instr.slice 29 (.slice (some ⟨g, o, none⟩) (b.length + 2) c1) (some (.int .i64 1)) (some (.int .i64 ((b.length : Int) + 1))) none).run Tryz.prog W = .ok (.slice am b.length cm) W := hmr _ (by omega)
  have q1 : wrap64 ((b.length : Int) + 2) = ((b.length + 2 : Nat) : Int) := by unfold wrap64; omega
  have q2 : wrap64 ((b.length : Int) + 1) = ((b.length + 1 : Nat) : Int) := by unfold wrap64; omega
  have i1 : ((b.length + 1 : Nat) : Int) < ((b.length + 2 : Nat) : Int) := by omega
  have i2 : (0 : Int) < ((b.length + 2 : Nat) : Int) := by omega
  have R1 := r1 w.drew (Below.drew (Below.refl _ _)); have R2 := r2 w.drew (Below.drew (Below.refl _ _))
  rw [Nat.add_zero] at e0
  have e0' : w.cell? ⟨g, o, none⟩ = some (.int .u8 165) := e0
  have e1' : w.cell? ⟨g, o + (b.length + 1), none⟩ = some (.int .u8 90) := e1
  clear e0 e1 f0 f1 hmr hm hx1 hx2 hcell r1 r2 H1 H2 HLL
  go_enter Tryz.func17, Tryz.ntmps17
  go_wp2_with fail
  go_region
  go_wp2_with fail
  go_ret
  exact ⟨rfl, Below.drew (Below.refl _ _)⟩
end Go.Proofs.YtplghaoflmaadaaGreatDoor
end
