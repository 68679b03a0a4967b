/- Contract of manifest's Bytes. Conditions: the numbers are of int64. -/
import Derived.Test.YtefndmjimmbhnaaDoorZ27
import Derived.Test.YtefndmjimmbhnaaDoorZ13
import Derived.Test.YtefndmjimmbhnaaDoorZ29
section
set_option linter.unusedVariables false
set_option linter.unusedSimpArgs false
set_option maxRecDepth 20000
namespace Go.Proofs.YtefndmjimmbhnaaDoor
open Go.RowKit

theorem SlI.slx {w : World} {v : Value} {l : List Int} (h : SlI w v l) : SlX eI w.heap.size w v l := by
  obtain ⟨a, c, e, hc, hx⟩ := h.ex
  refine ⟨a, c, e, hc, fun h0 => ?_⟩
  obtain ⟨g, o, ea, hcell⟩ := hx h0
  refine ⟨g, o, ea, World.block_lt_of_cell? w _ (hcell 0 h0), fun j u hj => ?_⟩
  rw [eI_cells, List.getElem?_map] at hj
  by_cases hjl : j < l.length
  · rw [List.getElem?_eq_getElem hjl] at hj
    injection hj with hj
    subst hj
    exact hcell j hjl
  · rw [List.getElem?_eq_none (by omega)] at hj; cases hj
theorem SlX.ints {B : Nat} {w : World} {v : Value} {l : List Int} (h : SlX eI B w v l) : SlI w v l := by
  obtain ⟨a, c, e, hc, hx⟩ := h.ex
  refine ⟨a, c, e, hc, fun h0 => ?_⟩
  obtain ⟨g, o, ea, hg, hcell⟩ := hx h0
  refine ⟨g, o, ea, fun j hj => hcell j _ ?_⟩
  rw [eI_cells, List.getElem?_map, List.getElem?_eq_getElem hj]; rfl

/-- what a manifest's bytes are, and the error -/
def bytesM (l : List Int) (nx fr : Int) : List UInt8 × Int := if goodM l nx fr = true then (frameL (encM l nx fr), 0) else ([], 2)
def BytesPost (w : World) (r : List UInt8 × Int) (e : Ending) (w' : World) : Prop := ∃ v, e = .returned (.tuple #[v, .int .i64 r.2]) ∧ OwnB w' w.heap.size v r.1 ∧ Below w.heap.size w w'

set_option maxHeartbeats 2000000 in
theorem mBytes_good (v : Value) (l : List Int) (nx fr : Int) (w : World) (hv : SlI w v l) (hg : goodM l nx fr = true) :
    Calls Tryd.prog 16 #[.agg #[v, .int .i64 nx, .int .i64 fr]] w (BytesPost w (frameL (encM l nx fr), 0)) := by
  obtain ⟨n1, n2, f1, f2, hl, hk⟩ := goodM_pos hg
  have hxs : ∀ n ∈ (nx :: fr :: (l.length : Int) :: l), 0 ≤ n ∧ n ≤ 999999999 := by
    intro n hn
    simp only [List.mem_cons] at hn
    rcases hn with rfl | rfl | rfl | hn
    · omega
    · omega
    · omega
    · obtain ⟨k, hk', rfl⟩ := List.getElem_of_mem hn
      have := hk k hk'
      rw [List.getD_eq_getElem?_getD, List.getElem?_eq_getElem hk'] at this
      simp at this; omega
  have hel := encM_len hg
  have G := Lib.hid (fun W (h : Below w.heap.size w W) => mGood_any v l nx fr W (hv.below h) (by omega))
  rw [hg] at G
  have HV := Lib.hid hv
  obtain ⟨a, c, rfl, hc, hx⟩ := hv.ex
  clear hx hv hk
  have hb0 := Lib.hid (below_alloc (Below.refl _ w) (.cells #[.slice a l.length c, .int .i64 nx, .int .i64 fr] 24))
  have z0 : (w.alloc (.cells #[.slice a l.length c, .int .i64 nx, .int .i64 fr] 24)).cell? ⟨w.heap.size, 0, none⟩ = some (.slice a l.length c) := by go_simp
  have z1 : (w.alloc (.cells #[.slice a l.length c, .int .i64 nx, .int .i64 fr] 24)).cell? ⟨w.heap.size, 1, none⟩ = some (.int .i64 nx) := by go_simp
  have z2 : (w.alloc (.cells #[.slice a l.length c, .int .i64 nx, .int .i64 fr] 24)).cell? ⟨w.heap.size, 2, none⟩ = some (.int .i64 fr) := by go_simp
  have HXS := Lib.hid hxs; clear hxs
  have hxl : encM l nx fr = numsL (nx :: fr :: (l.length : Int) :: l) := rfl
  have HXL := Lib.hid hxl; clear hxl
  have HLn : (nx :: fr :: (l.length : Int) :: l).length = l.length + 3 := by simp
  have HLN := Lib.hid HLn; clear HLn
  go_enter Tryd.func16, Tryd.ntmps16
  go_wp2_with fail
  generalize hW : w.alloc (.cells #[.slice a l.length c, .int .i64 nx, .int .i64 fr] 24) = W0 at *
  clear hW
  refine (G.out _ hb0.out).mono ?_
  rintro e w1 ⟨rfl, hb1⟩
  have HB1 := Lib.hid (below_tr hb0.out hb1)
  have y0 := cell_keep hb1 z0; have y1 := cell_keep hb1 z1; have y2 := cell_keep hb1 z2
  clear z0 z1 z2 hb1 hb0
  have HLIT := Lib.hid (OwnX.lit (E := eI) w1 w1.heap.size #[.int .i64 nx, .int .i64 fr, .int .i64 (l.length : Int)] [nx, fr, (l.length : Int)] 3 (Nat.le_refl _) rfl (by simp) (by simp [eI_cells]))
  have HBL := Lib.hid (below_alloc (Below.refl _ w1) (.cells #[.int .i64 nx, .int .i64 fr, .int .i64 (l.length : Int)] 3))
  have x0 := cell_keep HBL.out y0; have x1 := cell_keep HBL.out y1; have x2 := cell_keep HBL.out y2
  have HVL := Lib.hid ((HV.out.slx.keep HB1.out).below HBL.out)
  have hlx : [nx, fr, (l.length : Int)].length + l.length ≤ 9223372036854775807 := by simp; omega
  have hly : ([nx, fr, (l.length : Int)].length + l.length) * 8 ≤ 140737488355328 := by simp; omega
  go_wp2_with (at_builtin; go_must (refine ap_x (E := eI) rfl (.tmp 17) (.tmp 19) rfl w1.heap.size (.slice (some ⟨w1.heap.size, 0, none⟩) 3 3) [nx, fr, (l.length : Int)] w1.heap.size _ l rfl rfl HVL.out HLIT.out HBL.out HBL.out.size hlx hly ?_); intro v2 w2 hO2 hB2 hz2 _; obtain ⟨gx, cx, rfl, hcx, hgx, hgx2, hcellx⟩ := OwnX.formN hO2 (l.length + 3) HLN.out (by omega))
  have HB2 := Lib.hid (below_tr HB1.out hB2)
  have hcelly : ∀ j u, (eI.cells (nx :: fr :: (l.length : Int) :: l))[j]? = some u → w2.cell? ⟨gx, j, none⟩ = some u := hcellx
  clear hO2 hB2 hz2 x0 x1 x2 y0 y1 y2 hlx hly hcellx
  have HCX := Lib.hid (fun k (hk : k < (nx :: fr :: (l.length : Int) :: l).length) => hcelly k (.int .i64 (nx :: fr :: (l.length : Int) :: l)[k]) (by rw [eI_cells, List.getElem?_map, List.getElem?_eq_getElem hk]; rfl))
  have HEL := Lib.hid hel
  rw [HXL.out] at HEL
  clear hcelly hel
  generalize (nx :: fr :: (l.length : Int) :: l) = xs at *
  have P := Lib.hid (fun W v l' u h hl' hu => Put_any w.heap.size v l' u W h hu hl')
  have FR := Lib.hid (fun W v h hl' => Frame_any v (numsL xs) W h hl')
  have HB2' := Lib.hid (Below.refl w2.heap.size w2)
  go_loopw [4, 6, 22] (fun b y i wr => ∃ k : Nat, k ≤ l.length + 3 ∧ i = .int .i64 k ∧ Below w2.heap.size w2 wr ∧ OwnB wr w.heap.size b (numsL (xs.take k))) (fun _ _ i _ => l.length + 3 - (intOf i).toNat)
  case atStart => exact ⟨0, by omega, rfl, HB2'.out, by rw [List.take_zero]; exact OwnB.nil _ _⟩
  case round =>
    obtain ⟨k, hk, rfl, hB, hO⟩ := hrel
    have HBw := Lib.hid (HB2.out.trans (hB.mono HB2.out.size))
    by_cases hlt : k < l.length + 3
    · have hkx : k < xs.length := by have := HLN.out; omega
      have hck := cell_keep hB (HCX.out k hkx)
      have hnn := HXS.out _ (List.getElem_mem hkx)
      have hst : numsL (xs.take (k + 1)) = numsL (xs.take k) ++ putL xs[k].toNat := by rw [take_snoc _ _ _ (List.getElem?_eq_getElem hkx), numsL_snoc]
      have hbl : (numsL (xs.take k)).length ≤ 100000000000 := by
        have h1 := numsL_len (xs.take k) (fun n hn => by have := HXS.out n (List.mem_of_mem_take hn); omega)
        have h2 := List.length_take_le k xs
        have := HLN.out
        omega
      obtain ⟨m, hm⟩ : ∃ m : Nat, xs[k] = (m : Int) := ⟨xs[k].toNat, by omega⟩
      rw [hm] at hck hst hnn
      rw [Int.toNat_natCast] at hst
      have HST := Lib.hid hst; have HO := Lib.hid hO; have HBB := Lib.hid hB
      clear hst hO hB hm
      have hm64 : m < 18446744073709551616 := by omega
      go_wp2_with fail
      refine (P.out wr u4 _ m HO.out hbl hm64).mono ?_
      rintro e w4 ⟨v4, rfl, hO4, hb4⟩
      rw [← HST.out] at hO4
      have HO4 := Lib.hid (hO4.weaken HBw.out.size)
      have HB4 := Lib.hid (below_tr HBB.out hb4)
      clear hO4 hb4 HO hbl
      go_wp2_with fail
      go_roundw
      case rel => exact ⟨k + 1, by omega, by go_num, HB4.out, HO4.out⟩
      case measure => (first | (simp [intOf]; done) | (simp [intOf]; omega))
    · have e : xs.take k = xs := List.take_of_length_le (by have := HLN.out; omega)
      rw [e] at hO
      have HO := Lib.hid hO; clear hO hB
      go_wp2_with fail
      refine (FR.out wr u4 HO.out.slB (by have := HEL.out; omega)).mono ?_
      rintro e w5 ⟨v5, rfl, hO5, hb5⟩
      go_wp2_with fail
      go_ret2
      have hO6 := hO5.weaken HBw.out.size
      rw [← HXL.out] at hO6
      exact ⟨_, rfl, hO6, below_tr HBw.out hb5⟩
theorem mBytes_any (v : Value) (l : List Int) (nx fr : Int) (w : World) (hv : SlI w v l) (hl : l.length ≤ 140737488351232) :
    Calls Tryd.prog 16 #[.agg #[v, .int .i64 nx, .int .i64 fr]] w (BytesPost w (bytesM l nx fr)) := by
  unfold bytesM
  by_cases hg : goodM l nx fr = true
  · rw [if_pos hg]; exact mBytes_good v l nx fr w hv hg
  · rw [if_neg hg]
    refine (mBytes_bad v l nx fr w hv hl (by simpa using hg)).mono ?_
    rintro e w' ⟨rfl, hb⟩
    exact ⟨_, rfl, OwnB.nil _ _, hb⟩
end Go.Proofs.YtefndmjimmbhnaaDoor
end
