/- Contracts of the reference's Good, Bytes, File, Begin of layer 13, and of the law's plain and same. Conditions: the numbers are of int64. -/
import Derived.Test.YtkmcjainbhmbdaaDoorNb
import Derived.Test.YtkmcjainbhmbdaaDoorCl
import Derived.Test.YtkmcjainbhmbdaaDoorKf
set_option linter.unusedVariables false
set_option linter.unusedSimpArgs false
set_option maxRecDepth 20000
namespace Go.Proofs.YtkmcjainbhmbdaaDoor
open Go.RowKit

theorem contains_take (l : List Int) (x : Int) (k : Nat) (h : k < l.length) : (l.take (k + 1)).contains x = ((l.take k).contains x || (x == l[k])) := by
  rw [take_snoc _ _ _ (List.getElem?_eq_getElem h)]
  simp only [List.contains_eq_any_beq, List.any_append, List.any_cons, List.any_nil, Bool.or_false]

set_option maxHeartbeats 2000000 in
theorem rGood_any (v : Value) (l : List Int) (nx fr : Int) (w : World) (hv : SlI w v l) (hl : l.length ≤ 140737488351232) :
    Calls Tryd.prog 21 #[.agg #[v, .int .i64 nx, .int .i64 fr]] w fun e w' => e = .returned (.bool (goodM l nx fr)) ∧ Below w.heap.size w w' := by
  obtain ⟨a, c, rfl, hc, hx⟩ := hv.ex
  have HX := Lib.hid hx; clear hx hv
  have hb0 := Lib.hid (below_alloc (Below.refl _ w) (.cells #[.slice a l.length c, .int .i64 nx, .int .i64 fr] 32))
  have z0 : (w.alloc (.cells #[.slice a l.length c, .int .i64 nx, .int .i64 fr] 32)).cell? ⟨w.heap.size, 0, none⟩ = some (.slice a l.length c) := by go_simp
  have z1 : (w.alloc (.cells #[.slice a l.length c, .int .i64 nx, .int .i64 fr] 32)).cell? ⟨w.heap.size, 1, none⟩ = some (.int .i64 nx) := by go_simp
  have z2 : (w.alloc (.cells #[.slice a l.length c, .int .i64 nx, .int .i64 fr] 32)).cell? ⟨w.heap.size, 2, none⟩ = some (.int .i64 fr) := by go_simp
  have hgd : (nx < 1 ∨ 999999999 < nx ∨ fr < 1 ∨ 999999999 < fr ∨ 30 < l.length) → goodM l nx fr = false := by
    intro h
    rw [Bool.eq_false_iff]
    intro hh
    have := goodM_pos hh
    omega
  have HGD := Lib.hid hgd; clear hgd
  by_cases a1 : nx < 1
  · go_enter Tryd.func21, Tryd.ntmps21
    go_wp2_with fail
    go_ret
    exact ⟨ret_b (HGD.out (by omega)).symm, hb0.out⟩
  by_cases a2 : 999999999 < nx
  · go_enter Tryd.func21, Tryd.ntmps21
    go_wp2_with fail
    go_ret
    exact ⟨ret_b (HGD.out (by omega)).symm, hb0.out⟩
  by_cases a3 : fr < 1
  · go_enter Tryd.func21, Tryd.ntmps21
    go_wp2_with fail
    go_ret
    exact ⟨ret_b (HGD.out (by omega)).symm, hb0.out⟩
  by_cases a4 : 999999999 < fr
  · go_enter Tryd.func21, Tryd.ntmps21
    go_wp2_with fail
    go_ret
    exact ⟨ret_b (HGD.out (by omega)).symm, hb0.out⟩
  by_cases a5 : 30 < l.length
  · go_enter Tryd.func21, Tryd.ntmps21
    go_wp2_with fail
    go_ret
    exact ⟨ret_b (HGD.out (by omega)).symm, hb0.out⟩
  have e : goodM l nx fr = (List.range l.length).all (tabB nx l) := by
    unfold goodM; rw [decide_eq_true (by omega : 1 ≤ nx), decide_eq_true (by omega : nx ≤ 999999999), decide_eq_true (by omega : 1 ≤ fr), decide_eq_true (by omega : fr ≤ 999999999), decide_eq_true (by omega : l.length ≤ 30)]; simp
  have E := Lib.hid e; clear e
  go_enter Tryd.func21, Tryd.ntmps21
  go_wp2_with fail
  generalize w.alloc (.cells #[.slice a l.length c, .int .i64 nx, .int .i64 fr] 32) = W at *
  go_loopw [33, 3, 4, 5] (fun i u y j wr => ∃ k : Nat, k ≤ l.length ∧ i = .int .i64 k ∧ wr = W ∧ (List.range k).all (tabB nx l) = true) (fun i _ _ _ _ => l.length - (intOf i).toNat)
  case atStart => exact ⟨0, by omega, rfl, rfl, rfl⟩
  case round =>
    obtain ⟨k, hk, rfl, rfl, hall⟩ := hrel
    have HALL := Lib.hid hall; clear hall
    by_cases hlt : k < l.length
    · obtain ⟨g, o, rfl, hcell⟩ := HX.out (by omega)
      have HC := Lib.hid (fun j (hj : j < l.length) => by have := hcell j hj; rw [← hb0.out.cell (World.block_lt_of_cell? w _ this)] at this; exact this)
      have hck := HC.out k hlt
      clear hcell
      have hst := tab_take nx l k
      rw [HALL.out, Bool.true_and] at hst
      have htb : tabB nx l k = ((decide (1 ≤ l[k]) && decide (l[k] ≤ nx - 1)) && !(l.take k).contains l[k]) := by
        unfold tabB
        rw [List.getD_eq_getElem?_getD, List.getElem?_eq_getElem hlt]; rfl
      have HX2 := Lib.hid (fun h : tabB nx l k = false => show (List.range l.length).all (tabB nx l) = false from by
        rw [List.all_eq_false]; exact ⟨k, by simpa using hlt, by simp [h]⟩)
      have HST := Lib.hid hst; clear hst
      have HTB := Lib.hid htb; clear htb
      generalize hx : l[k] = x at *
      clear hx
      by_cases b1 : x < 1
      · go_wp2_with fail
        go_ret
        exact ⟨ret_b (E.out.trans (HX2.out (by rw [HTB.out, decide_eq_false (by omega)]; rfl))).symm, hb0.out⟩
      by_cases b2 : nx ≤ x
      · go_wp2_with fail
        go_ret
        exact ⟨ret_b (E.out.trans (HX2.out (by rw [HTB.out, decide_eq_false (by omega : ¬ x ≤ nx - 1)]; simp))).symm, hb0.out⟩
      have b3 : x < nx := by omega
      go_wp2_with fail
      go_loopw [5] (fun j wr' => ∃ m : Nat, m ≤ k ∧ j = .int .i64 m ∧ wr' = wr ∧ (l.take m).contains x = false) (fun j _ => k - (intOf j).toNat)
      case atStart => exact ⟨0, by omega, rfl, rfl, rfl⟩
      case round =>
        obtain ⟨m, hm, rfl, rfl, hno⟩ := hrel
        have HNO := Lib.hid hno; clear hno
        by_cases hmk : m < k
        · have hcm := HC.out m (by omega)
          have hct := contains_take l x m (by omega)
          rw [HNO.out, Bool.false_or] at hct
          have hmem : l[m] ∈ l.take k := by rw [List.mem_take_iff_getElem]; exact ⟨m, by omega, rfl⟩
          rcases hq : (l[m] == x) with _ | _
          · have HCT := Lib.hid (show (l.take (m + 1)).contains x = false by rw [hct, BEq.comm]; exact hq)
            clear hct hmem
            generalize l[m] = y at *
            go_wp2_with fail
            go_roundw
            case rel => exact ⟨m + 1, by omega, by go_num, trivial, HCT.out⟩
            case measure => (first | (simp [intOf]; done) | (simp [intOf]; omega))
          · have HCT := Lib.hid (show (l.take k).contains x = true by
              have : l[m] = x := by simpa using hq
              rw [← this]; simpa using hmem)
            clear hct hmem
            generalize l[m] = y at *
            go_wp2_with fail
            go_ret
            exact ⟨ret_b (E.out.trans (HX2.out (by rw [HTB.out, HCT.out]; simp))).symm, hb0.out⟩
        · obtain rfl : m = k := by omega
          have HN := Lib.hid (show tabB nx l m = true by rw [HTB.out, HNO.out, decide_eq_true (by omega), decide_eq_true (by omega)]; rfl)
          go_wp2_with fail
          go_roundw
          case rel => exact ⟨m + 1, by omega, by go_num, trivial, by rw [HST.out, HN.out]⟩
          case measure => (first | (simp [intOf]; done) | (simp [intOf]; omega))
    · obtain rfl : k = l.length := by omega
      go_wp2_with fail
      go_ret
      exact ⟨ret_b (E.out.trans HALL.out).symm, hb0.out⟩

set_option maxHeartbeats 2000000 in
theorem rBytes_good (v : Value) (l : List Int) (nx fr : Int) (w : World) (hv : SlI w v l) (hg : goodM l nx fr = true) :
    Calls Tryd.prog 16 #[.agg #[v, .int .i64 nx, .int .i64 fr]] w (BytesPost w (frameL (encM l nx fr), 0)) := by
  obtain ⟨n1, n2, f1, f2, hl, hk⟩ := goodM_pos hg
  have hxs : ∀ n ∈ l, 0 ≤ n ∧ n ≤ 999999999 := by
    intro n hn
    obtain ⟨k, hk', rfl⟩ := List.getElem_of_mem hn
    have := hk k hk'
    rw [List.getD_eq_getElem?_getD, List.getElem?_eq_getElem hk'] at this
    simp at this; omega
  have hel := encM_len hg
  have G := Lib.hid (fun W (h : Below w.heap.size w W) => rGood_any v l nx fr W (hv.below h) (by omega))
  rw [hg] at G
  obtain ⟨a, c, rfl, hc, hx⟩ := hv.ex
  have HX := Lib.hid hx
  clear hx hv hk
  have hb0 := Lib.hid (below_alloc (Below.refl _ w) (.cells #[.slice a l.length c, .int .i64 nx, .int .i64 fr] 32))
  have z0 : (w.alloc (.cells #[.slice a l.length c, .int .i64 nx, .int .i64 fr] 32)).cell? ⟨w.heap.size, 0, none⟩ = some (.slice a l.length c) := by go_simp
  have z1 : (w.alloc (.cells #[.slice a l.length c, .int .i64 nx, .int .i64 fr] 32)).cell? ⟨w.heap.size, 1, none⟩ = some (.int .i64 nx) := by go_simp
  have z2 : (w.alloc (.cells #[.slice a l.length c, .int .i64 nx, .int .i64 fr] 32)).cell? ⟨w.heap.size, 2, none⟩ = some (.int .i64 fr) := by go_simp
  have hxl : encM l nx fr = putL nx.toNat ++ putL fr.toNat ++ putL l.length ++ numsL l := by simp [encM, numsL]
  obtain ⟨m1, rfl⟩ : ∃ m : Nat, nx = m := ⟨nx.toNat, by omega⟩
  obtain ⟨m2, rfl⟩ : ∃ m : Nat, fr = m := ⟨fr.toNat, by omega⟩
  rw [Int.toNat_natCast, Int.toNat_natCast] at hxl
  have HXL := Lib.hid hxl; clear hxl
  have HXS := Lib.hid hxs; clear hxs
  have HEL := Lib.hid hel; clear hel
  have hm1 : m1 < 18446744073709551616 := by omega
  have hm2 : m2 < 18446744073709551616 := by omega
  have hm3 : l.length < 18446744073709551616 := by omega
  have P := Lib.hid (fun W v l' u h hl' hu => rPut_any w.heap.size v l' u W h hu hl')
  have FR := Lib.hid (fun W v h hl' => rFrame_any v (encM l m1 m2) W h hl')
  have L1 := Lib.hid (putL_len 9 m1 (by omega)); have L2 := Lib.hid (putL_len 9 m2 (by omega)); have L3 := Lib.hid (putL_len 9 l.length (by omega))
  go_enter Tryd.func16, Tryd.ntmps16
  go_wp2_with fail
  generalize hW : w.alloc (.cells #[.slice a l.length c, .int .i64 m1, .int .i64 m2] 32) = W0 at *
  clear hW
  refine (G.out _ hb0.out).mono ?_
  rintro e w1 ⟨rfl, hb1⟩
  have HB1 := Lib.hid (below_tr hb0.out hb1)
  have y0 := cell_keep hb1 z0; have y1 := cell_keep hb1 z1; have y2 := cell_keep hb1 z2
  clear z0 z1 z2 hb1 hb0
  go_wp2_with fail
  refine (P.out w1 (.slice none 0 0) [] m1 (OwnB.nil _ _) (by simp) hm1).mono ?_
  rintro e w2 ⟨v2, rfl, hO2, hb2⟩
  rw [List.nil_append] at hO2
  have HO2 := Lib.hid (hO2.weaken HB1.out.size); have HB2 := Lib.hid (below_tr HB1.out hb2)
  have x0 := cell_keep hb2 y0; have x1 := cell_keep hb2 y1; have x2 := cell_keep hb2 y2
  clear hO2 hb2 y0 y1 y2
  go_wp2_with fail
  refine (P.out w2 v2 _ m2 HO2.out (by have := L1.out; omega) hm2).mono ?_
  rintro e w3 ⟨v3, rfl, hO3, hb3⟩
  have HO3 := Lib.hid (hO3.weaken HB2.out.size); have HB3 := Lib.hid (below_tr HB2.out hb3)
  have y0 := cell_keep hb3 x0; have y1 := cell_keep hb3 x1; have y2 := cell_keep hb3 x2
  clear hO3 hb3 x0 x1 x2
  go_wp2_with fail
  refine (P.out w3 v3 _ l.length HO3.out (by have := L1.out; have := L2.out; rw [List.length_append]; omega) hm3).mono ?_
  rintro e w4 ⟨v4, rfl, hO4, hb4⟩
  have HO4 := Lib.hid (hO4.weaken HB3.out.size); have HB4 := Lib.hid (below_tr HB3.out hb4)
  have x0 := cell_keep hb4 y0; have x1 := cell_keep hb4 y1; have x2 := cell_keep hb4 y2
  clear hO4 hb4 y0 y1 y2 HO3 HO2
  go_wp2_with fail
  have HBr := Lib.hid (Below.refl w4.heap.size w4)
  generalize hpre : putL m1 ++ putL m2 ++ putL l.length = pre at *
  have HPRE := Lib.hid (show pre.length ≤ 30 by rw [← hpre, List.length_append, List.length_append]; have := L1.out; have := L2.out; have := L3.out; omega)
  clear hpre L1 L2 L3
  go_loopw [4, 6, 28] (fun b y i wr => ∃ k : Nat, k ≤ l.length ∧ i = .int .i64 k ∧ Below w4.heap.size w4 wr ∧ OwnB wr w.heap.size b (pre ++ numsL (l.take k))) (fun _ _ i _ => l.length - (intOf i).toNat)
  case atStart => exact ⟨0, by omega, rfl, HBr.out, by rw [List.take_zero]; simp only [numsL, List.flatMap_nil, List.append_nil]; exact HO4.out⟩
  case round =>
    obtain ⟨k, hk, rfl, hB, hO⟩ := hrel
    have HBw := Lib.hid (HB4.out.trans (hB.mono HB4.out.size))
    by_cases hlt : k < l.length
    · obtain ⟨g, o, rfl, hcell⟩ := HX.out (by omega)
      have hck := cell_keep HBw.out (hcell k hlt)
      have hnn := HXS.out _ (List.getElem_mem hlt)
      have hst : pre ++ numsL (l.take (k + 1)) = pre ++ numsL (l.take k) ++ putL l[k].toNat := by rw [take_snoc _ _ _ (List.getElem?_eq_getElem hlt), numsL_snoc, List.append_assoc]
      have hbl : (pre ++ numsL (l.take k)).length ≤ 100000000 := by
        have h1 := numsL_len (l.take k) (fun n hn => by have := HXS.out n (List.mem_of_mem_take hn); omega)
        have h2 := List.length_take_le k l
        have := HPRE.out
        rw [List.length_append]; omega
      obtain ⟨m, hm⟩ : ∃ m : Nat, l[k] = (m : Int) := ⟨l[k].toNat, by omega⟩
      rw [hm] at hck hst hnn
      rw [Int.toNat_natCast] at hst
      have HST := Lib.hid hst; have HO := Lib.hid hO; have HBB := Lib.hid hB
      clear hst hO hB hm hcell
      have hm64 : m < 18446744073709551616 := by omega
      go_wp2_with fail
      refine (P.out wr u4 _ m HO.out hbl hm64).mono ?_
      rintro e w5 ⟨v5, rfl, hO5, hb5⟩
      rw [← HST.out] at hO5
      have HO5 := Lib.hid (hO5.weaken HBw.out.size)
      have HB5 := Lib.hid (below_tr HBB.out hb5)
      clear hO5 hb5 HO hbl
      go_wp2_with fail
      go_roundw
      case rel => exact ⟨k + 1, by omega, by go_num, HB5.out, HO5.out⟩
      case measure => (first | (simp [intOf]; done) | (simp [intOf]; omega))
    · have e : l.take k = l := List.take_of_length_le (by omega)
      rw [e, ← HXL.out] at hO
      have HO := Lib.hid hO; clear hO hB
      go_wp2_with fail
      refine (FR.out wr u4 HO.out.slB (by have := HEL.out; omega)).mono ?_
      rintro e w5 ⟨v5, rfl, hO5, hb5⟩
      go_wp2_with fail
      go_ret2
      exact ⟨_, rfl, hO5.weaken HBw.out.size, below_tr HBw.out hb5⟩
theorem rBytes_bad (v : Value) (l : List Int) (nx fr : Int) (w : World) (hv : SlI w v l) (hl : l.length ≤ 140737488351232) (hg : goodM l nx fr = false) :
    Calls Tryd.prog 16 #[.agg #[v, .int .i64 nx, .int .i64 fr]] w fun e w' => e = .returned (.tuple #[.slice none 0 0, .int .i64 2]) ∧ Below w.heap.size w w' := by
  have H := Lib.hid (fun W (h : Below w.heap.size w W) => rGood_any v l nx fr W (hv.below h) hl)
  rw [hg] at H
  obtain ⟨a, c, rfl, hc, hx⟩ := hv.ex
  clear hx hv
  have hb0 := Lib.hid (below_alloc (Below.refl _ w) (.cells #[.slice a l.length c, .int .i64 nx, .int .i64 fr] 32))
  have z0 : (w.alloc (.cells #[.slice a l.length c, .int .i64 nx, .int .i64 fr] 32)).cell? ⟨w.heap.size, 0, none⟩ = some (.slice a l.length c) := by go_simp
  have z1 : (w.alloc (.cells #[.slice a l.length c, .int .i64 nx, .int .i64 fr] 32)).cell? ⟨w.heap.size, 1, none⟩ = some (.int .i64 nx) := by go_simp
  have z2 : (w.alloc (.cells #[.slice a l.length c, .int .i64 nx, .int .i64 fr] 32)).cell? ⟨w.heap.size, 2, none⟩ = some (.int .i64 fr) := by go_simp
  go_enter Tryd.func16, Tryd.ntmps16
  go_wp2_with fail
  refine (H.out _ hb0.out).mono ?_
  rintro e w1 ⟨rfl, hb⟩
  go_wp2_with fail
  go_ret2
  exact ⟨rfl, below_tr hb0.out hb⟩
theorem rmBytes_any (v : Value) (l : List Int) (nx fr : Int) (w : World) (hv : SlI w v l) (hl : l.length ≤ 140737488351232) :
    Calls Tryd.prog 16 #[.agg #[v, .int .i64 nx, .int .i64 fr]] w (BytesPost w (bytesM l nx fr)) := by
  unfold bytesM
  by_cases hg : goodM l nx fr = true
  · rw [if_pos hg]; exact rBytes_good v l nx fr w hv hg
  · rw [if_neg hg]
    refine (rBytes_bad v l nx fr w hv hl (by simpa using hg)).mono ?_
    rintro e w' ⟨rfl, hb⟩
    exact ⟨_, rfl, OwnB.nil _ _, hb⟩
end Go.Proofs.YtkmcjainbhmbdaaDoor
