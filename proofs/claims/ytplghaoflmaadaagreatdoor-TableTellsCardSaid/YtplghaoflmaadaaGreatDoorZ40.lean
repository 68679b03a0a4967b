/- Plain laws: a table's file that is cut, or with a byte turned ahead of its end, is none. No program in sight; no condition. The walk of the law TableTells: it returns true. Condition: the row's own bounds. -/
import Derived.Test.YtplghaoflmaadaaGreatDoorZ37
import Derived.Test.YtplghaoflmaadaaGreatDoorZ29
import Derived.Test.YtplghaoflmaadaaGreatDoorZ32
import Derived.Test.YtplghaoflmaadaaGreatDoorZ38
import Derived.Test.YtplghaoflmaadaaGreatDoorZ11
section
set_option linter.unusedVariables false
set_option linter.unusedSimpArgs false
set_option maxRecDepth 50000
namespace Go.Proofs.YtplghaoflmaadaaGreatDoor

theorem okFrom_all (s : ByteArray) : ∀ (n k : Nat), s.size - k ≤ n → okFrom s k = true → ∀ i (h : i < s.size), k ≤ i → okC s[i] = true
  | 0, k, hn, _, i, h, hk => by omega
  | n + 1, k, hn, ho, i, h, hk => by
    rw [okFrom] at ho
    by_cases hks : k < s.size
    · rw [dif_pos hks] at ho
      split at ho
      · rename_i h1
        by_cases e : k = i
        · subst e; exact h1
        · exact okFrom_all s n (k + 1) (by omega) ho i h (by omega)
      · cases ho
    · omega
theorem name_all {s : ByteArray} (h : nameB s = true) : (∀ x ∈ s.toList, okC x = true) ∧ 0 < s.size ∧ s.size ≤ 16 := by
  rw [name_ref] at h
  unfold nameR at h
  rw [Bool.and_eq_true] at h
  have hp : 0 < s.size := by
    rcases Nat.eq_zero_or_pos s.size with e | e
    · rw [headOk_empty (by omega)] at h; cases h.1
    · exact e
  refine ⟨fun x hx => ?_, hp, (headOk_pos hp h.1).1⟩
  rw [ByteArray.toList_eq] at hx
  obtain ⟨i, hi, rfl⟩ := List.getElem_of_mem hx
  have hi2 : i < s.size := by rw [Array.length_toList] at hi; exact hi
  have := okFrom_all s s.size 0 (by omega) h.2 i hi2 (Nat.zero_le _)
  rw [Array.getElem_toList]
  exact this
theorem good_name {c : Cel} (h : goodC c = true) : nameB c.k.t = true := by
  unfold goodC goodB at h
  simp only [Bool.and_eq_true] at h
  exact h.1.1.1.1
theorem endN_any (o : List UInt8) (l : List Nat) (h5 : l.length = 5) (hu : ∀ u ∈ l, u < 18446744073709551616) (he : (l.flatMap putL).length ≤ 50) :
    endN (o ++ frameL (l.flatMap putL) ++ [UInt8.ofNat (frameL (l.flatMap putL)).length]) = some (l, o) := by
  generalize hE : l.flatMap putL = E at *
  have hfl := frameL_length E (by omega)
  have hlen : (o ++ frameL E ++ [UInt8.ofNat (frameL E).length]).length = o.length + (E.length + 8) + 1 := by simp only [List.length_append, List.length_cons, List.length_nil]; rw [hfl]
  have hlast : (o ++ frameL E ++ [UInt8.ofNat (frameL E).length]).getD ((o ++ frameL E ++ [UInt8.ofNat (frameL E).length]).length - 1) 0 = UInt8.ofNat (frameL E).length := by
    rw [List.getD_eq_getElem?_getD]
    rw [List.getElem?_append_right (by simp only [List.length_append, List.length_cons, List.length_nil]; omega)]
    simp only [List.length_append, List.length_cons, List.length_nil]
    rw [show o.length + (frameL E).length + (0 + 1) - 1 - (o.length + (frameL E).length) = 0 by omega]
    rfl
  have hn : (UInt8.ofNat (frameL E).length).toNat = E.length + 8 := by rw [hfl, UInt8.toNat_ofNat']; omega
  have hmid : ((o ++ frameL E ++ [UInt8.ofNat (frameL E).length]).drop ((o ++ frameL E ++ [UInt8.ofNat (frameL E).length]).length - 1 - (E.length + 8))).take (E.length + 8) = frameL E := by
    rw [hlen, show o.length + (E.length + 8) + 1 - 1 - (E.length + 8) = o.length by omega]
    rw [List.append_assoc, List.drop_left' rfl, List.take_left' hfl]
  have hu2 : unframeL (frameL E) = (E, E.length + 8, 0) := by have := unframe_frame E [] (by omega); rwa [List.append_nil] at this
  have hnum : rdNums E.length E = some l := by rw [← hE]; exact rdNums_put l _ hu (Nat.le_refl _)
  unfold endN
  rw [hlast, hn, hmid, hu2, if_neg (by omega), if_neg (by omega)]
  simp only [true_and, if_true]
  rw [hnum]
  simp only [h5, if_true]
  congr 2
  rw [hlen, show o.length + (E.length + 8) + 1 - 1 - (E.length + 8) = o.length by omega]
  rw [List.append_assoc, List.take_left' rfl]
theorem nums_lt {M : List Cel} (hk : OkT M) (hf : FitT M) : ∀ u ∈ numsL M, u < 18446744073709551616 := by
  have ho := outL_len M hk.most hf.flat hf.idx
  have hs := (sumN_val (outL M)).2
  have hk2 := hk.most
  intro u hu
  unfold outL at ho
  rw [List.length_append, List.length_append] at ho
  unfold numsL at hu
  simp only [List.mem_cons, List.not_mem_nil, or_false] at hu
  rcases hu with rfl | rfl | rfl | rfl | rfl <;> omega
theorem open_turn {M : List Cel} (hk : OkT M) (hf : FitT M) {k : Nat} (hlt : k < (outL M).length) {y : UInt8} (hy : y ≠ (tableL M).getD k 0) : openN ((tableL M).set k y) = none := by
  have hg : (tableL M).getD k 0 = (outL M)[k] := by
    unfold tableL
    rw [List.append_assoc, List.getD_eq_getElem?_getD, List.getElem?_append_left hlt, List.getElem?_eq_getElem hlt]; rfl
  have hset : (tableL M).set k y = (outL M).set k y ++ frameL (endL M) ++ [UInt8.ofNat (frameL (endL M)).length] := by
    unfold tableL
    rw [List.append_assoc, List.set_append_left _ _ hlt, List.append_assoc]
  have he := endN_any ((outL M).set k y) (numsL M) rfl (nums_lt hk hf) (endL_len M hk.most hf.flat hf.idx)
  have hs : sumN (outL M) ≠ sumN ((outL M).set k y) := by
    intro e
    have e1 := (sumN_val (outL M)).1
    have e2 := (sumN_val ((outL M).set k y)).1
    have e3 : crcL 4294967295 (outL M) = crcL 4294967295 ((outL M).set k y) := by omega
    have s1 : outL M = (outL M).take k ++ (outL M)[k] :: (outL M).drop (k + 1) := by rw [← List.drop_eq_getElem_cons hlt, List.take_append_drop]
    have s2 : (outL M).set k y = (outL M).take k ++ y :: (outL M).drop (k + 1) := by rw [List.set_eq_take_append_cons_drop, if_pos hlt]
    rw [s2] at e3
    have e4 : crcL 4294967295 ((outL M).take k ++ (outL M)[k] :: (outL M).drop (k + 1)) = crcL 4294967295 ((outL M).take k ++ y :: (outL M).drop (k + 1)) := by rw [← s1]; exact e3
    have := crcL_turn 4294967295 (by unfold In32; decide) _ _ _ _ e4
    exact hy (by rw [hg]; exact this.symm)
  rw [hset]
  unfold openN
  rw [show endN ((outL M).set k y ++ frameL (endL M) ++ [UInt8.ofNat (frameL (endL M)).length]) = some (numsL M, (outL M).set k y) from he]
  simp only [numsL, List.getD_cons_succ, List.getD_cons_zero]
  rw [if_pos (.inr hs)]

theorem frame_uniq {c d x y : List UInt8} (hc : c.length ≤ 262144) (hd : d.length ≤ 262144) (h : frameL c ++ x = frameL d ++ y) : c = d ∧ x = y := by
  have h1 := unframe_frame c x hc
  have h2 := unframe_frame d y hd
  rw [h, h2] at h1
  have e : c = d := (congrArg Prod.fst h1).symm
  subst e
  exact ⟨rfl, List.append_cancel_left h⟩
/-- what a block of cells holds is no index -/
theorem index_cells {N : List Cel} (hk : OkT N) (hf : FitT N) {b : List Cel} (hb : 0 < b.length) (hb2 : b.length < 1000000) (hg : ∀ c ∈ b, goodC c = true) (h : indexL N = cellsL b) : False := by
  have hcl := chunk8_len N
  have hp := hk.pos
  have hm := hk.most
  have h1 := rdNum_put (chunk8 N).length ((chunk8 N).flatMap entryL) (by omega)
  rw [← indexL_eq, h] at h1
  have h2 := rdNum_put b.length (b.flatMap cellL) (by omega)
  rw [show putL b.length ++ b.flatMap cellL = cellsL b from rfl] at h2
  rw [h2] at h1
  have h3 : b.flatMap cellL = (chunk8 N).flatMap entryL := by injection h1 with h1; exact (Prod.mk.inj h1).2
  cases hcn : chunk8 N with
  | nil => rw [hcn] at hcl; simp at hcl; omega
  | cons x xs =>
    have hx := chunk8_mem N.length N (Nat.le_refl _) x (by rw [hcn]; exact List.mem_cons_self ..)
    rw [hcn, List.flatMap_cons, entry_head x hx.1] at h3
    cases b with
    | nil => simp at hb
    | cons c b =>
      have hgc := hg c (List.mem_cons_self ..)
      obtain ⟨n1, n2, n3⟩ := name_all (good_name hgc)
      have hkl := kyL_len x[0].k
      have hks := hf.keys x[0] (hx.2.2 _ (List.getElem_mem hx.1))
      rw [List.flatMap_cons] at h3
      unfold cellL at h3
      simp only [List.append_assoc] at h3
      have r1 := rdText_text c.k.t.toList (textL c.k.p.toList ++ (putL (zigN c.k.r) ++ (textL c.k.c.toList ++ (verL c.v ++ b.flatMap cellL)))) (by rw [str_len]; omega)
      unfold cellL at r1
      simp only [List.append_assoc] at r1
      rw [h3, rdText_text _ _ (by omega)] at r1
      have e : kyL x[0].k = c.k.t.toList := by injection r1 with r1; exact (Prod.mk.inj r1).1
      have h0 : (0 : UInt8) ∈ kyL x[0].k := by unfold kyL keyBytes; simp
      rw [e] at h0
      have := n1 0 h0
      exact absurd this (by decide)
theorem table_prefix {N M : List Cel} (h1 : OkT N) (f1 : FitT N) (h2 : OkT M) (f2 : FitT M) (hb1 : ∀ x ∈ chunk8 N, 0 < x.length ∧ x.length ≤ 8 ∧ (∀ c ∈ x, goodC c = true) ∧ (cellsL x).length ≤ 262144) (hb2 : ∀ x ∈ chunk8 M, 0 < x.length ∧ x.length ≤ 8 ∧ (∀ c ∈ x, goodC c = true) ∧ (cellsL x).length ≤ 262144) :
    ∀ (A B : List (List Cel)), (∀ x ∈ A, x ∈ chunk8 N) → (∀ x ∈ B, x ∈ chunk8 M) → ∀ r, A.flatMap blockL ++ tailT N ++ r = B.flatMap blockL ++ tailT M → r = []
  | [], [], _, _, r, h => by
    unfold tailT at h
    simp only [List.flatMap_nil, List.nil_append, List.append_assoc] at h
    have ex1 := endL_len N h1.most f1.flat f1.idx
    have ex2 := endL_len M h2.most f2.flat f2.idx
    obtain ⟨e1, h⟩ := frame_uniq f1.idx f2.idx h
    obtain ⟨e2, h⟩ := frame_uniq (filtL_len N h1.most) (filtL_len M h2.most) h
    obtain ⟨e3, h⟩ := frame_uniq (by omega) (by omega) h
    simp only [List.cons_append, List.nil_append, List.cons.injEq] at h
    exact h.2
  | a :: A, b :: B, hA, hB, r, h => by
    obtain ⟨p1, p2, p3, p4⟩ := hb1 a (hA a (List.mem_cons_self ..))
    obtain ⟨q1, q2, q3, q4⟩ := hb2 b (hB b (List.mem_cons_self ..))
    simp only [List.flatMap_cons, List.append_assoc] at h
    obtain ⟨e1, h⟩ := frame_uniq p4 q4 h
    exact table_prefix h1 f1 h2 f2 hb1 hb2 A B (fun x hx => hA x (List.mem_cons_of_mem _ hx)) (fun x hx => hB x (List.mem_cons_of_mem _ hx)) r (by simpa only [List.append_assoc] using h)
  | [], b :: B, hA, hB, r, h => by
    obtain ⟨q1, q2, q3, q4⟩ := hb2 b (hB b (List.mem_cons_self ..))
    unfold tailT at h
    simp only [List.flatMap_nil, List.flatMap_cons, List.nil_append, List.append_assoc] at h
    obtain ⟨e1, _⟩ := frame_uniq f1.idx q4 h
    exact (index_cells h1 f1 q1 (by omega) q3 e1).elim
  | a :: A, [], hA, hB, r, h => by
    obtain ⟨p1, p2, p3, p4⟩ := hb1 a (hA a (List.mem_cons_self ..))
    unfold tailT at h
    simp only [List.flatMap_nil, List.flatMap_cons, List.nil_append, List.append_assoc] at h
    obtain ⟨e1, _⟩ := frame_uniq p4 f2.idx h
    exact (index_cells h2 f2 p1 (by omega) p3 e1.symm).elim
theorem blks_of {M : List Cel} (hk : OkT M) (hf : FitT M) : ∀ x ∈ chunk8 M, 0 < x.length ∧ x.length ≤ 8 ∧ (∀ c ∈ x, goodC c = true) ∧ (cellsL x).length ≤ 262144 := by
  intro x hx
  obtain ⟨a1, a2, a3⟩ := chunk8_mem M.length M (Nat.le_refl _) x hx
  have hb2 : (x.flatMap cellL).length ≤ 120000 := by
    rw [chunk8_get M.length M (Nat.le_refl _) _ rfl] at hx
    obtain ⟨k, _, rfl⟩ := List.mem_map.1 hx
    exact Nat.le_trans (ckL_flat M k) hf.flat
  have := cellsL_len x (by omega)
  exact ⟨a1, a2, fun c hc => hk.good c (a3 c hc), by omega⟩
theorem open_cut {M : List Cel} (hk : OkT M) (hf : FitT M) (hl : (tableL M).length ≤ 120000) {m : Nat} (hm : m < (tableL M).length) : openN ((tableL M).take m) = none := by
  cases ho : openN ((tableL M).take m) with
  | none => rfl
  | some bs =>
    exfalso
    have H := openN_all (by rw [List.length_take]; omega) ho
    have e : tableL bs.flatten ++ (tableL M).drop m = tableL M := by rw [H.tab, List.take_append_drop]
    rw [tableL_tail, tableL_tail M] at e
    have hr := table_prefix H.ok H.fit hk hf (blks_of H.ok H.fit) (blks_of hk hf) (chunk8 bs.flatten) (chunk8 M) (fun x hx => hx) (fun x hx => hx) _ e
    have hd : ((chunk8 M).flatMap blockL ++ tailT M).drop m = [] := hr
    rw [← tableL_tail] at hd
    have := congrArg List.length hd
    rw [List.length_drop] at this
    simp at this; omega
end Go.Proofs.YtplghaoflmaadaaGreatDoor
end

section
set_option linter.unusedVariables false
set_option linter.unusedSimpArgs false
set_option maxRecDepth 50000
namespace Go.Proofs.YtplghaoflmaadaaGreatDoor
open Go.RowKit Go.Sort
open Go.Lib hiding intOf

theorem flip8 (x : UInt8) (m : Nat) (hm : m < 8) : ∃ y : UInt8, y ≠ x ∧ Go.bits .xor .u8 (x.toNat : Int) (2 ^ m % 256) = (y.toNat : Int) := by
  have key : ∀ (a : Fin 256) (m : Fin 8), Go.bits .xor .u8 ((a.val : Nat) : Int) (2 ^ m.val % 256) ≠ ((a.val : Nat) : Int) ∧ 0 ≤ Go.bits .xor .u8 ((a.val : Nat) : Int) (2 ^ m.val % 256) ∧ Go.bits .xor .u8 ((a.val : Nat) : Int) (2 ^ m.val % 256) < 256 := by decide +kernel
  obtain ⟨h1, h2, h3⟩ := key ⟨x.toNat, x.toNat_lt⟩ ⟨m, hm⟩
  refine ⟨UInt8.ofNat (Go.bits .xor .u8 (x.toNat : Int) (2 ^ m % 256)).toNat, fun e => h1 ?_, ?_⟩
  · have h4 : (UInt8.ofNat (Go.bits .xor .u8 (x.toNat : Int) (2 ^ m % 256)).toNat).toNat = (Go.bits .xor .u8 (x.toNat : Int) (2 ^ m % 256)).toNat := by
      rw [UInt8.toNat_ofNat']; simp only at h2 h3; omega
    rw [e] at h4
    simp only at *
    omega
  · rw [UInt8.toNat_ofNat']; simp only at h2 h3; omega
theorem table_last {M : List Cel} (hk : OkT M) (hf : FitT M) : ∃ ef, (tableL M).length = (outL M).length + ef + 1 ∧ ef ≤ 58 ∧ 8 ≤ ef ∧ ((tableL M).getD ((outL M).length + ef) 0).toNat = ef ∧ 8 ≤ (outL M).length := by
  have he := endL_len M hk.most hf.flat hf.idx
  have hfl := frameL_length (endL M) (by omega)
  have hi := frameL_length (indexL M) hf.idx
  refine ⟨(frameL (endL M)).length, ?_, by omega, by omega, ?_, ?_⟩
  · unfold tableL; simp only [List.length_append, List.length_cons, List.length_nil]
  · unfold tableL
    rw [List.getD_eq_getElem?_getD, List.getElem?_append_right (by simp only [List.length_append]; omega)]
    simp only [List.length_append, Nat.sub_self, List.getElem?_cons_zero, Option.getD_some]
    rw [UInt8.toNat_ofNat']; omega
  · unfold outL; simp only [List.length_append]; omega
theorem w64s {m : Nat} (h : m ≤ 1000000) : wrap64 (m : Int) = (m : Int) := by unfold wrap64; omega
theorem wu64s {m : Nat} (h : m ≤ 1000000) : IntKind.u64.wrap (m : Int) = (m : Int) := by rw [wu64]; omega
theorem tmodN (a b : Nat) : (a : Int).tmod (b : Int) = ((a % b : Nat) : Int) := by rw [Int.tmod_eq_emod_of_nonneg (by omega)]; rfl
set_option maxHeartbeats 8000000 in
theorem TableTells_walk (v : Value) (L : List Cel) (cu bi : Int) (w : World) (he : Env w) (hv : SlX eC w.heap.size w v L) (hl : Room L.length) (hin : ∀ c ∈ L, CelIn c) (hre : ∀ c ∈ L, CelRe c) (hc0 : 0 ≤ cu) (hc1 : cu ≤ 18446744073709551615) (hb0 : 0 ≤ bi) (hb1 : bi ≤ 18446744073709551615) :
    Calls Tryz.prog 6 #[v, .int .u64 cu, .int .u64 bi] w fun e w' => e = .returned (.bool true) ∧ Below w.heap.size w w' := by
  have HL0 := Lib.hid hl
  have ENDB := Lib.hid (fun (W : World) (h : Below w.heap.size w W) => h)
  obtain ⟨a, cap, rfl, hc, hx⟩ := hv.ex
  obtain ⟨cn, rfl⟩ : ∃ cn : Nat, cu = (cn : Int) := ⟨cu.toNat, by omega⟩
  obtain ⟨bn, rfl⟩ : ∃ bn : Nat, bi = (bn : Int) := ⟨bi.toNat, by omega⟩
  have HCN := Lib.hid (show cn ≤ 18446744073709551615 by omega); have HBN := Lib.hid (show bn ≤ 18446744073709551615 by omega)
  clear hc0 hc1 hb0 hb1
  go_enter Tryz.func6, Tryz.ntmps6
  go_wp2_with fail
  have HE := Lib.hid he; have HV := Lib.hid hv; have HIN := Lib.hid hin; have HRE := Lib.hid hre
  have HX := Lib.hid hx
  have WG := Lib.hid (weigh_ex (.slice a L.length cap) L 200 w HV.out HL0.out hre (by decide))
  unfold Room at hl
  clear hx hv he hin hre
  refine WG.out.mono ?_
  rintro e w0 ⟨r, rfl, hr, hb0⟩
  have HB0 := Lib.hid hb0
  by_cases hgt : 200 < r
  · have hq : (200 : Int) < (r : Int) := by omega
    have LV := Lib.hid (lives_any w0 (HE.out.below hb0))
    clear hr hgt hb0 WG
    go_wp2_with fail
    refine LV.out.mono ?_
    rintro e w1 ⟨rfl, hb1⟩
    have HB1 := Lib.hid (below_tr HB0.out hb1)
    clear hb1 LV
    go_wp2_with fail
    go_ret
    exact ⟨rfl, ENDB.out _ HB1.out⟩
  · have hq : ¬ (200 : Int) < (r : Int) := by omega
    have HWT := Lib.hid (show wt L ≤ 400 by have := hr (by omega); omega)
    have HG0 := Lib.hid (show CoI w w0 (.slice none 0 0) ((L.take 0).filter goodC) from ⟨OwnX.nil _ _, hb0⟩)
    have HCT := Lib.hid (show ∀ c ∈ L, CelT c from fun c hc => by
      have h1 := wt_txt L
      have h2 := txt_mem hc
      have h3 := HWT.out
      unfold txtC at h2
      refine ⟨?_, ?_, ?_, ?_⟩ <;> simp only [maxLen] <;> omega)
    clear hr hgt hb0 WG
    go_wp2_with fail
    go_loopw [7, 9, 24] (fun vo _ vi wr => ∃ i : Nat, vi = .int .i64 (i : Int) ∧ i ≤ L.length ∧ Hid (CoI w wr vo ((L.take i).filter goodC))) (fun _ _ vi _ => L.length - (intOf vi).toNat)
    case atStart => exact ⟨0, rfl, Nat.zero_le _, HG0⟩
    case round =>
      clear HG0
      obtain ⟨i, rfl, hi, HC⟩ := hrel
      have HB := Lib.hid HC.out.bel
      by_cases hlt : i < L.length
      · have hz : (i : Int) < (L.length : Int) := by omega
        obtain ⟨gl, o, rfl, hgl2, _⟩ := HX.out (by omega)
        have ten := (Ten.of HV.out i hlt).keep HB.out
        have TI := Lib.hid (show L.take (i + 1) = L.take i ++ [L[i]] from List.take_succ_eq_append_getElem hlt)
        have GC := Lib.hid (fun W => goodC_any L[i] W (HCT.out _ (List.getElem_mem hlt)))
        have HO := Lib.hid HC.out.own
        obtain ⟨acc, hacc⟩ : ∃ acc, (L.take i).filter goodC = acc := ⟨_, rfl⟩
        rw [hacc] at HO
        have hal : acc.length ≤ 20000 := by
          rw [← hacc]
          have h1 := List.length_filter_le goodC (L.take i)
          rw [List.length_take] at h1
          have h2 := wt_len L
          have h3 := HWT.out
          omega
        generalize L[i] = x at *
        obtain ⟨g, hg⟩ : ∃ g, goodC x = g := ⟨_, rfl⟩
        rw [hg] at GC
        have NX := Lib.hid (show (L.take (i + 1)).filter goodC = if g = true then acc ++ [x] else acc by
          rw [TI.out, List.filter_append, hacc]
          cases g with
          | true => rw [List.filter_cons_of_pos hg]; rfl
          | false => rw [List.filter_cons_of_neg (by rw [hg]; simp)]; simp)
        clear hacc hg
        obtain ⟨c0, c1, c2, c3, c4, c5, c6, c7, c8, c9⟩ := ten
        have BK := Lib.hid (Blk.new wr 61 (celEnc x).toArray)
        have BX := Lib.hid (below_alloc (Below.refl _ wr) (.cells (celEnc x).toArray 61))
        obtain ⟨⟨t, p, rr, q⟩, ⟨tm, dd, lc, kd, nn, ss⟩⟩ := x
        simp only [celEnc] at *
        go_upto_region 7 with (fail)
        clear c0 c1 c2 c3 c4 c5 c6 c7 c8 c9
        generalize hW1 : wr.alloc (.cells #[.string t, .string p, .int .i64 rr, .string q, .int .i64 tm, .bool dd, .int .i64 lc, .int .i64 kd, .int .i64 nn, .string ss] 61) = W1 at *
        have HB4 := Lib.hid (below_tr HB.out BX.out)
        have O4 := Lib.hid (HO.out.below BX.out)
        obtain ⟨c0, c1, c2, c3, c4, c5, c6, c7, c8, c9⟩ := Blk.ten (x := (⟨⟨t, p, rr, q⟩, ⟨tm, dd, lc, kd, nn, ss⟩⟩ : Cel)) BK.out
        simp only [Nat.zero_add] at c0 c1 c2 c3 c4 c5 c6 c7 c8 c9
        clear hW1
        go_wp2_with fail
        refine (GC.out _).mono ?_
        rintro e w5 ⟨rfl, hb5⟩
        have HB5 := Lib.hid (below_tr HB4.out hb5)
        have O5 := Lib.hid (O4.out.below hb5)
        have bk := BK.out.below hb5
        clear c0 c1 c2 c3 c4 c5 c6 c7 c8 c9
        obtain ⟨c0, c1, c2, c3, c4, c5, c6, c7, c8, c9⟩ := Blk.ten (x := (⟨⟨t, p, rr, q⟩, ⟨tm, dd, lc, kd, nn, ss⟩⟩ : Cel)) bk
        simp only [Nat.zero_add] at c0 c1 c2 c3 c4 c5 c6 c7 c8 c9
        clear bk hb5
        cases g with
        | true =>
          have BX7 := Lib.hid (below_al HB5.out (.cells #[.string t, .string p, .int .i64 rr, .string q, .int .i64 tm, .bool dd, .int .i64 lc, .int .i64 kd, .int .i64 nn, .string ss] 61) HB5.out.size)
          have OX7 := Lib.hid (O5.out.alloc (.cells #[.string t, .string p, .int .i64 rr, .string q, .int .i64 tm, .bool dd, .int .i64 lc, .int .i64 kd, .int .i64 nn, .string ss] 61))
          have SX7 := Lib.hid (SlX.lit (E := eC) w5 #[.string t, .string p, .int .i64 rr, .string q, .int .i64 tm, .bool dd, .int .i64 lc, .int .i64 kd, .int .i64 nn, .string ss] [(⟨⟨t, p, rr, q⟩, ⟨tm, dd, lc, kd, nn, ss⟩⟩ : Cel)] 1 1 rfl (by simp) (by simp [El.cells, eC, celEnc]))
          go_wp2_with (at_builtin; go_must (refine ap_x (E := eC) rfl (.tmp 30) (.tmp 32) rfl w.heap.size _ acc _ _ [(⟨⟨t, p, rr, q⟩, ⟨tm, dd, lc, kd, nn, ss⟩⟩ : Cel)] rfl rfl SX7.out OX7.out BX7.out BX7.out.size (by simp; omega) (by simp [eC]; omega) ?_); intro v7 w7 hO7 hB7 hz7 hg7)
          have CI := Lib.hid (show CoI w w7 v7 ((L.take (i + 1)).filter goodC) from ⟨by rw [NX.out]; exact hO7, hB7⟩)
          clear hO7 hB7 hz7 hg7
          go_roundw
          case rel => exact ⟨i + 1, by first | rfl | go_num, by omega, CI⟩
          case measure => simp [intOf]; omega
        | false =>
          have CI := Lib.hid (show CoI w w5 _ ((L.take (i + 1)).filter goodC) from ⟨by rw [NX.out]; exact O5.out, HB5.out⟩)
          go_wp2_with fail
          go_roundw
          case rel => exact ⟨i + 1, by first | rfl | go_num, by omega, CI⟩
          case measure => simp [intOf]; omega
      · have hz : ¬ (i : Int) < (L.length : Int) := by omega
        have HG := Lib.hid (show CoI w wr _ (L.filter goodC) from by have := HC.out; rwa [List.take_of_length_le (by omega)] at this)
        have GTH := Lib.hid (fun h => goodT_of HIN.out HWT.out (L := L) h)
        have HGL := Lib.hid (show (L.filter goodC).length ≤ 400 from Nat.le_trans (List.length_filter_le _ _) (Nat.le_trans (wt_len L) HWT.out))
        clear HC HB
        have ND := Lib.hid (fun W (h : SlX eC W.heap.size W u7 (L.filter goodC)) => normC_any u7 (L.filter goodC) W h (by unfold Room; have := HGL.out; omega))
        obtain ⟨G, hG⟩ : ∃ G, L.filter goodC = G := ⟨_, rfl⟩
        rw [hG] at HG GTH HGL ND
        clear hG
        obtain ⟨ag, cg, eg, _, _⟩ := (OwnX.sl HG.out.own).ex
        subst eg
        have NR := Lib.hid (ND.out wr (OwnX.sl HG.out.own))
        have HBW := Lib.hid HG.out.bel
        go_wp2_with fail
        refine NR.out.mono ?_
        rintro e w1 ⟨v1, rfl, hO1, hb1⟩
        have HO1 := Lib.hid hO1; have HB1 := Lib.hid (below_tr HBW.out hb1)
        clear hO1 hb1 NR ND
        by_cases hg0 : G.length = 0
        · obtain rfl := List.length_eq_zero_iff.1 hg0
          have WB := Lib.hid (write_bad v1 (normC []) w1 (OwnX.sl HO1.out) (by rw [norm_nil]; unfold Room; simp) (by rw [norm_nil]; simp) (fun h => by have := h.pos; rw [norm_nil] at this; simp at this))
          have hb9 : ((2 : Int) != 0) = true := by decide
          go_wp2_with fail
          refine WB.out.mono ?_
          rintro e w2 ⟨rfl, hb2⟩
          have HB2 := Lib.hid (below_tr HB1.out hb2)
          have LV := Lib.hid (lives_any w2 (HE.out.below HB2.out))
          clear hb2 WB
          go_wp2_with fail
          refine LV.out.mono ?_
          rintro e w3 ⟨rfl, hb3⟩
          have HB3 := Lib.hid (below_tr HB2.out hb3)
          clear hb3 LV
          go_wp2_with fail
          go_ret
          exact ⟨rfl, ENDB.out _ HB3.out⟩
        · have GT := Lib.hid (GTH.out (by omega))
          have HTL := Lib.hid (tab_light GT.out.cin GT.out.wt)
          have CUT := Lib.hid (fun (m : Nat) (hm : m < (tableL (normC G)).length) => open_cut GT.out.ok GT.out.fit HTL.out hm)
          have TURN := Lib.hid (fun (k : Nat) (hk : k < (outL (normC G)).length) (y : UInt8) (hy : y ≠ (tableL (normC G)).getD k 0) => open_turn GT.out.ok GT.out.fit hk hy)
          obtain ⟨ef, hlen, he1, he2, hlast, hob⟩ := table_last GT.out.ok GT.out.fit
          have WR := Lib.hid (write_ok v1 (normC G) w1 (HE.out.below HB1.out) (OwnX.sl HO1.out) GT.out.ok GT.out.fit)
          generalize (outL (normC G)).length = on at *
          generalize tableL (normC G) = TB at *
          have hb90 : ((0 : Int) != 0) = false := by decide
          have htl := HTL.out
          obtain ⟨tl, htlen⟩ : ∃ tl, TB.length = tl := ⟨_, rfl⟩
          have HTN := Lib.hid htlen
          rw [htlen] at hlen htl
          have hz0 : ((tl : Int) == 0) = false := by rw [beq_eq_false_iff_ne]; omega
          have hml : cn % tl < tl := Nat.mod_lt _ (by omega)
          have HML := Lib.hid hml
          clear hml
          clear hg0
          go_wp2_with fail
          refine WR.out.mono ?_
          rintro e w2 ⟨v2, rfl, hO2, hb2⟩
          have HB2 := Lib.hid (below_tr HB1.out hb2)
          have HO2 := Lib.hid hO2
          obtain ⟨g2, c2, e2, hc2, hg2, hgl2, hce2⟩ := OwnX.formN (own_eB.2 hO2) tl htlen (by omega)
          subst e2
          have HLEN := Lib.hid hlen; have HLAST := Lib.hid hlast; have HOB := Lib.hid hob; have HE1 := Lib.hid he1; have HE2 := Lib.hid he2; have HC2 := Lib.hid hc2; have HTL2 := Lib.hid htl; have HG2 := Lib.hid hg2; have HGA := Lib.hid hgl2; have HCE := Lib.hid hce2
          clear hce2
          have OPC := Lib.hid (fun W (hb : Below w2.heap.size w2 W) => open_any (.slice (some ⟨g2, 0, none⟩) (cn % tl) c2) (TB.take (cn % tl)) W (HE.out.below (below_tr HB2.out hb)) ((OwnB.slB (HO2.out.below hb)).head (cn % tl) (by rw [HTN.out]; exact Nat.le_of_lt HML.out) rfl) (by rw [List.length_take]; omega))
          rw [CUT.out (cn % tl) (by rw [HTN.out]; exact HML.out)] at OPC
          have OPR := Lib.hid (OPC.out w2 (Below.refl _ _))
          have hml := HML.out
          clear hO2 hb2 WR hlen hlast hob he1 he2 hg2 hgl2 HG HGL htlen
          go_wp2_with fail
          refine OPR.out.mono ?_
          rintro e w3 ⟨hb3, rfl⟩
          have HB3 := Lib.hid (below_tr HB2.out hb3)
          have HO3 := Lib.hid (HO2.out.below hb3)
          clear hb3 OPR HO2 OPC hml
          obtain ⟨j, hj⟩ : ∃ j, on + ef = j := ⟨_, rfl⟩
          have hlen := HLEN.out; have he1 := HE1.out; have hob := HOB.out; have htl2 := HTL2.out
          have htj : (tl : Int) - 1 = (j : Int) := by clear HLEN HLAST; omega
          have hjt : j < tl := by omega
          have hjo : (j : Int) - (ef : Int) = (on : Int) := by omega
          have hlast := HLAST.out
          rw [hj] at hlast
          have cj : w3.cell? ⟨g2, j, none⟩ = some (.int .u8 (ef : Int)) := by
            have := (own_eB.2 HO3.out).cell j 0 (by rw [HTN.out]; exact hjt) (u := .int .u8 ((TB[j]'(by rw [HTN.out]; exact hjt)).toNat : Int)) rfl
            rw [show j * eB.size + 0 = j from by show j * 1 + 0 = j; omega] at this
            rw [this, ← hlast, List.getD_eq_getElem?_getD, List.getElem?_eq_getElem (by rw [HTN.out]; exact hjt)]; rfl
          have hb98 : ((8 : Int) != 8) = false := by decide
          obtain ⟨q, hqe, hq⟩ : ∃ q : Nat, (bn : Int) % (8 * (on : Int)) = (q : Int) ∧ q < 8 * on :=
            ⟨bn % (8 * on), by rw [show (8 * (on : Int)) = ((8 * on : Nat) : Int) by omega]; exact (Int.natCast_emod _ _).symm, Nat.mod_lt _ (by omega)⟩
          have hqon : q / 8 < on := by clear hqe; omega
          have hk8 : q / 8 < tl := by clear hqe; omega
          have hk9 : (q : Int) / 8 < (tl : Int) := by clear hqe; omega
          have hkT : q / 8 < TB.length := by rw [HTN.out]; exact hk8
          have fk : w3.frozen? ⟨g2, q / 8, none⟩ = false := (own_eB.2 HO3.out).frozen (q / 8)
          obtain ⟨x, hx⟩ : ∃ x, TB.getD (q / 8) 0 = x := ⟨_, rfl⟩
          have ck : w3.cell? ⟨g2, q / 8, none⟩ = some (.int .u8 (x.toNat : Int)) := by
            have := (own_eB.2 HO3.out).cell (q / 8) 0 hkT (u := .int .u8 ((TB[q / 8]'hkT).toNat : Int)) rfl
            rw [show q / 8 * eB.size + 0 = q / 8 from by show q / 8 * 1 + 0 = q / 8; omega] at this
            rw [this, ← hx, List.getD_eq_getElem?_getD, List.getElem?_eq_getElem hkT]; rfl
          have HHX := Lib.hid hx; have HQON := Lib.hid hqon; have HKT := Lib.hid hkT
          clear hx hqon hkT hlast hj hlen
          go_wp2_with fail
          obtain ⟨y, hyne, hy⟩ := flip8 x (q % 8) (Nat.mod_lt _ (by decide))
          rw [hy]
          have S8 := HO3.out.set1 (q / 8) HKT.out y
          have HB8 := Lib.hid (HB3.out.setCell (p := ⟨g2, q / 8, none⟩) (Nat.le_trans HB1.out.size HG2.out) (.int .u8 (y.toNat : Int)))
          have R4 := Lib.hid (open_any (.slice (some ⟨g2, 0, none⟩) tl c2) (TB.set (q / 8) y) _ (HE.out.below HB8.out) (OwnB.slB S8) (by rw [List.length_set, HTN.out]; exact Nat.le_trans HTL2.out (by decide)))
          rw [TURN.out (q / 8) HQON.out y (by rw [HHX.out]; exact hyne)] at R4
          clear fk hy hyne S8 HO3 HB3 ck cj hqe hk9 TURN CUT
          generalize w3.setCell ⟨g2, q / 8, none⟩ (.int .u8 (y.toNat : Int)) = W8 at *
          refine R4.out.mono ?_
          rintro e w9 ⟨hb9, rfl⟩
          have HB9 := Lib.hid (below_tr HB8.out hb9)
          have LV := Lib.hid (lives_any w9 (HE.out.below HB9.out))
          have hb88 : ((8 : Int) == 8) = true := by decide
          clear hb9 R4
          go_wp2_with fail
          refine LV.out.mono ?_
          rintro e w10 ⟨rfl, hb10⟩
          have HB10 := Lib.hid (below_tr HB9.out hb10)
          clear hb10 LV
          go_wp2_with fail
          go_ret
          exact ⟨rfl, ENDB.out _ HB10.out⟩
end Go.Proofs.YtplghaoflmaadaaGreatDoor
end
