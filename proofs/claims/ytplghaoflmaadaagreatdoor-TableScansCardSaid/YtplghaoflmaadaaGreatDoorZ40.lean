/- Plain laws: a table's file that is cut, or with a byte turned ahead of its end, is none. No program in sight; no condition. -/
import Derived.Test.YtplghaoflmaadaaGreatDoorZ37
import Derived.Test.YtplghaoflmaadaaGreatDoorZ29
import Derived.Test.YtplghaoflmaadaaGreatDoorZ32
section
set_option linter.unusedVariables false
set_option linter.unusedSimpArgs false
set_option maxRecDepth 50000
namespace Go.Proofs.YtplghaoflmaadaaGreatDoor

theorem okFrom_all (s : ByteArray) : ∀ (n k : Nat), s.size - k ≤ n → okFrom s k = true → ∀ i (h : i < s.size), k ≤ i → okC s[i] = true
  | 0, k, hn, _, i, h, hk => by omega
  | n + 1, k, hn, ho, i, h, hk => by
    rw [okFrom] at ho
    by_cases hks : k < s.size
    · rw [dif_pos hks] at ho
      split at ho
      · rename_i h1
        by_cases e : k = i
        · subst e; exact h1
        · exact okFrom_all s n (k + 1) (by omega) ho i h (by omega)
      · cases ho
    · omega
theorem name_all {s : ByteArray} (h : nameB s = true) : (∀ x ∈ s.toList, okC x = true) ∧ 0 < s.size ∧ s.size ≤ 16 := by
  rw [name_ref] at h
  unfold nameR at h
  rw [Bool.and_eq_true] at h
  have hp : 0 < s.size := by
    rcases Nat.eq_zero_or_pos s.size with e | e
    · rw [headOk_empty (by omega)] at h; cases h.1
    · exact e
  refine ⟨fun x hx => ?_, hp, (headOk_pos hp h.1).1⟩
  rw [ByteArray.toList_eq] at hx
  obtain ⟨i, hi, rfl⟩ := List.getElem_of_mem hx
  have hi2 : i < s.size := by rw [Array.length_toList] at hi; exact hi
  have := okFrom_all s s.size 0 (by omega) h.2 i hi2 (Nat.zero_le _)
  rw [Array.getElem_toList]
  exact this
theorem good_name {c : Cel} (h : goodC c = true) : nameB c.k.t = true := by
  unfold goodC goodB at h
  simp only [Bool.and_eq_true] at h
  exact h.1.1.1.1
theorem endN_any (o : List UInt8) (l : List Nat) (h5 : l.length = 5) (hu : ∀ u ∈ l, u < 18446744073709551616) (he : (l.flatMap putL).length ≤ 50) :
    endN (o ++ frameL (l.flatMap putL) ++ [UInt8.ofNat (frameL (l.flatMap putL)).length]) = some (l, o) := by
  generalize hE : l.flatMap putL = E at *
  have hfl := frameL_length E (by omega)
  have hlen : (o ++ frameL E ++ [UInt8.ofNat (frameL E).length]).length = o.length + (E.length + 8) + 1 := by simp only [List.length_append, List.length_cons, List.length_nil]; rw [hfl]
  have hlast : (o ++ frameL E ++ [UInt8.ofNat (frameL E).length]).getD ((o ++ frameL E ++ [UInt8.ofNat (frameL E).length]).length - 1) 0 = UInt8.ofNat (frameL E).length := by
    rw [List.getD_eq_getElem?_getD]
    rw [List.getElem?_append_right (by simp only [List.length_append, List.length_cons, List.length_nil]; omega)]
    simp only [List.length_append, List.length_cons, List.length_nil]
    rw [show o.length + (frameL E).length + (0 + 1) - 1 - (o.length + (frameL E).length) = 0 by omega]
    rfl
  have hn : (UInt8.ofNat (frameL E).length).toNat = E.length + 8 := by rw [hfl, UInt8.toNat_ofNat']; omega
  have hmid : ((o ++ frameL E ++ [UInt8.ofNat (frameL E).length]).drop ((o ++ frameL E ++ [UInt8.ofNat (frameL E).length]).length - 1 - (E.length + 8))).take (E.length + 8) = frameL E := by
    rw [hlen, show o.length + (E.length + 8) + 1 - 1 - (E.length + 8) = o.length by omega]
    rw [List.append_assoc, List.drop_left' rfl, List.take_left' hfl]
  have hu2 : unframeL (frameL E) = (E, E.length + 8, 0) := by have := unframe_frame E [] (by omega); rwa [List.append_nil] at this
  have hnum : rdNums E.length E = some l := by rw [← hE]; exact rdNums_put l _ hu (Nat.le_refl _)
  unfold endN
  rw [hlast, hn, hmid, hu2, if_neg (by omega), if_neg (by omega)]
  simp only [true_and, if_true]
  rw [hnum]
  simp only [h5, if_true]
  congr 2
  rw [hlen, show o.length + (E.length + 8) + 1 - 1 - (E.length + 8) = o.length by omega]
  rw [List.append_assoc, List.take_left' rfl]
theorem nums_lt {M : List Cel} (hk : OkT M) (hf : FitT M) : ∀ u ∈ numsL M, u < 18446744073709551616 := by
  have ho := outL_len M hk.most hf.flat hf.idx
  have hs := (sumN_val (outL M)).2
  have hk2 := hk.most
  intro u hu
  unfold outL at ho
  rw [List.length_append, List.length_append] at ho
  unfold numsL at hu
  simp only [List.mem_cons, List.not_mem_nil, or_false] at hu
  rcases hu with rfl | rfl | rfl | rfl | rfl <;> omega
theorem open_turn {M : List Cel} (hk : OkT M) (hf : FitT M) {k : Nat} (hlt : k < (outL M).length) {y : UInt8} (hy : y ≠ (tableL M).getD k 0) : openN ((tableL M).set k y) = none := by
  have hg : (tableL M).getD k 0 = (outL M)[k] := by
    unfold tableL
    rw [List.append_assoc, List.getD_eq_getElem?_getD, List.getElem?_append_left hlt, List.getElem?_eq_getElem hlt]; rfl
  have hset : (tableL M).set k y = (outL M).set k y ++ frameL (endL M) ++ [UInt8.ofNat (frameL (endL M)).length] := by
    unfold tableL
    rw [List.append_assoc, List.set_append_left _ _ hlt, List.append_assoc]
  have he := endN_any ((outL M).set k y) (numsL M) rfl (nums_lt hk hf) (endL_len M hk.most hf.flat hf.idx)
  have hs : sumN (outL M) ≠ sumN ((outL M).set k y) := by
    intro e
    have e1 := (sumN_val (outL M)).1
    have e2 := (sumN_val ((outL M).set k y)).1
    have e3 : crcL 4294967295 (outL M) = crcL 4294967295 ((outL M).set k y) := by omega
    have s1 : outL M = (outL M).take k ++ (outL M)[k] :: (outL M).drop (k + 1) := by rw [← List.drop_eq_getElem_cons hlt, List.take_append_drop]
    have s2 : (outL M).set k y = (outL M).take k ++ y :: (outL M).drop (k + 1) := by rw [List.set_eq_take_append_cons_drop, if_pos hlt]
    rw [s2] at e3
    have e4 : crcL 4294967295 ((outL M).take k ++ (outL M)[k] :: (outL M).drop (k + 1)) = crcL 4294967295 ((outL M).take k ++ y :: (outL M).drop (k + 1)) := by rw [← s1]; exact e3
    have := crcL_turn 4294967295 (by unfold In32; decide) _ _ _ _ e4
    exact hy (by rw [hg]; exact this.symm)
  rw [hset]
  unfold openN
  rw [show endN ((outL M).set k y ++ frameL (endL M) ++ [UInt8.ofNat (frameL (endL M)).length]) = some (numsL M, (outL M).set k y) from he]
  simp only [numsL, List.getD_cons_succ, List.getD_cons_zero]
  rw [if_pos (.inr hs)]

theorem frame_uniq {c d x y : List UInt8} (hc : c.length ≤ 262144) (hd : d.length ≤ 262144) (h : frameL c ++ x = frameL d ++ y) : c = d ∧ x = y := by
  have h1 := unframe_frame c x hc
  have h2 := unframe_frame d y hd
  rw [h, h2] at h1
  have e : c = d := (congrArg Prod.fst h1).symm
  subst e
  exact ⟨rfl, List.append_cancel_left h⟩
/-- what a block of cells holds is no index -/
theorem index_cells {N : List Cel} (hk : OkT N) (hf : FitT N) {b : List Cel} (hb : 0 < b.length) (hb2 : b.length < 1000000) (hg : ∀ c ∈ b, goodC c = true) (h : indexL N = cellsL b) : False := by
  have hcl := chunk8_len N
  have hp := hk.pos
  have hm := hk.most
  have h1 := rdNum_put (chunk8 N).length ((chunk8 N).flatMap entryL) (by omega)
  rw [← indexL_eq, h] at h1
  have h2 := rdNum_put b.length (b.flatMap cellL) (by omega)
  rw [show putL b.length ++ b.flatMap cellL = cellsL b from rfl] at h2
  rw [h2] at h1
  have h3 : b.flatMap cellL = (chunk8 N).flatMap entryL := by injection h1 with h1; exact (Prod.mk.inj h1).2
  cases hcn : chunk8 N with
  | nil => rw [hcn] at hcl; simp at hcl; omega
  | cons x xs =>
    have hx := chunk8_mem N.length N (Nat.le_refl _) x (by rw [hcn]; exact List.mem_cons_self ..)
    rw [hcn, List.flatMap_cons, entry_head x hx.1] at h3
    cases b with
    | nil => simp at hb
    | cons c b =>
      have hgc := hg c (List.mem_cons_self ..)
      obtain ⟨n1, n2, n3⟩ := name_all (good_name hgc)
      have hkl := kyL_len x[0].k
      have hks := hf.keys x[0] (hx.2.2 _ (List.getElem_mem hx.1))
      rw [List.flatMap_cons] at h3
      unfold cellL at h3
      simp only [List.append_assoc] at h3
      have r1 := rdText_text c.k.t.toList (textL c.k.p.toList ++ (putL (zigN c.k.r) ++ (textL c.k.c.toList ++ (verL c.v ++ b.flatMap cellL)))) (by rw [str_len]; omega)
      unfold cellL at r1
      simp only [List.append_assoc] at r1
      rw [h3, rdText_text _ _ (by omega)] at r1
      have e : kyL x[0].k = c.k.t.toList := by injection r1 with r1; exact (Prod.mk.inj r1).1
      have h0 : (0 : UInt8) ∈ kyL x[0].k := by unfold kyL keyBytes; simp
      rw [e] at h0
      have := n1 0 h0
      exact absurd this (by decide)
theorem table_prefix {N M : List Cel} (h1 : OkT N) (f1 : FitT N) (h2 : OkT M) (f2 : FitT M) (hb1 : ∀ x ∈ chunk8 N, 0 < x.length ∧ x.length ≤ 8 ∧ (∀ c ∈ x, goodC c = true) ∧ (cellsL x).length ≤ 262144) (hb2 : ∀ x ∈ chunk8 M, 0 < x.length ∧ x.length ≤ 8 ∧ (∀ c ∈ x, goodC c = true) ∧ (cellsL x).length ≤ 262144) :
    ∀ (A B : List (List Cel)), (∀ x ∈ A, x ∈ chunk8 N) → (∀ x ∈ B, x ∈ chunk8 M) → ∀ r, A.flatMap blockL ++ tailT N ++ r = B.flatMap blockL ++ tailT M → r = []
  | [], [], _, _, r, h => by
    unfold tailT at h
    simp only [List.flatMap_nil, List.nil_append, List.append_assoc] at h
    have ex1 := endL_len N h1.most f1.flat f1.idx
    have ex2 := endL_len M h2.most f2.flat f2.idx
    obtain ⟨e1, h⟩ := frame_uniq f1.idx f2.idx h
    obtain ⟨e2, h⟩ := frame_uniq (filtL_len N h1.most) (filtL_len M h2.most) h
    obtain ⟨e3, h⟩ := frame_uniq (by omega) (by omega) h
    simp only [List.cons_append, List.nil_append, List.cons.injEq] at h
    exact h.2
  | a :: A, b :: B, hA, hB, r, h => by
    obtain ⟨p1, p2, p3, p4⟩ := hb1 a (hA a (List.mem_cons_self ..))
    obtain ⟨q1, q2, q3, q4⟩ := hb2 b (hB b (List.mem_cons_self ..))
    simp only [List.flatMap_cons, List.append_assoc] at h
    obtain ⟨e1, h⟩ := frame_uniq p4 q4 h
    exact table_prefix h1 f1 h2 f2 hb1 hb2 A B (fun x hx => hA x (List.mem_cons_of_mem _ hx)) (fun x hx => hB x (List.mem_cons_of_mem _ hx)) r (by simpa only [List.append_assoc] using h)
  | [], b :: B, hA, hB, r, h => by
    obtain ⟨q1, q2, q3, q4⟩ := hb2 b (hB b (List.mem_cons_self ..))
    unfold tailT at h
    simp only [List.flatMap_nil, List.flatMap_cons, List.nil_append, List.append_assoc] at h
    obtain ⟨e1, _⟩ := frame_uniq f1.idx q4 h
    exact (index_cells h1 f1 q1 (by omega) q3 e1).elim
  | a :: A, [], hA, hB, r, h => by
    obtain ⟨p1, p2, p3, p4⟩ := hb1 a (hA a (List.mem_cons_self ..))
    unfold tailT at h
    simp only [List.flatMap_nil, List.flatMap_cons, List.nil_append, List.append_assoc] at h
    obtain ⟨e1, _⟩ := frame_uniq p4 f2.idx h
    exact (index_cells h2 f2 p1 (by omega) p3 e1.symm).elim
theorem blks_of {M : List Cel} (hk : OkT M) (hf : FitT M) : ∀ x ∈ chunk8 M, 0 < x.length ∧ x.length ≤ 8 ∧ (∀ c ∈ x, goodC c = true) ∧ (cellsL x).length ≤ 262144 := by
  intro x hx
  obtain ⟨a1, a2, a3⟩ := chunk8_mem M.length M (Nat.le_refl _) x hx
  have hb2 : (x.flatMap cellL).length ≤ 120000 := by
    rw [chunk8_get M.length M (Nat.le_refl _) _ rfl] at hx
    obtain ⟨k, _, rfl⟩ := List.mem_map.1 hx
    exact Nat.le_trans (ckL_flat M k) hf.flat
  have := cellsL_len x (by omega)
  exact ⟨a1, a2, fun c hc => hk.good c (a3 c hc), by omega⟩
theorem open_cut {M : List Cel} (hk : OkT M) (hf : FitT M) (hl : (tableL M).length ≤ 120000) {m : Nat} (hm : m < (tableL M).length) : openN ((tableL M).take m) = none := by
  cases ho : openN ((tableL M).take m) with
  | none => rfl
  | some bs =>
    exfalso
    have H := openN_all (by rw [List.length_take]; omega) ho
    have e : tableL bs.flatten ++ (tableL M).drop m = tableL M := by rw [H.tab, List.take_append_drop]
    rw [tableL_tail, tableL_tail M] at e
    have hr := table_prefix H.ok H.fit hk hf (blks_of H.ok H.fit) (blks_of hk hf) (chunk8 bs.flatten) (chunk8 M) (fun x hx => hx) (fun x hx => hx) _ e
    have hd : ((chunk8 M).flatMap blockL ++ tailT M).drop m = [] := hr
    rw [← tableL_tail] at hd
    have := congrArg List.length hd
    rw [List.length_drop] at this
    simp at this; omega
end Go.Proofs.YtplghaoflmaadaaGreatDoor
end
