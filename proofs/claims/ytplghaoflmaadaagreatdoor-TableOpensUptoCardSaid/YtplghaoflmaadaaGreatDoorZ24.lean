/- Plain laws of a table's file: what is read of it, and that a written table is read again. No program in sight; no condition. Plain laws: how long a table's index may be. No program in sight; no condition. Plain laws: the cells of the blocks that were read are no longer than the bytes. No program in sight; no condition. -/
import Derived.Test.YtplghaoflmaadaaGreatDoorZ04
import Derived.Test.YtplghaoflmaadaaGreatDoorZ23
section
set_option linter.unusedVariables false
set_option linter.unusedSimpArgs false
set_option maxRecDepth 50000
namespace Go.Proofs.YtplghaoflmaadaaGreatDoor

/-- the end's numbers, and what is ahead of the end -/
def endN (b : List UInt8) : Option (List Nat × List UInt8) :=
  if b.length = 0 then none else
  if b.length - 1 < (b.getD (b.length - 1) 0).toNat then none else
  if (unframeL ((b.drop (b.length - 1 - (b.getD (b.length - 1) 0).toNat)).take (b.getD (b.length - 1) 0).toNat)).2.2 = 0 ∧ (unframeL ((b.drop (b.length - 1 - (b.getD (b.length - 1) 0).toNat)).take (b.getD (b.length - 1) 0).toNat)).2.1 = (b.getD (b.length - 1) 0).toNat then
    match rdNums (unframeL ((b.drop (b.length - 1 - (b.getD (b.length - 1) 0).toNat)).take (b.getD (b.length - 1) 0).toNat)).1.length (unframeL ((b.drop (b.length - 1 - (b.getD (b.length - 1) 0).toNat)).take (b.getD (b.length - 1) 0).toNat)).1 with
    | none => none
    | some l => if l.length = 5 then some (l, b.take (b.length - 1 - (b.getD (b.length - 1) 0).toNat)) else none
  else none
open Classical in
/-- the blocks of a file that is a table -/
noncomputable def openN (b : List UInt8) : Option (List (List Cel)) :=
  match endN b with
  | none => none
  | some (l, body) => if body.length < l.getD 1 0 ∨ l.getD 4 0 ≠ sumN body then none else
    match rdBlocks (l.getD 1 0) (body.take (l.getD 1 0)) with
    | none => none
    | some bs => if OkT bs.flatten ∧ tableL bs.flatten = b then some bs else none
theorem openN_is {b : List UInt8} {bs : List (List Cel)} (h : openN b = some bs) : OkT bs.flatten ∧ b = tableL bs.flatten := by
  unfold openN at h
  split at h
  · cases h
  · split at h
    · cases h
    · split at h
      · cases h
      · split at h
        · rename_i hc
          injection h with h; subst h
          exact ⟨hc.1, hc.2.symm⟩
        · cases h
theorem rdNums_put : ∀ (l : List Nat) (f : Nat), (∀ u ∈ l, u < 18446744073709551616) → (l.flatMap putL).length ≤ f → rdNums f (l.flatMap putL) = some l
  | [], 0, _, _ => rfl
  | [], f + 1, _, _ => rfl
  | u :: l, f, h, hf => by
    have hp := putL_pos u
    rw [List.flatMap_cons, List.length_append] at hf
    obtain ⟨f', rfl⟩ : ∃ f', f = f' + 1 := ⟨f - 1, by omega⟩
    rw [List.flatMap_cons, rdNums, if_neg (by rw [List.length_append]; omega), rdNum_put _ _ (h u (List.mem_cons_self ..))]
    simp only
    rw [rdNums_put l f' (fun x hx => h x (List.mem_cons_of_mem _ hx)) (by omega)]
    rfl
theorem rdBlocks_blocks : ∀ (bs : List (List Cel)) (f : Nat), (∀ b ∈ bs, 0 < b.length ∧ b.length < 1000000 ∧ (∀ c ∈ b, CelBy c) ∧ (cellsL b).length ≤ 262144) → (bs.flatMap blockL).length ≤ f → rdBlocks f (bs.flatMap blockL) = some bs
  | [], 0, _, _ => rfl
  | [], f + 1, _, _ => rfl
  | b :: bs, f, h, hf => by
    obtain ⟨h1, h2, h3, h4⟩ := h b (List.mem_cons_self ..)
    have hb : (blockL b).length = (cellsL b).length + 8 := frameL_length _ h4
    rw [List.flatMap_cons, List.length_append] at hf
    obtain ⟨f', rfl⟩ : ∃ f', f = f' + 1 := ⟨f - 1, by omega⟩
    have hu : unframeL (blockL b ++ bs.flatMap blockL) = (cellsL b, (cellsL b).length + 8, 0) := unframe_frame _ _ h4
    rw [List.flatMap_cons, rdBlocks, if_neg (by rw [List.length_append]; omega), hu]
    simp only [if_true]
    rw [rdCells_cells b h3 h2, ← hb, List.drop_left' rfl, rdBlocks_blocks bs f' (fun x hx => h x (List.mem_cons_of_mem _ hx)) (by omega)]
    cases b with
    | nil => simp at h1
    | cons c t => rfl
theorem good_by (c : Cel) (hg : goodC c = true) (hi : CelIn c) (hl : (cellL c).length ≤ 120000) : CelBy c := by
  have hk := cellL_key c
  have hs : c.v.dead = false → c.v.s.size ≤ (cellL c).length := by
    intro hd
    unfold cellL verL textL
    rw [hd]
    simp only [Bool.false_eq_true, if_false, List.length_append, List.length_cons, str_len]
    omega
  unfold goodC at hg
  rw [Bool.and_eq_true] at hg
  have hw := hg.2
  unfold goodW at hw
  have hz : zEq c.v = true → c.v.kind = 0 ∧ c.v.n = 0 ∧ c.v.s.toList = [] := by
    unfold zEq valEq
    simp only [Bool.and_eq_true, beq_iff_eq, and_true]
    rintro ⟨a, b, d⟩
    exact ⟨a, b, d.trans (toList_mk [])⟩
  refine ⟨hi.row, hi.time, hi.loc, hi.kind, hi.num, by rw [str_len]; omega, by rw [str_len]; omega, by rw [str_len]; omega, ?_, ?_, ?_⟩
  · cases hd : c.v.dead with
    | false => rw [str_len]; have := hs hd; omega
    | true =>
      rw [if_pos hd] at hw
      rw [(hz hw).2.2]; simp
  · intro hd
    rw [if_pos hd] at hw
    exact hz hw
  · intro hd
    rw [if_neg (by rw [hd]; simp)] at hw
    split at hw
    · cases hw
    · rename_i h0; simpa using h0
theorem endN_table (L : List Cel) (hk : OkT L) (hf : FitT L) : endN (tableL L) = some (numsL L, outL L) := by
  have he := endL_len L hk.most hf.flat hf.idx
  have hfl := frameL_length (endL L) (by omega)
  have hlen : (tableL L).length = (outL L).length + ((endL L).length + 8) + 1 := by unfold tableL; simp only [List.length_append, List.length_cons, List.length_nil]; rw [hfl]
  have hlast : (tableL L).getD ((tableL L).length - 1) 0 = UInt8.ofNat (frameL (endL L)).length := by
    rw [List.getD_eq_getElem?_getD]
    unfold tableL
    rw [List.getElem?_append_right (by simp only [List.length_append, List.length_cons, List.length_nil]; omega)]
    simp only [List.length_append, List.length_cons, List.length_nil]
    rw [show (outL L).length + (frameL (endL L)).length + (0 + 1) - 1 - ((outL L).length + (frameL (endL L)).length) = 0 by omega]
    rfl
  have hn : (UInt8.ofNat (frameL (endL L)).length).toNat = (endL L).length + 8 := by rw [hfl, UInt8.toNat_ofNat']; omega
  have hmid : ((tableL L).drop ((tableL L).length - 1 - ((endL L).length + 8))).take ((endL L).length + 8) = frameL (endL L) := by
    rw [hlen, show (outL L).length + ((endL L).length + 8) + 1 - 1 - ((endL L).length + 8) = (outL L).length by omega]
    unfold tableL
    rw [List.append_assoc, List.drop_left' rfl, List.take_left' hfl]
  have hu : unframeL (frameL (endL L)) = (endL L, (endL L).length + 8, 0) := by have := unframe_frame (endL L) [] (by omega); rwa [List.append_nil] at this
  have hnum : rdNums (endL L).length (endL L) = some (numsL L) := by
    have ho := outL_len L hk.most hf.flat hf.idx
    have hs := (sumN_val (outL L)).2
    have hk2 := hk.most
    refine rdNums_put (numsL L) _ (fun u hu => ?_) (Nat.le_refl _)
    unfold outL at ho
    rw [List.length_append, List.length_append] at ho
    unfold numsL at hu
    simp only [List.mem_cons, List.not_mem_nil, or_false] at hu
    rcases hu with rfl | rfl | rfl | rfl | rfl <;> omega
  unfold endN
  rw [hlast, hn, hmid, hu, if_neg (by omega), if_neg (by omega)]
  simp only [true_and, if_true]
  rw [hnum]
  simp only [numsL, List.length_cons, List.length_nil, if_true]
  congr 2
  rw [hlen, show (outL L).length + ((endL L).length + 8) + 1 - 1 - ((endL L).length + 8) = (outL L).length by omega]
  unfold tableL
  rw [List.append_assoc, List.take_left' rfl]
theorem openN_table (L : List Cel) (hk : OkT L) (hf : FitT L) : openN (tableL L) = some (chunk8 L) := by
  have hout : (blocksL L).length ≤ (outL L).length := by unfold outL; simp only [List.length_append]; omega
  have htake : (outL L).take (blocksL L).length = blocksL L := by unfold outL; rw [List.append_assoc, List.take_left' rfl]
  unfold openN
  rw [endN_table L hk hf]
  simp only [numsL, List.getD_cons_succ, List.getD_cons_zero]
  rw [if_neg (by simp; omega), htake]
  rw [show rdBlocks (blocksL L).length (blocksL L) = some (chunk8 L) from rdBlocks_blocks (chunk8 L) _ (fun b hb => by
    obtain ⟨h1, h2, h3⟩ := chunk8_mem L.length L (Nat.le_refl _) b hb
    have hb2 : (b.flatMap cellL).length ≤ 120000 := by
      rw [chunk8_get L.length L (Nat.le_refl _) _ rfl] at hb
      obtain ⟨k, _, rfl⟩ := List.mem_map.1 hb
      exact Nat.le_trans (ckL_flat L k) hf.flat
    have := cellsL_len b (by omega)
    exact ⟨h1, by omega, fun c hc => good_by c (hk.good c (h3 c hc)) (hf.cin c (h3 c hc)) (Nat.le_trans (flat_mem (h3 c hc)) hf.flat), by omega⟩) (Nat.le_refl _)]
  simp only
  rw [chunk8_flat L.length L (Nat.le_refl _), if_pos ⟨hk, rfl⟩]
theorem table_inj {L M : List Cel} (h1 : OkT L) (h2 : FitT L) (h3 : OkT M) (h4 : FitT M) (h : tableL L = tableL M) : L = M := by
  have e1 := openN_table L h1 h2
  rw [h, openN_table M h3 h4] at e1
  injection e1 with e1
  rw [← chunk8_flat L.length L (Nat.le_refl _), ← e1, chunk8_flat M.length M (Nat.le_refl _)]
end Go.Proofs.YtplghaoflmaadaaGreatDoor
end

section
set_option linter.unusedVariables false
set_option linter.unusedSimpArgs false
set_option maxRecDepth 50000
namespace Go.Proofs.YtplghaoflmaadaaGreatDoor

theorem cellL_least (c : Cel) : c.k.t.size + c.k.p.size + c.k.c.size + 7 ≤ (cellL c).length := by
  have h1 := putL_pos c.k.t.toList.length
  have h2 := putL_pos c.k.p.toList.length
  have h3 := putL_pos (zigN c.k.r)
  have h4 := putL_pos c.k.c.toList.length
  have h5 := putL_pos (zigN c.v.time)
  have h6 : 2 ≤ (if c.v.dead = true then (1 : UInt8) :: putL (zigN c.v.loc) else 0 :: (putL (u64N c.v.kind) ++ putL (zigN c.v.n) ++ textL c.v.s.toList)).length := by
    split
    · have := putL_pos (zigN c.v.loc); simp; omega
    · have := putL_pos (u64N c.v.kind); simp; omega
  unfold cellL textL verL
  simp only [List.length_append, str_len] at *
  omega
theorem flat_least (L : List Cel) : 7 * L.length ≤ (L.flatMap cellL).length := by
  induction L with
  | nil => simp
  | cons c L ih =>
    have := cellL_least c
    rw [List.flatMap_cons, List.length_append, List.length_cons]; omega
theorem putL_len3 (u : Nat) (h : u < 2097152) : (putL u).length ≤ 3 := putL_len 2 u (by omega)
theorem entries_len : ∀ bs : List (List Cel), (∀ b ∈ bs, 0 < b.length ∧ (b.flatMap cellL).length ≤ 120000) → (bs.flatMap entryL).length ≤ 2 * (bs.flatten.flatMap cellL).length + 6 * bs.length
  | [], _ => by simp
  | b :: bs, h => by
    have ih := entries_len bs (fun x hx => h x (List.mem_cons_of_mem _ hx))
    obtain ⟨h1, h2⟩ := h b (List.mem_cons_self ..)
    have hb7 := flat_least b
    have h3 := cellsL_len b (by omega)
    rw [List.flatMap_cons, List.length_append, List.flatten_cons, List.flatMap_append, List.length_append, List.length_cons, entry_head b h1]
    have h4 := kyL_len b[0].k
    have h5 := cellL_least b[0]
    have h6 := flat_mem (show b[0] ∈ b from List.getElem_mem h1)
    have h7 : (textL (kyL b[0].k)).length ≤ (kyL b[0].k).length + 3 := by
      have := putL_len3 (kyL b[0].k).length (by omega)
      unfold textL; rw [List.length_append]; omega
    have h8 := putL_len3 (frameL (cellsL b)).length (by rw [frameL_length _ (by omega)]; omega)
    rw [List.length_append]
    omega
theorem index_fit (L : List Cel) (hf : (L.flatMap cellL).length ≤ 120000) : (indexL L).length ≤ 262144 := by
  have h0 := flat_least L
  have h1 := entries_len (chunk8 L) (fun b hb => by
    have hm := chunk8_mem L.length L (Nat.le_refl _) b hb
    rw [chunk8_get L.length L (Nat.le_refl _) _ rfl] at hb
    obtain ⟨k, _, rfl⟩ := List.mem_map.1 hb
    exact ⟨hm.1, Nat.le_trans (ckL_flat L k) hf⟩)
  rw [chunk8_flat L.length L (Nat.le_refl _), chunk8_length L.length L (Nat.le_refl _)] at h1
  have h2 := putL_len3 (chunk8 L).length (by rw [chunk8_length L.length L (Nat.le_refl _)]; omega)
  rw [indexL_eq, List.length_append]
  omega
end Go.Proofs.YtplghaoflmaadaaGreatDoor
end

section
set_option linter.unusedVariables false
set_option linter.unusedSimpArgs false
set_option maxRecDepth 50000
namespace Go.Proofs.YtplghaoflmaadaaGreatDoor

theorem unframe_ok (l : List UInt8) (h : (unframeL l).2.2 = 0) : (unframeL l).1.length + 8 = (unframeL l).2.1 ∧ (unframeL l).2.1 ≤ l.length ∧ (unframeL l).1.length ≤ 262144 := by
  unfold unframeL at *
  split at h
  · cases h
  · split at h
    · cases h
    · split at h
      · cases h
      · split at h
        · cases h
        · rename_i h1 h2 h3 h4
          rw [if_neg h1, if_neg h2, if_neg h3, if_neg h4]
          simp only [List.length_take, List.length_drop]
          omega
theorem cellsL_flat (b : List Cel) : (b.flatMap cellL).length ≤ (cellsL b).length := by unfold cellsL; rw [List.length_append]; omega
theorem rdBlocks_flat : ∀ (f : Nat) (l : List UInt8) (bs : List (List Cel)), rdBlocks f l = some bs → (bs.flatten.flatMap cellL).length ≤ l.length ∧ ∀ c ∈ bs.flatten, CelR c
  | 0, l, bs, h => by
    rw [rdBlocks] at h
    split at h
    · injection h with h; subst h; simp
    · cases h
  | f + 1, l, bs, h => by
    rw [rdBlocks] at h
    split at h
    · injection h with h; subst h; simp
    · split at h
      · rename_i h1 h2
        have hu := unframe_ok l h2
        split at h
        · cases h
        · cases h
        · rename_i c b hcs
          obtain ⟨e1, e2⟩ := rdCells_canon hcs
          cases e : rdBlocks f (l.drop (unframeL l).2.1) with
          | none => rw [e] at h; cases h
          | some bs2 =>
            rw [e] at h
            simp only [Option.map_some, Option.some.injEq] at h
            subst h
            obtain ⟨i1, i2⟩ := rdBlocks_flat f _ bs2 e
            have h5 := cellsL_flat (c :: b)
            rw [← e1] at h5
            rw [List.length_drop] at i1
            refine ⟨?_, ?_⟩
            · rw [List.flatten_cons, List.flatMap_append, List.length_append]; omega
            · intro x hx
              rw [List.flatten_cons, List.mem_append] at hx
              rcases hx with hx | hx
              · exact e2 x hx
              · exact i2 x hx
      · cases h
end Go.Proofs.YtplghaoflmaadaaGreatDoor
end
