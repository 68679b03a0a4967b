/- Contracts of key's text and Bytes: bytes in new memory. Conditions: the lengths together leave room for the bytes (2^47). Plain laws of tables in bytes: what a file of cells is, and that it leads back to them. They speak of no program; no condition. Plain laws: what bytes tell, they are: a number, a text, a cell, a list that was read is written again as it lay. No program in sight; no condition. -/
import Derived.Test.YtplghaoflmaadaaGreatDoorZ03
import Derived.Test.YtplghaoflmaadaaGreatDoorZ00
import Derived.Test.YtplghaoflmaadaaGreatDoorZ01
section
set_option linter.unusedVariables false
set_option linter.unusedSimpArgs false
namespace Go.Proofs.YtplghaoflmaadaaGreatDoor
open Go.RowKit


/-- noughts told apart -/
def esc (s : List UInt8) : List UInt8 := Lib.replaceAll s [0] [0, 255]

theorem esc_eq (s : List UInt8) : esc s = sub1 0 [0, 255] s := replaceAll_one 0 [0, 255] (by decide) s
theorem esc_len (s : List UInt8) : (esc s).length ≤ 2 * s.length := by rw [esc_eq]; exact sub1_length_le 0 [0, 255] 2 (by decide) (by decide) s

theorem ktext_any (base : Nat) (v : Value) (l : List UInt8) (s : ByteArray) (w : World) (he : Env w) (HO : OwnB w base v l) (hbase : base ≤ w.heap.size) (hs : s.size ≤ 1000000000) (hl : l.length ≤ 100000000000) :
    Calls Tryz.prog 82 #[v, .string s] w (RetB base w (l ++ esc s.toList ++ [0, 0])) := by
  obtain ⟨m, hm⟩ := he.maxLen
  have hc := countB_one_le s ⟨#[0]⟩ rfl
  have hl2 := esc_len s.toList
  rw [str_len] at hl2
  have HR := Tryz.strings_ReplaceAll s ⟨#[0]⟩ ⟨#[0, 255]⟩ m w (by omega) hm (by decide) (by have : (⟨#[0, 255]⟩ : ByteArray).size = 2 := rfl; rw [this]; omega)
  clear hc
  have e1 : (Lib.replaceAll s.data.toList [0] [0, 255]) = esc s.toList := by rw [esc, ByteArray.toList_eq]
  simp only [] at HR
  rw [show (Lib.replaceAll s.data.toList (⟨#[0]⟩ : ByteArray).data.toList (⟨#[0, 255]⟩ : ByteArray).data.toList) = esc s.toList from e1] at HR
  clear e1 hm
  generalize esc s.toList = z at *
  go_enter Tryz.func82, Tryz.ntmps82
  go_wp2_with fail
  refine HR.mono ?_
  rintro e w1 ⟨rfl, hb⟩
  have HO1 := HO.below hb
  clear HR HO
  go_wp2_with (at_builtin; refine ap_str rfl (.tmp 5) (.tmp 7) rfl base v l ⟨z.toArray⟩ rfl rfl HO1 (hb.mono hbase) (Nat.le_trans hbase hb.size) (by have : (⟨z.toArray⟩ : ByteArray).size = z.length := List.size_toArray; omega) ?_)
  intro v1 w2 HO2 hb2 hz2 _
  clear HO1
  have HO3 := HO2.alloc (.cells #[.int .u8 0, .int .u8 0] 5)
  go_wp2_with (at_builtin; go_must (refine ap_bytes rfl (.tmp 8) (.tmp 9) rfl base v1 (l ++ z) [0, 0] ⟨w2.heap.size, 0, none⟩ 2 2 rfl rfl rfl (lit_cells (w := w2.alloc (.cells #[.int .u8 0, .int .u8 0] 5)) (t := 5) (heap_last _ _) rfl) HO3 (below_al hb2 _ hz2) (by simp; omega) (by simp; omega) ?_))
  intro v2 w3 HO4 hb4 hz4 _
  clear HO2 HO3
  go_wp2
  go_ret
  exact ⟨_, rfl, by simpa [List.append_assoc] using HO4, hb4⟩

/-- a row's number, and its eight bytes, the highest first -/
def rowU (r : Int) : Int := Go.bits .xor .u64 (IntKind.u64.wrap r) 9223372036854775808
def row8 (U : Int) : List UInt8 := (List.range 8).map fun k => byteOf (U / 2 ^ (56 - 8 * k) % 256)
theorem row8_length (U : Int) : (row8 U).length = 8 := by simp [row8]
theorem row8_get (U : Int) (k : Nat) (h : k < 8) : (row8 U)[k]? = some (byteOf (U / 2 ^ (56 - 8 * k) % 256)) := by simp [row8, List.getElem?_map, List.getElem?_range h]
def keyBytes (t p : ByteArray) (r : Int) (c : ByteArray) : List UInt8 := esc t.toList ++ [0, 0] ++ esc p.toList ++ [0, 0] ++ row8 (rowU r) ++ esc c.toList ++ [0, 0]

set_option maxHeartbeats 1000000 in
theorem Bytes_any (t p c : ByteArray) (r : Int) (w : World) (he : Env w) (h1 : t.size + p.size + c.size ≤ 10000000) :
    Calls Tryz.prog 39 #[.agg #[.string t, .string p, .int .i64 r, .string c]] w (RetB w.heap.size w (keyBytes t p r c)) := by
  unfold keyBytes rowU
  go_enter Tryz.func39, Tryz.ntmps39
  go_wp2_with fail
  have hb0 : Below w.heap.size w (w.alloc (.cells #[.string t, .string p, .int .i64 r, .string c] 24)) := below_alloc (Below.refl _ _) _
  have hc0 : (w.alloc (.cells #[.string t, .string p, .int .i64 r, .string c] 24)).cell? ⟨w.heap.size, 0, none⟩ = some (.string t) := by simp
  have hc1 : (w.alloc (.cells #[.string t, .string p, .int .i64 r, .string c] 24)).cell? ⟨w.heap.size, 1, none⟩ = some (.string p) := by simp
  have hc2 : (w.alloc (.cells #[.string t, .string p, .int .i64 r, .string c] 24)).cell? ⟨w.heap.size, 2, none⟩ = some (.int .i64 r) := by simp
  have hc3 : (w.alloc (.cells #[.string t, .string p, .int .i64 r, .string c] 24)).cell? ⟨w.heap.size, 3, none⟩ = some (.string c) := by simp
  have he1 := he.below hb0
  generalize w.alloc (.cells #[.string t, .string p, .int .i64 r, .string c] 24) = W at *
  have HS : ∀ w', Below W.heap.size W w' → (Below W.heap.size W w' ∧ w'.cell? ⟨w.heap.size, 0, none⟩ = some (.string t) ∧ w'.cell? ⟨w.heap.size, 1, none⟩ = some (.string p)) := fun w' h => ⟨h, cell_keep h hc0, cell_keep h hc1⟩
  have HS' := Lib.hid HS; clear HS
  have HT1 : ∀ w', Below W.heap.size W w' → Calls Tryz.prog 82 #[.slice none 0 0, .string t] w' (RetB W.heap.size w' ([] ++ esc t.toList ++ [0, 0])) := fun w' h => ktext_any W.heap.size _ [] t w' (he1.below h) (OwnB.nil _ _) h.size (by omega) (by simp)
  have HT2 : ∀ w' v, Below W.heap.size W w' → OwnB w' W.heap.size v ([] ++ esc t.toList ++ [0, 0]) → Calls Tryz.prog 82 #[v, .string p] w' (RetB W.heap.size w' (([] ++ esc t.toList ++ [0, 0]) ++ esc p.toList ++ [0, 0])) := fun w' v h ho => ktext_any W.heap.size v _ p w' (he1.below h) ho h.size (by omega) (by have := esc_len t.toList; rw [str_len] at this; simp; omega)
  have HT1' := Lib.hid HT1; clear HT1
  have HT2' := Lib.hid HT2; clear HT2
  go_region_held3 (fun w' => Below W.heap.size W w' ∧ w'.cell? ⟨w.heap.size, 0, none⟩ = some (.string t) ∧ w'.cell? ⟨w.heap.size, 1, none⟩ = some (.string p)) (first | exact HS'.out _ (Below.drew (Below.refl _ _)) | exact HS'.out _ (Below.trans (And.left (by assumption)) (by assumption)))
    (first | (go_at_call_of 82 t; refine (HT1'.out _ (‹Below W.heap.size W _ ∧ _›).1).mono ?_; rintro e w' ⟨v, rfl, HO, hb⟩) | (go_at_call_of 82 p; refine (HT2'.out _ _ (‹Below W.heap.size W _ ∧ _›).1 (by assumption)).mono ?_; rintro e w' ⟨v, rfl, HO2, hb2⟩))
  have hB := (‹Below W.heap.size W _ ∧ _›).1
  have hr := cell_keep hB hc2
  go_wp2_with fail
  generalize hpre : [] ++ esc t.toList ++ [0, 0] ++ esc p.toList ++ [0, 0] = pre at *
  have hpl : pre.length ≤ 100000000 := by have h1 := esc_len t.toList; have h2 := esc_len p.toList; rw [str_len] at h1 h2; rw [← hpre]; simp; omega
  have HP := Lib.hid hpre; clear hpre
  generalize hU : Go.bits .xor .u64 (IntKind.u64.wrap r) 9223372036854775808 = U at *
  have HU := Lib.hid hU; clear hU
  have HO2' := Lib.hid (show OwnB _ W.heap.size _ pre by assumption)
  go_loopw [3, 16] (fun v i wr => ∃ k : Nat, k ≤ 8 ∧ i = .int .i64 k ∧ Below W.heap.size W wr ∧ OwnB wr W.heap.size v (pre ++ (row8 U).take k)) (fun _ i _ => 8 - (intOf i).toNat)
  case atStart => exact ⟨0, by omega, rfl, hB, by simpa using HO2'.out⟩
  case round =>
    obtain ⟨k, hk, rfl, hBr, hO⟩ := hrel
    clear HT1' HT2' HS' HO2'
    by_cases hlt : k < 8
    · have ht := take_snoc (row8 U) k _ (row8_get U k hlt)
      have HT := Lib.hid ht; clear ht
      have hlen : (pre ++ (row8 U).take k).length + 1 ≤ 140737488355328 := by simp only [List.length_append, List.length_take, row8_length]; omega
      have hm : 0 ≤ U / 2 ^ (56 - 8 * k) % 256 ∧ U / 2 ^ (56 - 8 * k) % 256 < 256 := ⟨Int.emod_nonneg _ (by decide), Int.emod_lt_of_pos _ (by decide)⟩
      have HM := Lib.hid hm; clear hm
      have hal := hO.alloc (.cells #[.int .u8 (U / 2 ^ (56 - 8 * k) % 256)] 5)
      have HAL := Lib.hid hal; clear hal hO
      have hsz := hBr.size
      go_wp2_with (at_builtin; go_must (refine ap_bytes rfl (.tmp 19) (.tmp 26) rfl W.heap.size u3 _ [byteOf (U / 2 ^ (56 - 8 * k) % 256)] ⟨wr.heap.size, 0, none⟩ 1 1 rfl rfl rfl (lit_cells (heap_last _ _) (bcells_one_byte HM.out.1 HM.out.2)) HAL.out (below_al hBr _ hsz) (by simp; omega) hlen ?_); intro v1 w1 hO1 hB1 hz1 _; clear hBr HAL)
      go_roundw
      case rel => exact ⟨k + 1, by omega, by go_num, hB1, by rw [HT.out, ← List.append_assoc]; exact hO1⟩
      case measure => (first | (simp [intOf]; done) | (simp [intOf]; omega))
    · obtain rfl : k = 8 := by omega
      have hO' : OwnB wr W.heap.size u3 (pre ++ row8 U) := by rw [List.take_of_length_le (by rw [row8_length]; omega)] at hO; exact hO
      clear hO
      have hc := cell_keep hBr hc3
      have HTC := ktext_any W.heap.size u3 _ c wr (he1.below hBr) hO' hBr.size (by omega) (by simp only [List.length_append, row8_length]; omega)
      clear hO'
      have HTC' := Lib.hid HTC; clear HTC
      go_wp2_with (go_at_call 82; refine HTC'.out.mono ?_; rintro e w1 ⟨v1, rfl, hO1, hB1⟩)
      go_ret
      refine ⟨_, rfl, ?_, ?_⟩
      · rw [← HP.out] at hO1
        simpa [List.append_assoc] using hO1.weaken hb0.size
      · exact hb0.trans ((hBr.trans hB1).mono hb0.size)
end Go.Proofs.YtplghaoflmaadaaGreatDoor
end

section
set_option linter.unusedVariables false
set_option linter.unusedSimpArgs false
namespace Go.Proofs.YtplghaoflmaadaaGreatDoor

/-- eight by eight -/
def chunk8 {α : Type} (l : List α) : List (List α) := if l.length = 0 then [] else l.take 8 :: chunk8 (l.drop 8)
  termination_by l.length
  decreasing_by simp; omega
theorem chunk8_nil {α : Type} : chunk8 ([] : List α) = [] := by rw [chunk8]; simp
theorem chunk8_step {α : Type} (l : List α) (h : 0 < l.length) : chunk8 l = l.take 8 :: chunk8 (l.drop 8) := by rw [chunk8, if_neg (by omega)]
theorem chunk8_flat {α : Type} : ∀ (n : Nat) (l : List α), l.length ≤ n → (chunk8 l).flatten = l
  | 0, l, h => by
    obtain rfl := List.length_eq_zero_iff.1 (Nat.le_zero.1 h)
    rw [chunk8_nil]; rfl
  | n + 1, l, h => by
    by_cases h0 : 0 < l.length
    · rw [chunk8_step l h0, List.flatten_cons, chunk8_flat n (l.drop 8) (by simp; omega), List.take_append_drop]
    · obtain rfl := List.length_eq_zero_iff.1 (by omega : l.length = 0)
      rw [chunk8_nil]; rfl
theorem chunk8_length {α : Type} : ∀ (n : Nat) (l : List α), l.length ≤ n → (chunk8 l).length = (l.length + 7) / 8
  | 0, l, h => by
    obtain rfl := List.length_eq_zero_iff.1 (Nat.le_zero.1 h)
    rw [chunk8_nil]; simp
  | n + 1, l, h => by
    by_cases h0 : 0 < l.length
    · rw [chunk8_step l h0, List.length_cons, chunk8_length n (l.drop 8) (by simp; omega), List.length_drop]; omega
    · obtain rfl := List.length_eq_zero_iff.1 (by omega : l.length = 0)
      rw [chunk8_nil]; simp
theorem chunk8_mem {α : Type} : ∀ (n : Nat) (l : List α), l.length ≤ n → ∀ b ∈ chunk8 l, 0 < b.length ∧ b.length ≤ 8 ∧ ∀ x ∈ b, x ∈ l
  | 0, l, h, b, hb => by
    obtain rfl := List.length_eq_zero_iff.1 (Nat.le_zero.1 h)
    rw [chunk8_nil] at hb; simp at hb
  | n + 1, l, h, b, hb => by
    by_cases h0 : 0 < l.length
    · rw [chunk8_step l h0] at hb
      rcases List.mem_cons.1 hb with rfl | hb
      · exact ⟨by simp; omega, by simp; omega, fun x hx => List.mem_of_mem_take hx⟩
      · obtain ⟨a, b', c⟩ := chunk8_mem n (l.drop 8) (by simp; omega) b hb
        exact ⟨a, b', fun x hx => List.mem_of_mem_drop (c x hx)⟩
    · obtain rfl := List.length_eq_zero_iff.1 (by omega : l.length = 0)
      rw [chunk8_nil] at hb; simp at hb

/-- a key in bytes; a file's parts -/
def kyL (k : Ky) : List UInt8 := keyBytes k.t k.p k.r k.c
def blockL (b : List Cel) : List UInt8 := frameL (cellsL b)
def blocksL (l : List Cel) : List UInt8 := (chunk8 l).flatMap blockL
def entryL : List Cel → List UInt8
  | [] => []
  | c :: b => textL (kyL c.k) ++ putL (blockL (c :: b)).length
def indexL (l : List Cel) : List UInt8 := putL (chunk8 l).length ++ (chunk8 l).flatMap entryL
def bitsL (l : List Cel) : List UInt8 := filtF (l.map fun c => kyL c.k)
def filtL (l : List Cel) : List UInt8 := putL 7 ++ putL (bitsL l).length ++ bitsL l
def outL (l : List Cel) : List UInt8 := blocksL l ++ frameL (indexL l) ++ frameL (filtL l)
def sumN (b : List UInt8) : Nat := (4294967295 - crcL 4294967295 b).toNat
def numsL (l : List Cel) : List Nat := [l.length, (blocksL l).length, (frameL (indexL l)).length, (frameL (filtL l)).length, sumN (outL l)]
def endL (l : List Cel) : List UInt8 := (numsL l).flatMap putL
def tableL (l : List Cel) : List UInt8 := outL l ++ frameL (endL l) ++ [UInt8.ofNat (frameL (endL l)).length]
/-- the way back: the numbers, what is ahead of them, and the blocks -/
def rdNums : Nat → List UInt8 → Option (List Nat)
  | 0, l => if l.length = 0 then some [] else none
  | n + 1, l => if l.length = 0 then some [] else match rdNum l with
    | none => none
    | some (u, r) => (rdNums n r).map (u :: ·)
def rdBlocks : Nat → List UInt8 → Option (List (List Cel))
  | 0, l => if l.length = 0 then some [] else none
  | n + 1, l => if l.length = 0 then some [] else
    if (unframeL l).2.2 = 0 then
      match rdCells (unframeL l).1 with
      | none => none
      | some [] => none
      | some (c :: b) => (rdBlocks n (l.drop (unframeL l).2.1)).map ((c :: b) :: ·)
    else none
end Go.Proofs.YtplghaoflmaadaaGreatDoor
end

section
set_option linter.unusedVariables false
set_option linter.unusedSimpArgs false
set_option maxRecDepth 50000
namespace Go.Proofs.YtplghaoflmaadaaGreatDoor

theorem getL_canon : ∀ (l : List UInt8) (i u v k : Nat), getL i u l = some (v, k) → ∃ z, v = u + z * 128 ^ i ∧ i < k ∧ l.take (k - i) = putL z ∧ (0 < i → 0 < z)
  | [], i, u, v, k, h => by simp [getL] at h
  | x :: r, i, u, v, k, h => by
    rw [getL] at h
    split at h
    · cases h
    · rename_i hn
      split at h
      · rename_i hx
        simp only [Option.some.injEq, Prod.mk.injEq] at h
        obtain ⟨h1, h2⟩ := h
        refine ⟨x.toNat, h1.symm, by omega, ?_, fun hi => by omega⟩
        rw [show k - i = 1 by omega, putL_small _ hx]
        simp
      · rename_i hx
        obtain ⟨z, hz1, hz2, hz3, hz4⟩ := getL_canon r (i + 1) _ v k h
        have hz0 := hz4 (by omega)
        have hx2 : x.toNat < 256 := x.toNat_lt
        refine ⟨x.toNat % 128 + 128 * z, ?_, Nat.lt_of_succ_lt hz2, ?_, fun _ => by omega⟩
        · rw [hz1, Nat.pow_succ]
          generalize 128 ^ i = P
          rw [Nat.add_mul, Nat.mul_comm P 128, ← Nat.mul_assoc, Nat.mul_comm z 128, Nat.add_assoc]
        · have e : k - i = (k - (i + 1)) + 1 := by omega
          rw [e, List.take_succ_cons, hz3, putL_great (x.toNat % 128 + 128 * z) (by omega)]
          rw [show (x.toNat % 128 + 128 * z) / 128 = z by omega, show (x.toNat % 128 + 128 * z) % 128 + 128 = x.toNat by omega]
          simp
theorem get_canon {l : List UInt8} {v k : Nat} (h : getL 0 0 l = some (v, k)) : l.take k = putL v := by
  obtain ⟨z, h1, _, h3, _⟩ := getL_canon l 0 0 v k h
  simp at h1 h3
  rw [h3, h1]
theorem rdNum_canon {l r : List UInt8} {u : Nat} (h : rdNum l = some (u, r)) : l = putL u ++ r ∧ u < 18446744073709551616 := by
  have hl := rdNum_len h
  rw [rdNum] at h
  cases e : getL 0 0 l with
  | none => rw [e] at h; simp at h
  | some p =>
    rw [e] at h; simp at h
    obtain ⟨h1, h2⟩ := h
    subst h1 h2
    exact ⟨by rw [← get_canon (v := p.1) (k := p.2) (by rw [e]), List.take_append_drop], hl.1⟩
theorem rdText_canon {l r s : List UInt8} (h : rdText l = some (s, r)) : l = textL s ++ r := by
  rw [rdText, getT] at h
  cases e : getL 0 0 l with
  | none => rw [e] at h; simp at h
  | some p =>
    obtain ⟨n, k⟩ := p
    rw [e] at h; simp at h
    have hb := getL_bound l 0 0 n k (by decide) (by decide) e
    obtain ⟨hn, h1, h2⟩ := h
    have hc := get_canon e
    have hsl : s.length = n := by rw [← h1]; simp; omega
    rw [textL, hsl, ← hc, ← h1, ← h2, List.append_assoc, ← List.drop_drop, List.take_append_drop, List.take_append_drop]
theorem zig_zag (u : Nat) (h : u < 18446744073709551616) : zigN (zagI u) = u := by
  unfold zigN zagI
  split <;> split <;> omega
theorem rdInt_canon {l r : List UInt8} {n : Int} (h : rdInt l = some (n, r)) : l = putL (zigN n) ++ r ∧ In64 n := by
  rw [rdInt] at h
  cases e : rdNum l with
  | none => rw [e] at h; simp at h
  | some p =>
    rw [e] at h; simp at h
    obtain ⟨h1, h2⟩ := h
    obtain ⟨h3, h4⟩ := rdNum_canon (u := p.1) (r := p.2) (by rw [e])
    subst h1 h2
    exact ⟨by rw [zig_zag _ h4]; exact h3, zagI_in _ h4⟩
theorem u64_i64 (u : Nat) (h : u < 18446744073709551616) : u64N (i64I u) = u := by unfold u64N i64I; split <;> omega
theorem rdFlag_canon {l r : List UInt8} {d : Bool} (h : rdFlag l = some (d, r)) : l = (if d = true then 1 else 0) :: r := by
  cases l with
  | nil => simp [rdFlag] at h
  | cons x t =>
    rw [rdFlag] at h
    split at h
    · cases h
    · rename_i hx
      simp only [Option.some.injEq, Prod.mk.injEq] at h
      obtain ⟨h1, h2⟩ := h
      subst h1 h2
      have : x.toNat = 0 ∨ x.toNat = 1 := by omega
      rcases this with e | e
      · rw [e]; congr 1; exact UInt8.toNat_inj.1 e
      · rw [e]; congr 1; exact UInt8.toNat_inj.1 e

theorem obind {α β : Type} {o : Option α} {f : α → Option β} {b : β} (h : (o.bind f) = some b) : ∃ a, o = some a ∧ f a = some b := by
  cases o with
  | none => simp at h
  | some a => exact ⟨a, rfl, h⟩
theorem rdVer_canon {l r : List UInt8} {v : Vr} (h : rdVer l = some (v, r)) : l = verL v ++ r ∧ In64 v.time ∧ In64 v.loc ∧ In64 v.kind ∧ In64 v.n ∧ (v.dead = true → v.kind = 0 ∧ v.n = 0 ∧ v.s.toList = []) ∧ (v.dead = false → v.loc = 0) := by
  unfold rdVer at h
  simp only [bind] at h
  obtain ⟨⟨tm, l1⟩, h1, h⟩ := obind h
  obtain ⟨⟨d, l2⟩, h2, h⟩ := obind h
  obtain ⟨c1, i1⟩ := rdInt_canon h1
  have c2 := rdFlag_canon h2
  cases d with
  | true =>
    simp only [if_true] at h
    obtain ⟨⟨lo, l3⟩, h3, h⟩ := obind h
    obtain ⟨c3, i3⟩ := rdInt_canon h3
    simp only [pure, Option.some.injEq, Prod.mk.injEq] at h
    obtain ⟨rfl, rfl⟩ := h
    refine ⟨?_, i1, i3, by show In64 0; unfold In64; omega, by show In64 0; unfold In64; omega, fun _ => ⟨rfl, rfl, toList_mk []⟩, fun h => by cases h⟩
    simp only at c1 c2 c3
    rw [c1, c2, c3]; simp [verL]
  | false =>
    simp only [Bool.false_eq_true, if_false] at h
    obtain ⟨⟨k, l3⟩, h3, h⟩ := obind h
    obtain ⟨⟨n, l4⟩, h4, h⟩ := obind h
    obtain ⟨⟨s, l5⟩, h5, h⟩ := obind h
    obtain ⟨c3, i3⟩ := rdNum_canon h3
    obtain ⟨c4, i4⟩ := rdInt_canon h4
    have c5 := rdText_canon h5
    simp only [pure, Option.some.injEq, Prod.mk.injEq] at h
    obtain ⟨rfl, rfl⟩ := h
    refine ⟨?_, i1, by show In64 0; unfold In64; omega, i64I_in _ i3, i4, (fun h => by cases h), fun _ => rfl⟩
    simp only at c1 c2 c3 c4 c5
    rw [c1, c2, c3, c4, c5]
    simp [verL, u64_i64 _ i3, toList_mk, textL]
structure CelR (c : Cel) : Prop where
  row : In64 c.k.r
  time : In64 c.v.time
  loc : In64 c.v.loc
  kind : In64 c.v.kind
  num : In64 c.v.n
  dead : c.v.dead = true → c.v.kind = 0 ∧ c.v.n = 0 ∧ c.v.s.toList = []
  live : c.v.dead = false → c.v.loc = 0
theorem rdCell_canon {l r : List UInt8} {c : Cel} (h : rdCell l = some (c, r)) : l = cellL c ++ r ∧ CelR c := by
  unfold rdCell at h
  simp only [bind] at h
  obtain ⟨⟨t, l1⟩, h1, h⟩ := obind h
  obtain ⟨⟨p, l2⟩, h2, h⟩ := obind h
  obtain ⟨⟨ro, l3⟩, h3, h⟩ := obind h
  obtain ⟨⟨q, l4⟩, h4, h⟩ := obind h
  obtain ⟨⟨v, l5⟩, h5, h⟩ := obind h
  have c1 := rdText_canon h1
  have c2 := rdText_canon h2
  obtain ⟨c3, i3⟩ := rdInt_canon h3
  have c4 := rdText_canon h4
  obtain ⟨c5, i5, i6, i7, i8, i9, i10⟩ := rdVer_canon h5
  simp only [pure, Option.some.injEq, Prod.mk.injEq] at h
  obtain ⟨rfl, rfl⟩ := h
  refine ⟨?_, i3, i5, i6, i7, i8, i9, i10⟩
  simp only at c1 c2 c3 c4 c5
  rw [c1, c2, c3, c4, c5]
  simp [cellL, toList_mk]
theorem rdMany_canon : ∀ (n : Nat) {l r : List UInt8} {cs : List Cel}, rdMany n l = some (cs, r) → l = cs.flatMap cellL ++ r ∧ cs.length = n ∧ ∀ c ∈ cs, CelR c
  | 0, l, r, cs, h => by
    simp only [rdMany, Option.some.injEq, Prod.mk.injEq] at h
    obtain ⟨rfl, rfl⟩ := h
    simp
  | n + 1, l, r, cs, h => by
    rw [rdMany] at h
    cases e : rdCell l with
    | none => rw [e] at h; cases h
    | some p =>
      obtain ⟨c, l1⟩ := p
      rw [e] at h
      simp only at h
      cases e2 : rdMany n l1 with
      | none => rw [e2] at h; cases h
      | some p2 =>
        obtain ⟨cs2, l2⟩ := p2
        rw [e2] at h
        simp only [Option.map_some, Option.some.injEq, Prod.mk.injEq] at h
        obtain ⟨rfl, rfl⟩ := h
        obtain ⟨h1, h2⟩ := rdCell_canon e
        obtain ⟨h3, h4, h5⟩ := rdMany_canon n e2
        refine ⟨by rw [h1, h3, List.flatMap_cons, List.append_assoc], by simp [h4], fun x hx => ?_⟩
        rcases List.mem_cons.1 hx with rfl | hx
        · exact h2
        · exact h5 x hx
theorem rdCells_canon {l : List UInt8} {cs : List Cel} (h : rdCells l = some cs) : l = cellsL cs ∧ ∀ c ∈ cs, CelR c := by
  unfold rdCells at h
  cases e : rdNum l with
  | none => rw [e] at h; cases h
  | some p =>
    obtain ⟨n, l1⟩ := p
    rw [e] at h
    simp only at h
    cases e2 : rdMany n l1 with
    | none => rw [e2] at h; cases h
    | some p2 =>
      obtain ⟨cs2, l2⟩ := p2
      rw [e2] at h
      cases l2 with
      | cons x t => cases h
      | nil =>
        simp only [Option.some.injEq] at h
        subst h
        obtain ⟨h1, _⟩ := rdNum_canon e
        obtain ⟨h3, h4, h5⟩ := rdMany_canon n e2
        refine ⟨?_, h5⟩
        rw [h1, h3, cellsL, h4]; simp
end Go.Proofs.YtplghaoflmaadaaGreatDoor
end
