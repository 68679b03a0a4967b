/- Contracts of key's text and Bytes: bytes in new memory. Conditions: the lengths together leave room for the bytes (2^47). -/
import Derived.Test.YtkmcjainbhmbdaaDoorShelf
import Derived.Test.YtkmcjainbhmbdaaDoorMem
import Derived.Test.YtkmcjainbhmbdaaDoorPk
set_option linter.unusedVariables false
set_option linter.unusedSimpArgs false
namespace Go.Proofs.YtkmcjainbhmbdaaDoor
open Go.RowKit


/-- noughts told apart -/
def esc (s : List UInt8) : List UInt8 := Lib.replaceAll s [0] [0, 255]

theorem esc_eq (s : List UInt8) : esc s = sub1 0 [0, 255] s := replaceAll_one 0 [0, 255] (by decide) s
theorem esc_len (s : List UInt8) : (esc s).length ≤ 2 * s.length := by rw [esc_eq]; exact sub1_length_le 0 [0, 255] 2 (by decide) (by decide) s

theorem text_any (base : Nat) (v : Value) (l : List UInt8) (s : ByteArray) (w : World) (he : Env w) (HO : OwnB w base v l) (hbase : base ≤ w.heap.size) (hs : s.size ≤ 1000000000) (hl : l.length ≤ 100000000000) :
    Calls Tryd.prog 91 #[v, .string s] w (RetB base w (l ++ esc s.toList ++ [0, 0])) := by
  obtain ⟨m, hm⟩ := he.maxLen
  have hc := countB_one_le s ⟨#[0]⟩ rfl
  have hl2 := esc_len s.toList
  rw [str_len] at hl2
  have HR := Tryd.strings_ReplaceAll s ⟨#[0]⟩ ⟨#[0, 255]⟩ m w (by omega) hm (by decide) (by have : (⟨#[0, 255]⟩ : ByteArray).size = 2 := rfl; rw [this]; omega)
  clear hc
  have e1 : (Lib.replaceAll s.data.toList [0] [0, 255]) = esc s.toList := by rw [esc, ByteArray.toList_eq]
  simp only [] at HR
  rw [show (Lib.replaceAll s.data.toList (⟨#[0]⟩ : ByteArray).data.toList (⟨#[0, 255]⟩ : ByteArray).data.toList) = esc s.toList from e1] at HR
  clear e1 hm
  generalize esc s.toList = z at *
  go_enter Tryd.func91, Tryd.ntmps91
  go_wp2_with fail
  refine HR.mono ?_
  rintro e w1 ⟨rfl, hb⟩
  have HO1 := HO.below hb
  clear HR HO
  go_wp2_with (at_builtin; refine ap_str rfl (.tmp 5) (.tmp 7) rfl base v l ⟨z.toArray⟩ rfl rfl HO1 (hb.mono hbase) (Nat.le_trans hbase hb.size) (by have : (⟨z.toArray⟩ : ByteArray).size = z.length := List.size_toArray; omega) ?_)
  intro v1 w2 HO2 hb2 hz2 _
  clear HO1
  have HO3 := HO2.alloc (.cells #[.int .u8 0, .int .u8 0] 5)
  go_wp2_with (at_builtin; go_must (refine ap_bytes rfl (.tmp 8) (.tmp 9) rfl base v1 (l ++ z) [0, 0] ⟨w2.heap.size, 0, none⟩ 2 2 rfl rfl rfl (lit_cells (w := w2.alloc (.cells #[.int .u8 0, .int .u8 0] 5)) (t := 5) (heap_last _ _) rfl) HO3 (below_al hb2 _ hz2) (by simp; omega) (by simp; omega) ?_))
  intro v2 w3 HO4 hb4 hz4 _
  clear HO2 HO3
  go_wp2
  go_ret
  exact ⟨_, rfl, by simpa [List.append_assoc] using HO4, hb4⟩

/-- a row's number, and its eight bytes, the highest first -/
def rowU (r : Int) : Int := Go.bits .xor .u64 (IntKind.u64.wrap r) 9223372036854775808
def row8 (U : Int) : List UInt8 := (List.range 8).map fun k => byteOf (U / 2 ^ (56 - 8 * k) % 256)
theorem row8_length (U : Int) : (row8 U).length = 8 := by simp [row8]
theorem row8_get (U : Int) (k : Nat) (h : k < 8) : (row8 U)[k]? = some (byteOf (U / 2 ^ (56 - 8 * k) % 256)) := by simp [row8, List.getElem?_map, List.getElem?_range h]
def keyBytes (t p : ByteArray) (r : Int) (c : ByteArray) : List UInt8 := esc t.toList ++ [0, 0] ++ esc p.toList ++ [0, 0] ++ row8 (rowU r) ++ esc c.toList ++ [0, 0]

set_option maxHeartbeats 1000000 in
theorem Bytes_any (t p c : ByteArray) (r : Int) (w : World) (he : Env w) (h1 : t.size + p.size + c.size ≤ 1000000) :
    Calls Tryd.prog 50 #[.agg #[.string t, .string p, .int .i64 r, .string c]] w (RetB w.heap.size w (keyBytes t p r c)) := by
  unfold keyBytes rowU
  go_enter Tryd.func50, Tryd.ntmps50
  go_wp2_with fail
  have hb0 : Below w.heap.size w (w.alloc (.cells #[.string t, .string p, .int .i64 r, .string c] 60)) := below_alloc (Below.refl _ _) _
  have hc0 : (w.alloc (.cells #[.string t, .string p, .int .i64 r, .string c] 60)).cell? ⟨w.heap.size, 0, none⟩ = some (.string t) := by simp
  have hc1 : (w.alloc (.cells #[.string t, .string p, .int .i64 r, .string c] 60)).cell? ⟨w.heap.size, 1, none⟩ = some (.string p) := by simp
  have hc2 : (w.alloc (.cells #[.string t, .string p, .int .i64 r, .string c] 60)).cell? ⟨w.heap.size, 2, none⟩ = some (.int .i64 r) := by simp
  have hc3 : (w.alloc (.cells #[.string t, .string p, .int .i64 r, .string c] 60)).cell? ⟨w.heap.size, 3, none⟩ = some (.string c) := by simp
  have he1 := he.below hb0
  generalize w.alloc (.cells #[.string t, .string p, .int .i64 r, .string c] 60) = W at *
  have HS : ∀ w', Below W.heap.size W w' → (Below W.heap.size W w' ∧ w'.cell? ⟨w.heap.size, 0, none⟩ = some (.string t) ∧ w'.cell? ⟨w.heap.size, 1, none⟩ = some (.string p)) := fun w' h => ⟨h, cell_keep h hc0, cell_keep h hc1⟩
  have HS' := Lib.hid HS; clear HS
  have HT1 : ∀ w', Below W.heap.size W w' → Calls Tryd.prog 91 #[.slice none 0 0, .string t] w' (RetB W.heap.size w' ([] ++ esc t.toList ++ [0, 0])) := fun w' h => text_any W.heap.size _ [] t w' (he1.below h) (OwnB.nil _ _) h.size (by omega) (by simp)
  have HT2 : ∀ w' v, Below W.heap.size W w' → OwnB w' W.heap.size v ([] ++ esc t.toList ++ [0, 0]) → Calls Tryd.prog 91 #[v, .string p] w' (RetB W.heap.size w' (([] ++ esc t.toList ++ [0, 0]) ++ esc p.toList ++ [0, 0])) := fun w' v h ho => text_any W.heap.size v _ p w' (he1.below h) ho h.size (by omega) (by have := esc_len t.toList; rw [str_len] at this; simp; omega)
  have HT1' := Lib.hid HT1; clear HT1
  have HT2' := Lib.hid HT2; clear HT2
  go_region_held3 (fun w' => Below W.heap.size W w' ∧ w'.cell? ⟨w.heap.size, 0, none⟩ = some (.string t) ∧ w'.cell? ⟨w.heap.size, 1, none⟩ = some (.string p)) (first | exact HS'.out _ (Below.drew (Below.refl _ _)) | exact HS'.out _ (Below.trans (And.left (by assumption)) (by assumption)))
    (first | (go_at_call_of 91 t; refine (HT1'.out _ (‹Below W.heap.size W _ ∧ _›).1).mono ?_; rintro e w' ⟨v, rfl, HO, hb⟩) | (go_at_call_of 91 p; refine (HT2'.out _ _ (‹Below W.heap.size W _ ∧ _›).1 (by assumption)).mono ?_; rintro e w' ⟨v, rfl, HO2, hb2⟩))
  have hB := (‹Below W.heap.size W _ ∧ _›).1
  have hr := cell_keep hB hc2
  go_wp2_with fail
  generalize hpre : [] ++ esc t.toList ++ [0, 0] ++ esc p.toList ++ [0, 0] = pre at *
  have hpl : pre.length ≤ 100000000 := by have h1 := esc_len t.toList; have h2 := esc_len p.toList; rw [str_len] at h1 h2; rw [← hpre]; simp; omega
  have HP := Lib.hid hpre; clear hpre
  generalize hU : Go.bits .xor .u64 (IntKind.u64.wrap r) 9223372036854775808 = U at *
  have HU := Lib.hid hU; clear hU
  have HO2' := Lib.hid (show OwnB _ W.heap.size _ pre by assumption)
  go_loopw [3, 16] (fun v i wr => ∃ k : Nat, k ≤ 8 ∧ i = .int .i64 k ∧ Below W.heap.size W wr ∧ OwnB wr W.heap.size v (pre ++ (row8 U).take k)) (fun _ i _ => 8 - (intOf i).toNat)
  case atStart => exact ⟨0, by omega, rfl, hB, by simpa using HO2'.out⟩
  case round =>
    obtain ⟨k, hk, rfl, hBr, hO⟩ := hrel
    clear HT1' HT2' HS' HO2'
    by_cases hlt : k < 8
    · have ht := take_snoc (row8 U) k _ (row8_get U k hlt)
      have HT := Lib.hid ht; clear ht
      have hlen : (pre ++ (row8 U).take k).length + 1 ≤ 140737488355328 := by simp only [List.length_append, List.length_take, row8_length]; omega
      have hm : 0 ≤ U / 2 ^ (56 - 8 * k) % 256 ∧ U / 2 ^ (56 - 8 * k) % 256 < 256 := ⟨Int.emod_nonneg _ (by decide), Int.emod_lt_of_pos _ (by decide)⟩
      have HM := Lib.hid hm; clear hm
      have hal := hO.alloc (.cells #[.int .u8 (U / 2 ^ (56 - 8 * k) % 256)] 5)
      have HAL := Lib.hid hal; clear hal hO
      have hsz := hBr.size
      go_wp2_with (at_builtin; go_must (refine ap_bytes rfl (.tmp 19) (.tmp 26) rfl W.heap.size u3 _ [byteOf (U / 2 ^ (56 - 8 * k) % 256)] ⟨wr.heap.size, 0, none⟩ 1 1 rfl rfl rfl (lit_cells (heap_last _ _) (bcells_one_byte HM.out.1 HM.out.2)) HAL.out (below_al hBr _ hsz) (by simp; omega) hlen ?_); intro v1 w1 hO1 hB1 hz1 _; clear hBr HAL)
      go_roundw
      case rel => exact ⟨k + 1, by omega, by go_num, hB1, by rw [HT.out, ← List.append_assoc]; exact hO1⟩
      case measure => (first | (simp [intOf]; done) | (simp [intOf]; omega))
    · obtain rfl : k = 8 := by omega
      have hO' : OwnB wr W.heap.size u3 (pre ++ row8 U) := by rw [List.take_of_length_le (by rw [row8_length]; omega)] at hO; exact hO
      clear hO
      have hc := cell_keep hBr hc3
      have HTC := text_any W.heap.size u3 _ c wr (he1.below hBr) hO' hBr.size (by omega) (by simp only [List.length_append, row8_length]; omega)
      clear hO'
      have HTC' := Lib.hid HTC; clear HTC
      go_wp2_with (go_at_call 91; refine HTC'.out.mono ?_; rintro e w1 ⟨v1, rfl, hO1, hB1⟩)
      go_ret
      refine ⟨_, rfl, ?_, ?_⟩
      · rw [← HP.out] at hO1
        simpa [List.append_assoc] using hO1.weaken hb0.size
      · exact hb0.trans ((hBr.trans hB1).mono hb0.size)
end Go.Proofs.YtkmcjainbhmbdaaDoor
