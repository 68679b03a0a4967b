/- Contracts of the reference's text and Bytes of keys: bytes in new memory. Conditions: the lengths leave room. -/
import Derived.Test.YtkmcjainbhmbdaaDoorKc
set_option linter.unusedVariables false
set_option linter.unusedSimpArgs false
namespace Go.Proofs.YtkmcjainbhmbdaaDoor
open Go.RowKit

theorem sub1_snoc (c : UInt8) (new l : List UInt8) (b : UInt8) : sub1 c new (l ++ [b]) = sub1 c new l ++ (if b = c then new else [b]) := by simp [sub1]
theorem str_get (s : ByteArray) (k : Nat) (h : k < s.size) : s.toList[k]? = some s[k] := by
  rw [ByteArray.toList_eq, Array.getElem?_toList]; exact Array.getElem?_eq_getElem (xs := s.data) h
theorem byteOf_nat (b : UInt8) : byteOf (b.toNat : Int) = b := by unfold byteOf; simp

set_option maxHeartbeats 1000000 in
set_option maxRecDepth 20000 in
theorem rtext_any (base : Nat) (v : Value) (l : List UInt8) (s : ByteArray) (w : World) (HO : OwnB w base v l) (hbase : base ≤ w.heap.size) (hs : s.size ≤ 1000000000) (hl : l.length ≤ 100000000000) :
    Calls Tryd.prog 92 #[v, .string s] w (RetB base w (l ++ esc s.toList ++ [0, 0])) := by
  rw [esc_eq]
  have HO0 := Lib.hid HO; clear HO
  have hlen := fun k => sub1_length_le 0 [0, 255] 2 (by decide) (by decide) (s.toList.take k)
  have hlen' : ∀ k, (sub1 0 [0, 255] (s.toList.take k)).length ≤ 2000000000 := fun k => by
    have h1 := hlen k; have h2 := List.length_take_le k s.toList; have h3 : (s.toList.take k).length ≤ s.toList.length := List.length_take_le' k s.toList
    rw [str_len] at h3; omega
  clear hlen
  have HL := Lib.hid hlen'; clear hlen'
  go_enter Tryd.func92, Tryd.ntmps92
  go_wp2
  go_loopw [0, 5] (fun u i wr => ∃ k : Nat, k ≤ s.size ∧ i = .int .i64 k ∧ Below base w wr ∧ base ≤ wr.heap.size ∧ OwnB wr base u (l ++ sub1 0 [0, 255] (s.toList.take k))) (fun _ i _ => s.size - (intOf i).toNat)
  case atStart => exact ⟨0, by omega, rfl, Below.refl _ _, hbase, by simpa [sub1] using HO0.out⟩
  case round =>
    obtain ⟨k, hk, rfl, hB, hz, hO⟩ := hrel
    clear HO0
    have hl1 := HL.out k
    by_cases hlt : k < s.size
    · have hsn : sub1 0 [0, 255] (s.toList.take (k + 1)) = sub1 0 [0, 255] (s.toList.take k) ++ (if s[k] = 0 then [0, 255] else [s[k]]) := by rw [take_snoc _ _ _ (str_get s k hlt), sub1_snoc]
      have HS := Lib.hid hsn; clear hsn
      have hbd : (s[k].toNat : Int) < 256 := by have := s[k].toNat_lt; omega
      have hbc : [Value.int .u8 (s[k].toNat : Int)] = bcells [s[k]] := rfl
      have HBC := Lib.hid hbc; clear hbc
      have HO' := Lib.hid hO; clear hO
      by_cases h0 : s[k] = 0
      · have h0' : (((s[k].toNat : Int)) == 0) = true := by rw [h0]; rfl
        have H0 := Lib.hid h0; clear h0
        go_wp2_with (first | (at_builtin; refine ap_lit rfl (.tmp 12) (.tmp 16) rfl base u0 _ [s[k]] _ 1 1 rfl rfl rfl HBC.out HO'.out hB hz (by simp; omega) ?_; intro v1 w1 hO1 hB1 hz1; have HO1 := Lib.hid hO1; clear hO1 HO' hB hz) | (at_builtin; refine ap_lit rfl (.tmp 22) (.tmp 23) rfl base v1 _ [255] #[.int .u8 255] 1 1 rfl rfl rfl rfl HO1.out hB1 hz1 (by simp; omega) ?_; intro v2 w2 hO2 hB2 hz2; clear HO1 hB1 hz1))
        go_roundw
        case rel => exact ⟨k + 1, by omega, by go_num, hB2, hz2, by rw [HS.out, if_pos H0.out]; rw [H0.out] at hO2; simpa [List.append_assoc] using hO2⟩
        case measure => (first | (simp [intOf]; done) | (simp [intOf]; omega))
      · have h0' : (((s[k].toNat : Int)) == 0) = false := by
          rw [beq_eq_false_iff_ne]; intro h; apply h0; exact UInt8.toNat_inj.1 (by simpa using h)
        have H0 := Lib.hid h0; clear h0
        go_wp2_with (at_builtin; refine ap_lit rfl (.tmp 12) (.tmp 16) rfl base u0 _ [s[k]] _ 1 1 rfl rfl rfl HBC.out HO'.out hB hz (by simp; omega) ?_; intro v1 w1 hO1 hB1 hz1; have HO1 := Lib.hid hO1; clear hO1 HO' hB hz)
        go_roundw
        case rel => exact ⟨k + 1, by omega, by go_num, hB1, hz1, by rw [HS.out, if_neg H0.out, ← List.append_assoc]; exact HO1.out⟩
        case measure => (first | (simp [intOf]; done) | (simp [intOf]; omega))
    · have hk' : s.toList.take k = s.toList := List.take_of_length_le (by rw [str_len]; omega)
      rw [hk'] at hO hl1
      have HO' := Lib.hid hO; clear hO hk'
      go_wp2_with (at_builtin; refine ap_lit rfl (.tmp 25) (.tmp 26) rfl base u0 _ [0, 0] #[.int .u8 0, .int .u8 0] 2 2 rfl rfl rfl rfl HO'.out hB hz (by simp; omega) ?_; intro v1 w1 hO1 hB1 hz1; clear HO' hB hz)
      go_ret
      exact ⟨_, rfl, by simpa [List.append_assoc] using hO1, hB1⟩

set_option maxHeartbeats 1000000 in
theorem rBytes_any (t p c : ByteArray) (r : Int) (w : World) (he : Env w) (h1 : t.size + p.size + c.size ≤ 1000000) :
    Calls Tryd.prog 51 #[.agg #[.string t, .string p, .int .i64 r, .string c]] w (RetB w.heap.size w (keyBytes t p r c)) := by
  unfold keyBytes rowU
  go_enter Tryd.func51, Tryd.ntmps51
  go_wp2_with fail
  have hb0 : Below w.heap.size w (w.alloc (.cells #[.string t, .string p, .int .i64 r, .string c] 60)) := below_alloc (Below.refl _ _) _
  have hc0 : (w.alloc (.cells #[.string t, .string p, .int .i64 r, .string c] 60)).cell? ⟨w.heap.size, 0, none⟩ = some (.string t) := by simp
  have hc1 : (w.alloc (.cells #[.string t, .string p, .int .i64 r, .string c] 60)).cell? ⟨w.heap.size, 1, none⟩ = some (.string p) := by simp
  have hc2 : (w.alloc (.cells #[.string t, .string p, .int .i64 r, .string c] 60)).cell? ⟨w.heap.size, 2, none⟩ = some (.int .i64 r) := by simp
  have hc3 : (w.alloc (.cells #[.string t, .string p, .int .i64 r, .string c] 60)).cell? ⟨w.heap.size, 3, none⟩ = some (.string c) := by simp
  have he1 := he.below hb0
  generalize w.alloc (.cells #[.string t, .string p, .int .i64 r, .string c] 60) = W at *
  have HS : ∀ w', Below W.heap.size W w' → (Below W.heap.size W w' ∧ w'.cell? ⟨w.heap.size, 0, none⟩ = some (.string t) ∧ w'.cell? ⟨w.heap.size, 1, none⟩ = some (.string p)) := fun w' h => ⟨h, cell_keep h hc0, cell_keep h hc1⟩
  have HS' := Lib.hid HS; clear HS
  have HT1 : ∀ w', Below W.heap.size W w' → Calls Tryd.prog 92 #[.slice none 0 0, .string t] w' (RetB W.heap.size w' ([] ++ esc t.toList ++ [0, 0])) := fun w' h => rtext_any W.heap.size _ [] t w' (OwnB.nil _ _) h.size (by omega) (by simp)
  have HT2 : ∀ w' v, Below W.heap.size W w' → OwnB w' W.heap.size v ([] ++ esc t.toList ++ [0, 0]) → Calls Tryd.prog 92 #[v, .string p] w' (RetB W.heap.size w' (([] ++ esc t.toList ++ [0, 0]) ++ esc p.toList ++ [0, 0])) := fun w' v h ho => rtext_any W.heap.size v _ p w' ho h.size (by omega) (by have := esc_len t.toList; rw [str_len] at this; simp; omega)
  have HT1' := Lib.hid HT1; clear HT1
  have HT2' := Lib.hid HT2; clear HT2
  go_region_held3 (fun w' => Below W.heap.size W w' ∧ w'.cell? ⟨w.heap.size, 0, none⟩ = some (.string t) ∧ w'.cell? ⟨w.heap.size, 1, none⟩ = some (.string p)) (first | exact HS'.out _ (Below.drew (Below.refl _ _)) | exact HS'.out _ (Below.trans (And.left (by assumption)) (by assumption)))
    (first | (go_at_call_of 92 t; refine (HT1'.out _ (‹Below W.heap.size W _ ∧ _›).1).mono ?_; rintro e w' ⟨v, rfl, HO, hb⟩) | (go_at_call_of 92 p; refine (HT2'.out _ _ (‹Below W.heap.size W _ ∧ _›).1 (by assumption)).mono ?_; rintro e w' ⟨v, rfl, HO2, hb2⟩))
  have hB := (‹Below W.heap.size W _ ∧ _›).1
  have hr := cell_keep hB hc2
  go_wp2_with fail
  generalize hpre : [] ++ esc t.toList ++ [0, 0] ++ esc p.toList ++ [0, 0] = pre at *
  have hpl : pre.length ≤ 100000000 := by have h1 := esc_len t.toList; have h2 := esc_len p.toList; rw [str_len] at h1 h2; rw [← hpre]; simp; omega
  have HP := Lib.hid hpre; clear hpre
  generalize hU : Go.bits .xor .u64 (IntKind.u64.wrap r) 9223372036854775808 = U at *
  have HU := Lib.hid hU; clear hU
  have HO2' := Lib.hid (show OwnB _ W.heap.size _ pre by assumption)
  go_loopw [3, 5] (fun v i wr => Below W.heap.size W wr ∧ ((∃ j : Nat, j ≤ 7 ∧ i = .int .i64 j ∧ OwnB wr W.heap.size v (pre ++ (row8 U).take (7 - j))) ∨ (i = .int .i64 (-1) ∧ OwnB wr W.heap.size v (pre ++ row8 U)))) (fun _ i _ => (intOf i + 1).toNat)
  case atStart => exact ⟨hB, .inl ⟨7, by omega, rfl, by simpa using HO2'.out⟩⟩
  case round =>
    obtain ⟨hBr, hO⟩ := hrel
    clear HT1' HT2' HS' HO2'
    rcases hO with ⟨j, hj, rfl, hO⟩ | ⟨rfl, hO⟩
    · have ht := take_snoc (row8 U) (7 - j) _ (row8_get U (7 - j) (by omega))
      rw [show 56 - 8 * (7 - j) = 8 * j by omega] at ht
      have HT := Lib.hid ht; clear ht
      have hlen : (pre ++ (row8 U).take (7 - j)).length + 1 ≤ 140737488355328 := by simp only [List.length_append, List.length_take, row8_length]; omega
      have hm : 0 ≤ U / 2 ^ (8 * j) % 256 ∧ U / 2 ^ (8 * j) % 256 < 256 := ⟨Int.emod_nonneg _ (by decide), Int.emod_lt_of_pos _ (by decide)⟩
      have HM := Lib.hid hm; clear hm
      have HO := Lib.hid hO; clear hO
      have hsz := hBr.size
      go_wp2_with (at_builtin; go_must (refine ap_lit rfl (.tmp 20) (.tmp 27) rfl W.heap.size u3 _ [byteOf (U / 2 ^ (8 * j) % 256)] _ 1 1 rfl rfl rfl (bcells_one_byte HM.out.1 HM.out.2) HO.out hBr hsz hlen ?_); intro v1 w1 hO1 hB1 hz1; clear hBr HO)
      rcases Nat.eq_zero_or_pos j with h0 | h0
      · subst h0
        go_roundw
        case rel => exact ⟨hB1, .inr ⟨by go_num, by rw [List.append_assoc, ← HT.out, List.take_of_length_le (by rw [row8_length]; omega)] at hO1; exact hO1⟩⟩
        case measure => (first | (simp [intOf]; done) | (simp [intOf]; omega))
      · obtain ⟨i, rfl⟩ : ∃ i, j = i + 1 := ⟨j - 1, by omega⟩
        go_roundw
        case rel => exact ⟨hB1, .inl ⟨i, by omega, by go_num, by rw [List.append_assoc, ← HT.out, show 7 - (i + 1) + 1 = 7 - i by omega] at hO1; exact hO1⟩⟩
        case measure => (first | (simp [intOf]; done) | (simp [intOf]; omega))
    · have hc := cell_keep hBr hc3
      have HTC := rtext_any W.heap.size u3 _ c wr hO hBr.size (by omega) (by simp only [List.length_append, row8_length]; omega)
      clear hO
      have HTC' := Lib.hid HTC; clear HTC
      go_wp2_with (go_at_call 92; refine HTC'.out.mono ?_; rintro e w1 ⟨v1, rfl, hO1, hB1⟩)
      go_ret
      refine ⟨_, rfl, ?_, ?_⟩
      · rw [← HP.out] at hO1
        simpa [List.append_assoc] using hO1.weaken hb0.size
      · exact hb0.trans ((hBr.trans hB1).mono hb0.size)
end Go.Proofs.YtkmcjainbhmbdaaDoor
