/- Contracts of key's Print and of the reference's Digits, masked and Print: a text. Conditions: the lengths leave room; a number is one of int64. -/
import Derived.Test.YtkmcjainbhmbdaaDoorKd
import Derived.Lib.ItoaLen
import Derived.Lib.AppendIntMem
set_option linter.unusedVariables false
set_option linter.unusedSimpArgs false
namespace Go.Proofs.YtkmcjainbhmbdaaDoor
open Go.RowKit Go.Lib

/-- / and % in other words -/
def maskL (l : List UInt8) : List UInt8 := sub1 47 [37, 50, 102] (sub1 37 [37, 50, 53] l)
theorem maskL_len (l : List UInt8) : (maskL l).length ≤ 9 * l.length := by
  unfold maskL
  have h1 := sub1_length_le 37 [37, 50, 53] 3 (by decide) (by decide) l
  have h2 := sub1_length_le 47 [37, 50, 102] 3 (by decide) (by decide) (sub1 37 [37, 50, 53] l)
  omega

theorem mask_any (s : ByteArray) (w : World) (he : Env w) (hs : s.size ≤ 1000000000) :
    Calls Tryd.prog 82 #[.string s] w fun e w' => e = .returned (sv (maskL s.toList)) ∧ Below w.heap.size w w' := by
  have e1 : (sub1 37 [37, 50, 53] s.toList) = Lib.replaceAll s.data.toList [37] [37, 50, 53] := by rw [replaceAll_one 37 _ (by decide), ByteArray.toList_eq]
  have e2 : maskL s.toList = Lib.replaceAll (sub1 37 [37, 50, 53] s.toList) [47] [37, 50, 102] := by rw [replaceAll_one 47 _ (by decide)]; rfl
  have hl1 := sub1_length_le 37 [37, 50, 53] 3 (by decide) (by decide) s.toList
  rw [str_len] at hl1
  have H1 : ∀ W, Env W → Calls Tryd.prog 83 #[.string s, .string ⟨#[37]⟩, .string ⟨#[37, 50, 53]⟩] W fun e w' => e = .returned (.string ⟨(sub1 37 [37, 50, 53] s.toList).toArray⟩) ∧ Below W.heap.size W w' := fun W hE => by
    obtain ⟨m, hm⟩ := hE.maxLen
    have hc := countB_one_le s ⟨#[37]⟩ rfl
    rw [e1]
    exact Tryd.strings_ReplaceAll s ⟨#[37]⟩ ⟨#[37, 50, 53]⟩ m W (by omega) hm (by decide) (by have : (⟨#[37, 50, 53]⟩ : ByteArray).size = 3 := rfl; rw [this]; omega)
  rw [e2]
  clear e1 e2
  generalize sub1 37 [37, 50, 53] s.toList = z at *
  have H2 : ∀ W, Env W → Calls Tryd.prog 83 #[.string ⟨z.toArray⟩, .string ⟨#[47]⟩, .string ⟨#[37, 50, 102]⟩] W fun e w' => e = .returned (.string ⟨(Lib.replaceAll z [47] [37, 50, 102]).toArray⟩) ∧ Below W.heap.size W w' := fun W hE => by
    obtain ⟨m, hm⟩ := hE.maxLen
    have hz := size_mk z
    have hc := countB_one_le ⟨z.toArray⟩ ⟨#[47]⟩ rfl
    have := Tryd.strings_ReplaceAll ⟨z.toArray⟩ ⟨#[47]⟩ ⟨#[37, 50, 102]⟩ m W (by omega) hm (by decide) (by have : (⟨#[37, 50, 102]⟩ : ByteArray).size = 3 := rfl; rw [this]; omega)
    simpa using this
  have H1' := Lib.hid H1; clear H1
  have H2' := Lib.hid H2; clear H2
  generalize Lib.replaceAll z [47] [37, 50, 102] = y at *
  have he' := Lib.hid he; clear he
  go_enter Tryd.func82, Tryd.ntmps82
  go_wp2_with fail
  refine (H1'.out _ he'.out).mono ?_
  rintro e w1 ⟨rfl, hb⟩
  go_wp2_with fail
  refine (H2'.out _ (he'.out.below hb)).mono ?_
  rintro e w2 ⟨rfl, hb2⟩
  go_wp2_with fail
  go_ret
  exact ⟨rfl, below_tr hb hb2⟩

theorem itoa_any (n : Int) (h0 : -9223372036854775808 ≤ n) (h1 : n ≤ 9223372036854775807) (w : World) (he : Env w) :
    Calls Tryd.prog 64 #[.int .i64 n] w fun e w' => e = .returned (sv (Lib.itoa n)) ∧ Below w.heap.size w w' :=
  (Tryd.strconv_Itoa n h0 h1 w he.tab).mono fun e w' ⟨h, k, os, hw⟩ => ⟨h, by subst hw; exact below_grow _ _ (Nat.le_refl _) k os⟩

def printL (t p : List UInt8) (r : Int) (c : List UInt8) : List UInt8 := Lib.join [maskL t, maskL p, Lib.itoa r, maskL c] [47]
theorem printL_eq (t p : List UInt8) (r : Int) (c : List UInt8) : printL t p r c = maskL t ++ 47 :: (maskL p ++ 47 :: (Lib.itoa r ++ 47 :: maskL c)) := by
  simp [printL, Lib.join]

theorem str4 {W : World} {b : Nat} {a0 a1 a2 a3 : ByteArray} (h0 : W.cell? ⟨b, 0, none⟩ = some (.string a0)) (h1 : W.cell? ⟨b, 1, none⟩ = some (.string a1)) (h2 : W.cell? ⟨b, 2, none⟩ = some (.string a2)) (h3 : W.cell? ⟨b, 3, none⟩ = some (.string a3)) :
    ∀ (j : Nat) x, [a0, a1, a2, a3][j]? = some x → W.cell? ⟨b, 0 + j, none⟩ = some (.string x) := by
  intro j x hj
  rcases j with _ | _ | _ | _ | j
  · simp at hj; subst hj; exact h0
  · simp at hj; subst hj; exact h1
  · simp at hj; subst hj; exact h2
  · simp at hj; subst hj; exact h3
  · simp at hj

/-- the box of a key -/
def kbox (t p c : ByteArray) (r : Int) : Obj := .cells #[.string t, .string p, .int .i64 r, .string c] 60

set_option maxHeartbeats 1000000 in
theorem Print_any (t p c : ByteArray) (r : Int) (w : World) (he : Env w) (h1 : t.size + p.size + c.size ≤ 1000000) (r0 : -9223372036854775808 ≤ r) (r1 : r ≤ 9223372036854775807) :
    Calls Tryd.prog 40 #[.agg #[.string t, .string p, .int .i64 r, .string c]] w fun e w' => e = .returned (sv (printL t.toList p.toList r c.toList)) ∧ Below w.heap.size w w' := by
  have hl : (printL t.toList p.toList r c.toList).length ≤ 100000000 := by
    have a1 := maskL_len t.toList; have a2 := maskL_len p.toList; have a3 := maskL_len c.toList; have a4 := itoa_length_le r r0 r1
    rw [str_len] at a1 a2 a3
    rw [printL_eq]; simp only [List.length_append, List.length_cons]; omega
  have HM : ∀ s W, s.size ≤ 1000000 → Env W → Calls Tryd.prog 82 #[.string s] W fun e w' => e = .returned (sv (maskL s.toList)) ∧ Below W.heap.size W w' := fun s W h hE => mask_any s W hE (by omega)
  have HI : ∀ W, Env W → Calls Tryd.prog 64 #[.int .i64 r] W fun e w' => e = .returned (sv (Lib.itoa r)) ∧ Below W.heap.size W w' := fun W hE => itoa_any r r0 r1 W hE
  unfold printL at *
  generalize itoa r = z at *
  have HM1 := fun W => HM t W (by omega)
  have HM2 := fun W => HM p W (by omega)
  have HM3 := fun W => HM c W (by omega)
  clear HM
  generalize maskL t.toList = mt at *
  generalize maskL p.toList = mp at *
  generalize maskL c.toList = mc at *
  have HJ : ∀ (W : World) b, (∀ (j : Nat) x, [(⟨mt.toArray⟩ : ByteArray), ⟨mp.toArray⟩, ⟨z.toArray⟩, ⟨mc.toArray⟩][j]? = some x → W.cell? ⟨b, 0 + j, none⟩ = some (.string x)) → b < W.heap.size →
      Calls Tryd.prog 84 #[.slice (some ⟨b, 0, none⟩) 4 4, .string ⟨#[47]⟩] W fun e w' => e = .returned (sv (Lib.join [mt, mp, z, mc] [47])) ∧ Below W.heap.size W w' := fun W b h hb =>
    Tryd.strings_Join b 0 4 [⟨mt.toArray⟩, ⟨mp.toArray⟩, ⟨z.toArray⟩, ⟨mc.toArray⟩] ⟨#[47]⟩ W h hb (by simp) (by simp) (Nat.le_trans hl (by decide))
  generalize Lib.join [mt, mp, z, mc] [47] = res at *
  have HM1' := Lib.hid HM1; clear HM1
  have HM2' := Lib.hid HM2; clear HM2
  have HM3' := Lib.hid HM3; clear HM3
  have HI' := Lib.hid HI; clear HI
  have HJ' := Lib.hid HJ; clear HJ
  clear r0 r1 hl h1
  go_enter Tryd.func40, Tryd.ntmps40
  go_wp2_with fail
  have hb0 : Below w.heap.size w (w.alloc (kbox t p c r)) := below_alloc (Below.refl _ _) _
  have hc0 : (w.alloc (kbox t p c r)).cell? ⟨w.heap.size, 0, none⟩ = some (.string t) := by simp [kbox]
  have hc1 : (w.alloc (kbox t p c r)).cell? ⟨w.heap.size, 1, none⟩ = some (.string p) := by simp [kbox]
  have hc2 : (w.alloc (kbox t p c r)).cell? ⟨w.heap.size, 2, none⟩ = some (.int .i64 r) := by simp [kbox]
  have hc3 : (w.alloc (kbox t p c r)).cell? ⟨w.heap.size, 3, none⟩ = some (.string c) := by simp [kbox]
  have he1 := he.below hb0
  unfold kbox at *
  generalize w.alloc (.cells #[.string t, .string p, .int .i64 r, .string c] 60) = W at *
  have HS : ∀ w', Below W.heap.size W w' → (Below W.heap.size W w' ∧ w'.cell? ⟨w.heap.size, 0, none⟩ = some (.string t) ∧ w'.cell? ⟨w.heap.size, 1, none⟩ = some (.string p) ∧ w'.cell? ⟨w.heap.size, 2, none⟩ = some (.int .i64 r) ∧ w'.cell? ⟨w.heap.size, 3, none⟩ = some (.string c)) := fun w' h => ⟨h, cell_keep h hc0, cell_keep h hc1, cell_keep h hc2, cell_keep h hc3⟩
  have HS' := Lib.hid HS; clear HS
  have he1' := Lib.hid he1; clear he1
  go_region_held3 (fun w' => Below W.heap.size W w' ∧ w'.cell? ⟨w.heap.size, 0, none⟩ = some (.string t) ∧ w'.cell? ⟨w.heap.size, 1, none⟩ = some (.string p) ∧ w'.cell? ⟨w.heap.size, 2, none⟩ = some (.int .i64 r) ∧ w'.cell? ⟨w.heap.size, 3, none⟩ = some (.string c)) (first | exact HS'.out _ (Below.drew (Below.refl _ _)) | exact HS'.out _ (below_tr (And.left (by assumption)) (by assumption)) | exact HS'.out _ (below_alloc (And.left (by assumption)) _))
    (first | (go_at_call_of 82 t; refine (HM1'.out _ (he1'.out.below (‹Below W.heap.size W _ ∧ _›).1)).mono ?_; rintro e w' ⟨rfl, hb⟩) | (go_at_call_of 82 p; refine (HM2'.out _ (he1'.out.below (‹Below W.heap.size W _ ∧ _›).1)).mono ?_; rintro e w' ⟨rfl, hb⟩) | (go_at_call_of 82 c; refine (HM3'.out _ (he1'.out.below (‹Below W.heap.size W _ ∧ _›).1)).mono ?_; rintro e w' ⟨rfl, hb⟩) | (go_at_call 64; refine (HI'.out _ (he1'.out.below (‹Below W.heap.size W _ ∧ _›).1)).mono ?_; rintro e w' ⟨rfl, hb⟩) | (go_at_call 84; refine (HJ'.out _ _ (str4 (by go_simp) (by go_simp) (by go_simp) (by go_simp)) (by simp)).mono ?_; rintro e w' ⟨rfl, hb⟩))
  all_goals go_wp2
  all_goals go_ret
  all_goals exact ⟨rfl, below_tr hb0 (‹Below W.heap.size W _ ∧ _›).1⟩

theorem maskL_snoc (l : List UInt8) (b : UInt8) : maskL (l ++ [b]) = maskL l ++ (if b = 47 then [37, 50, 102] else if b = 37 then [37, 50, 53] else [b]) := by
  unfold maskL
  rw [sub1_snoc]
  by_cases h : b = 37
  · subst h; simp [sub1]
  · by_cases h2 : b = 47
    · subst h2; simp [sub1]
    · simp [sub1, h, h2]
theorem ext_one (s : ByteArray) (k : Nat) (h : k < s.size) : s.extract k (k + 1) = ⟨[s[k]].toArray⟩ := by
  apply ByteArray.ext
  have h' : k < s.data.size := h
  rw [ByteArray.data_extract]
  apply Array.ext
  · simp; omega
  · intro i hi1 hi2
    have : i = 0 := by simp at hi2; omega
    subst this
    simp; rfl
theorem byte_beq (b : UInt8) (n : Nat) (h : n < 256) : ((b.toNat : Int) == (n : Int)) = decide (b = UInt8.ofNat n) := by
  rw [Bool.eq_iff_iff, beq_iff_eq, decide_eq_true_eq]
  constructor
  · intro e; apply UInt8.toNat_inj.1; rw [UInt8.toNat_ofNat']; omega
  · rintro rfl; rw [UInt8.toNat_ofNat']; omega

theorem masked_any (s : ByteArray) (w : World) (hs : s.size ≤ 1000000000) : Calls Tryd.prog 87 #[.string s] w fun e w' => e = .returned (sv (maskL s.toList)) ∧ w = w' := by
  go_enter Tryd.func87, Tryd.ntmps87
  go_wp2
  go_loop [3, 4] (fun u i => ∃ k : Nat, k ≤ s.size ∧ i = .int .i64 k ∧ u = sv (maskL (s.toList.take k))) (fun _ i => s.size - (intOf i).toNat)
  case atStart => exact ⟨0, by omega, rfl, by simp [maskL, sub1]⟩
  case round =>
    obtain ⟨k, hk, rfl, rfl⟩ := hrel
    by_cases hlt : k < s.size
    · have hml := maskL_len (s.toList.take k)
      have hm2 : (s.toList.take k).length ≤ s.toList.length := List.length_take_le' k s.toList
      rw [str_len] at hm2
      have hst : maskL (s.toList.take (k + 1)) = maskL (s.toList.take k) ++ (if s[k] = 47 then [37, 50, 102] else if s[k] = 37 then [37, 50, 53] else [s[k]]) := by rw [take_snoc _ _ _ (str_get s k hlt), maskL_snoc]
      have HS := Lib.hid hst; clear hst
      have hx := Lib.hid (ext_one s k hlt)
      generalize maskL (s.toList.take k) = m at *
      have hml2 : m.length ≤ 9000000000 := by omega
      clear hml hm2
      have q1 := byte_beq s[k] 47 (by decide)
      have q2 := byte_beq s[k] 37 (by decide)
      cases h1 : ((s[k].toNat : Int) == 47)
      · have n1 : ¬ s[k] = 47 := by have := q1.symm.trans h1; simpa using this
        cases h2 : ((s[k].toNat : Int) == 37)
        · have n2 : ¬ s[k] = 37 := by have := q2.symm.trans h2; simpa using this
          have N1 := Lib.hid n1; have N2 := Lib.hid n2
          clear n1 n2 q1 q2
          go_wp2
          go_round
          case rel => exact ⟨k + 1, by omega, by go_num, by rw [hx.out, ByteArray.mk_append_mk, HS.out, if_neg N1.out, if_neg N2.out]⟩
          case measure => (first | (simp [intOf]; done) | (simp [intOf]; omega))
        · have n2 : s[k] = 37 := by have := q2.symm.trans h2; simpa using this
          have N1 := Lib.hid n1; have N2 := Lib.hid n2
          clear n1 n2 q1 q2
          go_wp2
          go_round
          case rel => exact ⟨k + 1, by omega, by go_num, by rw [show (⟨#[37, 50, 53]⟩ : ByteArray) = ⟨[37, 50, 53].toArray⟩ from rfl, ByteArray.mk_append_mk, HS.out, if_neg N1.out, if_pos N2.out]⟩
          case measure => (first | (simp [intOf]; done) | (simp [intOf]; omega))
      · have n1 : s[k] = 47 := by have := q1.symm.trans h1; simpa using this
        have N1 := Lib.hid n1
        clear n1 q1 q2
        go_wp2
        go_round
        case rel => exact ⟨k + 1, by omega, by go_num, by rw [show (⟨#[37, 50, 102]⟩ : ByteArray) = ⟨[37, 50, 102].toArray⟩ from rfl, ByteArray.mk_append_mk, HS.out, if_pos N1.out]⟩
        case measure => (first | (simp [intOf]; done) | (simp [intOf]; omega))
    · have hk' : s.toList.take k = s.toList := List.take_of_length_le (by rw [str_len]; omega)
      rw [hk']
      go_wp2
      go_ret
      exact ⟨rfl, rfl⟩
end Go.Proofs.YtkmcjainbhmbdaaDoor
