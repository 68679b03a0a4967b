/- Contracts of the reference's murmur: rotl, eight, Mix. Conditions: the numbers are of uint64; at most a million bytes. Contracts of the reference's murmur: Sum, Token. Conditions: at most a million bytes; the seed is of uint64. Contracts of the reference's filter. Conditions: room. -/
import Derived.Test.YtplghaoflmaadaaGreatDoorZ02
import Derived.Test.YtplghaoflmaadaaGreatDoorZ11
section
set_option linter.unusedVariables false
set_option linter.unusedSimpArgs false
set_option maxRecDepth 20000
namespace Go.Proofs.YtplghaoflmaadaaGreatDoor
open Go.RowKit

theorem leN_snoc (a : List UInt8) (x : UInt8) : leN (a ++ [x]) = leN a + x.toNat * 256 ^ a.length := by
  induction a with
  | nil => simp [leN]
  | cons b a ih =>
    rw [List.cons_append, leN_cons, ih, leN_cons, List.length_cons, Nat.pow_succ, Nat.add_mul, Nat.mul_assoc]
    omega
theorem or_hi (u x i : Nat) (hi : i < 8) (hu : u < 256 ^ i) (hx : x < 256) : Go.bits .or .u64 (u : Int) (IntKind.u64.wrap ((x : Int) * 2 ^ (8 * i))) = ((u + x * 256 ^ i : Nat) : Int) := by
  have hw : ∀ n : Nat, n < 18446744073709551616 → IntKind.u64.wrap (n : Int) = n := fun n hn => by
    simp only [IntKind.wrap, IntKind.signed, IntKind.bits, Bool.false_and]
    simp; omega
  have hp : (2 : Nat) ^ (8 * i) = 256 ^ i := by rw [Nat.pow_mul]
  have hm : x * 256 ^ i + 256 ^ i ≤ 18446744073709551616 := by
    have a1 : x * 256 ^ i ≤ 255 * 256 ^ i := Nat.mul_le_mul_right _ (by omega)
    have a2 : 256 ^ i ≤ 256 ^ 7 := Nat.pow_le_pow_right (by decide) (by omega)
    have a3 : 256 ^ 7 = 72057594037927936 := rfl
    omega
  have e1 : (x : Int) * 2 ^ (8 * i) = ((x * 256 ^ i : Nat) : Int) := by rw [← hp]; simp
  have hs := Nat.shiftLeft_add_eq_or_of_lt (b := u) (i := 8 * i) (by rw [hp]; exact hu) x
  rw [Nat.shiftLeft_eq, hp] at hs
  rw [e1, hw _ (by omega)]
  have e : (BitVec.ofInt 64 (u : Int) ||| BitVec.ofInt 64 ((x * 256 ^ i : Nat) : Int)).toNat = u + x * 256 ^ i := by
    rw [BitVec.toNat_or, BitVec.ofInt_natCast, BitVec.ofInt_natCast, BitVec.toNat_ofNat, BitVec.toNat_ofNat, Nat.mod_eq_of_lt (by omega), Nat.mod_eq_of_lt (by omega), Nat.or_comm, ← hs, Nat.add_comm]
  show IntKind.u64.wrap ((BitVec.ofInt 64 (u : Int) ||| BitVec.ofInt 64 ((x * 256 ^ i : Nat) : Int)).toNat : Int) = _
  rw [e, hw _ (by omega)]
theorem eight_step (l : List UInt8) (j : Nat) (h8 : j < 8) (hj : j < l.length) : leN (l.take j) < 256 ^ j ∧ leN (l.take (j + 1)) = leN (l.take j) + l[j].toNat * 256 ^ j := by
  have hl : (l.take j).length = j := by rw [List.length_take]; omega
  have h1 := leN_lt (l.take j)
  rw [hl] at h1
  refine ⟨h1, ?_⟩
  have e : l.take (j + 1) = l.take j ++ [l[j]] := take_snoc l j _ (List.getElem?_eq_getElem hj)
  rw [e, leN_snoc, hl]

set_option maxHeartbeats 1000000 in
theorem rRotl_any (x : Int) (k : Nat) (h0 : 0 ≤ x) (h1 : x < 18446744073709551616) (hk : k = 27 ∨ k = 31 ∨ k = 33) (w : World) :
    Calls Tryz.prog 159 #[.int .u64 x, .int .u64 (k : Int)] w fun e w' => e = .returned (.int .u64 (rotI x k)) ∧ w = w' := by
  rcases hk with rfl | rfl | rfl
  all_goals (
    go_enter Tryz.func159, Tryz.ntmps159
    go_wp2_with fail
    go_ret
    exact ⟨by first | rfl | (unfold rotI; rfl), rfl⟩)

set_option maxHeartbeats 1000000 in
theorem rMix_any (k : Int) (h0 : 0 ≤ k) (h1 : k < 18446744073709551616) (w : World) :
    Calls Tryz.prog 160 #[.int .u64 k] w fun e w' => e = .returned (.int .u64 (mixI k)) ∧ w = w' := by
  unfold mixI
  simp only
  generalize hb : IntKind.u64.wrap (Go.bits .xor .u64 (IntKind.u64.wrap (Go.bits .xor .u64 k (k / 8589934592) * 18397679294719823053)) (IntKind.u64.wrap (Go.bits .xor .u64 k (k / 8589934592) * 18397679294719823053) / 8589934592) * 14181476777654086739) = b at *
  have HB := Lib.hid hb
  clear hb
  go_enter Tryz.func160, Tryz.ntmps160
  go_wp2_with fail
  go_ret
  exact ⟨by rw [← HB.out]; rfl, rfl⟩

set_option maxHeartbeats 1000000 in
theorem rEight_any (v : Value) (l : List UInt8) (at_ : Nat) (B : Nat) (w : World) (hv : SlB B w v l) (hl : l.length ≤ 10000000) (ha : at_ ≤ l.length) :
    Calls Tryz.prog 158 #[v, .int .i64 (at_ : Int)] w fun e w' => e = .returned (.int .u64 (leN ((l.drop at_).take 8) : Int)) ∧ w = w' := by
  obtain ⟨a, c, rfl, hc, hx⟩ := hv.ex
  have HX := Lib.hid hx; clear hx hv
  have HE := Lib.hid (fun j h8 hj => eight_step (l.drop at_) j h8 hj)
  go_enter Tryz.func158, Tryz.ntmps158
  go_wp2_with fail
  go_loopw [5, 6] (fun u i wr => ∃ j : Nat, j ≤ 8 ∧ at_ + j ≤ l.length ∧ i = .int .i64 (j : Int) ∧ u = .int .u64 (leN ((l.drop at_).take j) : Int) ∧ wr = w) (fun _ i _ => (8 - intOf i).toNat)
  case atStart => exact ⟨0, by omega, by omega, rfl, rfl, rfl⟩
  case round =>
    obtain ⟨j, h8, hj, rfl, rfl, rfl⟩ := hrel
    by_cases h8' : j = 8
    · subst h8'
      go_wp2_with fail
      go_ret
      exact ⟨rfl, rfl⟩
    · have q8 : (j : Int) < 8 := by omega
      by_cases hjl : at_ + j = l.length
      · have e : (l.drop at_).take 8 = (l.drop at_).take j := by
          rw [List.take_of_length_le (by rw [List.length_drop]; omega), List.take_of_length_le (by rw [List.length_drop]; omega)]
        have HQ := Lib.hid e; clear e
        have q9 : ¬ (at_ : Int) + (j : Int) < (l.length : Int) := by omega
        go_wp2_with fail
        go_ret
        exact ⟨by rw [HQ.out]; rfl, rfl⟩
      · have q9 : (at_ : Int) + (j : Int) < (l.length : Int) := by omega
        obtain ⟨g, o, rfl, hg, hcell⟩ := HX.out (by omega)
        have hck := hcell (at_ + j) (by omega)
        obtain ⟨e1, e2⟩ := HE.out j (by omega) (by rw [List.length_drop]; omega)
        rw [List.getElem_drop] at e2
        have hxb := l[at_ + j].toNat_lt
        have ho := or_hi _ l[at_ + j].toNat j (by omega) e1 (by omega)
        rw [← e2] at ho
        have HO := Lib.hid ho
        clear ho e1 e2 hcell
        generalize leN ((l.drop at_).take j) = u0 at *
        generalize l[at_ + j].toNat = x at *
        go_wp2_with fail
        go_roundw
        case rel => exact ⟨j + 1, by omega, by omega, by first | rfl | (congr 1; omega), by rw [← HO.out], trivial⟩
        case measure => simp [intOf]; omega
end Go.Proofs.YtplghaoflmaadaaGreatDoor
end

section
set_option linter.unusedVariables false
set_option linter.unusedSimpArgs false
set_option maxRecDepth 50000
namespace Go.Proofs.YtplghaoflmaadaaGreatDoor
open Go.RowKit

set_option maxHeartbeats 4000000 in
theorem rmmSum_any (v : Value) (l : List UInt8) (seed : Int) (B : Nat) (w : World) (hv : SlB B w v l) (hl : l.length ≤ 10000000) (s0 : 0 ≤ seed) (s1 : seed < 18446744073709551616) :
    Calls Tryz.prog 139 #[v, .int .u64 seed] w fun e w' => e = .returned (.tuple #[.int .u64 (mmSum l seed).1, .int .u64 (mmSum l seed).2]) ∧ w = w' := by
  have EI := Lib.hid (fun k (hk : k ≤ l.length) => rEight_any v l k B w hv hl hk)
  have RO := Lib.hid (fun x k h0 h1 hk => rRotl_any x k h0 h1 hk w)
  have MX := Lib.hid (fun x h0 h1 => rMix_any x h0 h1 w)
  obtain ⟨a, cp, rfl, _, _⟩ := hv.ex
  clear hv
  have HR := Lib.hid (show mmSum l seed = mmEnd (l.length : Int) (mmLoop l.length seed seed l) from rfl)
  generalize hRd : mmLoop l.length seed seed l = R at *
  have HRD := Lib.hid hRd; clear hRd
  go_enter Tryz.func139, Tryz.ntmps139
  go_wp2_with fail
  go_loopw [6, 7, 8] (fun vh vg va wr => ∃ (h g : Int) (k n : Nat), vh = .int .u64 h ∧ vg = .int .u64 g ∧ va = .int .i64 (k : Int) ∧ (0 ≤ h ∧ h < 18446744073709551616) ∧ (0 ≤ g ∧ g < 18446744073709551616) ∧ k ≤ l.length ∧ l.length ≤ n + k ∧ wr = w ∧ mmLoop n h g (l.drop k) = R) (fun _ _ va _ => (l.length - (intOf va).toNat))
  case atStart => exact ⟨seed, seed, 0, l.length, rfl, rfl, rfl, ⟨s0, s1⟩, ⟨s0, s1⟩, by omega, by omega, rfl, by rw [List.drop_zero]; exact HRD.out⟩
  case round =>
    obtain ⟨h, g, k, n, rfl, rfl, rfl, hr, gr, hk, hn, rfl, hR⟩ := hrel
    have HRR := Lib.hid hR
    clear hR HRD
    have hdl : (l.drop k).length = l.length - k := List.length_drop
    by_cases h16 : (l.length : Int) - (k : Int) < 16
    · have hst := mmLoop_stop n h g (l.drop k) (by omega)
      rw [hst] at HRR
      have HRE := Lib.hid HRR.out.symm
      clear HRR hst
      have E0 := Lib.hid (EI.out k hk)
      have q16 : ¬ (16 : Int) ≤ (l.length : Int) - (k : Int) := by omega
      have hN : IntKind.u64.wrap (l.length : Int) = (l.length : Int) := by
        simp only [IntKind.wrap, IntKind.signed, IntKind.bits, Bool.false_and]
        simp; omega
      have fin : ∀ h1 g1, (0 ≤ h1 ∧ h1 < 18446744073709551616) → (0 ≤ g1 ∧ g1 < 18446744073709551616) →
          g1 = (if 8 < (l.drop k).length then Go.bits .xor .u64 g (highI ((l.drop k).drop 8)) else g) → h1 = (if 0 < (l.drop k).length then Go.bits .xor .u64 h (lowI (l.drop k)) else h) →
          mmSum l seed = (let h2 := Go.bits .xor .u64 h1 (l.length : Int); let g2 := Go.bits .xor .u64 g1 (l.length : Int); let h3 := IntKind.u64.wrap (h2 + g2); let g3 := IntKind.u64.wrap (g2 + h3); let h4 := mixI h3; let g4 := mixI g3; let h5 := IntKind.u64.wrap (h4 + g4); (h5, IntKind.u64.wrap (g4 + h5))) := by
        intro h1 g1 _ _ e1 e2
        rw [HR.out, HRE.out]
        unfold mmEnd
        simp only
        rw [← e1, ← e2]
      have FIN := Lib.hid fin; clear fin
      have hx1 := bits64 .xor h (lowI (l.drop k))
      have hx2 := bits64 .xor g (highI ((l.drop k).drop 8))
      obtain ⟨h1, hh1⟩ : ∃ h1, Go.bits .xor .u64 h (IntKind.u64.wrap (rotI (IntKind.u64.wrap ((leN ((l.drop k).take 8) : Int) * 9782798678568883157)) 31 * 5545529020109919103)) = h1 := ⟨_, rfl⟩
      obtain ⟨g1, hg1⟩ : ∃ g1, Go.bits .xor .u64 g (IntKind.u64.wrap (rotI (IntKind.u64.wrap ((leN ((l.drop (k + 8)).take 8) : Int) * 5545529020109919103)) 33 * 9782798678568883157)) = g1 := ⟨_, rfl⟩
      have HH1 := Lib.hid hh1; have HG1 := Lib.hid hg1
      have hx1' : 0 ≤ h1 ∧ h1 < 18446744073709551616 := by rw [← hh1]; exact hx1
      have hx2' : 0 ≤ g1 ∧ g1 < 18446744073709551616 := by rw [← hg1]; exact bits64 _ _ _
      have HX1 := Lib.hid hx1'; have HX2 := Lib.hid hx2'; have HRr := Lib.hid hr; have HGr := Lib.hid gr
      clear hh1 hg1 hx1 hx2 hx1' hx2' hr gr
      by_cases h8 : (8 : Int) < (l.length : Int) - (k : Int)
      · have E8 := Lib.hid (EI.out (k + 8) (by omega))
        have F := Lib.hid (FIN.out h1 g1 HX1.out HX2.out (by rw [if_pos (by omega), ← HG1.out, List.drop_drop]; rfl) (by rw [if_pos (by omega), ← HH1.out]; rfl))
        have q0 : (0 : Int) < (l.length : Int) - (k : Int) := by omega
        have e8 := Lib.hid (show (k : Int) + 8 = ((k + 8 : Nat) : Int) by omega)
        clear FIN HR HRE
        go_wp2_with fail
        rw [e8.out]
        refine E8.out.mono ?_
        rintro e w1 ⟨rfl, rfl⟩
        go_wp2_with fail
        refine (RO.out _ 33 (w64_range _).1 (w64_range _).2 (by decide)).mono ?_
        rintro e w1 ⟨rfl, rfl⟩
        go_wp2_with fail
        refine E0.out.mono ?_
        rintro e w1 ⟨rfl, rfl⟩
        go_wp2_with fail
        refine (RO.out _ 31 (w64_range _).1 (w64_range _).2 (by decide)).mono ?_
        rintro e w1 ⟨rfl, rfl⟩
        rw [HG1.out]
        go_wp2_with fail
        rw [HH1.out]
        refine (MX.out _ (w64_range _).1 (w64_range _).2).mono ?_
        rintro e w1 ⟨rfl, rfl⟩
        go_wp2_with fail
        refine (MX.out _ (w64_range _).1 (w64_range _).2).mono ?_
        rintro e w1 ⟨rfl, rfl⟩
        go_wp2_with fail
        go_ret2
        exact ⟨by rw [F.out]; rfl, rfl⟩
      · by_cases h0 : (0 : Int) < (l.length : Int) - (k : Int)
        · have F := Lib.hid (FIN.out h1 g HX1.out HGr.out (by rw [if_neg (by omega)]) (by rw [if_pos (by omega), ← HH1.out]; rfl))
          clear FIN HR HRE
          go_wp2_with fail
          refine E0.out.mono ?_
          rintro e w1 ⟨rfl, rfl⟩
          go_wp2_with fail
          refine (RO.out _ 31 (w64_range _).1 (w64_range _).2 (by decide)).mono ?_
          rintro e w1 ⟨rfl, rfl⟩
          go_wp2_with fail
          rw [HH1.out]
          refine (MX.out _ (w64_range _).1 (w64_range _).2).mono ?_
          rintro e w1 ⟨rfl, rfl⟩
          go_wp2_with fail
          refine (MX.out _ (w64_range _).1 (w64_range _).2).mono ?_
          rintro e w1 ⟨rfl, rfl⟩
          go_wp2_with fail
          go_ret2
          exact ⟨by rw [F.out]; rfl, rfl⟩
        · have F := Lib.hid (FIN.out h g HRr.out HGr.out (by rw [if_neg (by omega)]) (by rw [if_neg (by omega)]))
          clear FIN HR HRE
          go_wp2_with fail
          refine (MX.out _ (w64_range _).1 (w64_range _).2).mono ?_
          rintro e w1 ⟨rfl, rfl⟩
          go_wp2_with fail
          refine (MX.out _ (w64_range _).1 (w64_range _).2).mono ?_
          rintro e w1 ⟨rfl, rfl⟩
          go_wp2_with fail
          go_ret2
          exact ⟨by rw [F.out]; rfl, rfl⟩
    · have hkl : k + 16 ≤ l.length := by omega
      obtain ⟨n, rfl⟩ : ∃ m, n = m + 1 := ⟨n - 1, by omega⟩
      have hgo := mmLoop_go n h g (l.drop k) (by omega)
      rw [hgo, List.drop_drop] at HRR
      have HRE := Lib.hid HRR.out
      clear HRR hgo
      have E0 := Lib.hid (EI.out k hk)
      have E8 := Lib.hid (EI.out (k + 8) (by omega))
      have q16 : (16 : Int) ≤ (l.length : Int) - (k : Int) := by omega
      have e8 := Lib.hid (show (k : Int) + 8 = ((k + 8 : Nat) : Int) by omega)
      have R1 := fun x h0 h1 => RO.out x 31 h0 h1 (by decide)
      have R2 := fun x h0 h1 => RO.out x 27 h0 h1 (by decide)
      have R3 := fun x h0 h1 => RO.out x 33 h0 h1 (by decide)
      have R1' := Lib.hid R1; have R2' := Lib.hid R2; have R3' := Lib.hid R3
      clear R1 R2 R3
      go_wp2_with fail
      refine E0.out.mono ?_
      rintro e w1 ⟨rfl, rfl⟩
      go_wp2_with fail
      rw [e8.out]
      refine E8.out.mono ?_
      rintro e w1 ⟨rfl, rfl⟩
      go_wp2_with fail
      refine (R1'.out _ (w64_range _).1 (w64_range _).2).mono ?_
      rintro e w1 ⟨rfl, rfl⟩
      go_wp2_with fail
      refine (R2'.out _ (bits64 _ _ _).1 (bits64 _ _ _).2).mono ?_
      rintro e w1 ⟨rfl, rfl⟩
      go_wp2_with fail
      refine (R3'.out _ (w64_range _).1 (w64_range _).2).mono ?_
      rintro e w1 ⟨rfl, rfl⟩
      go_wp2_with fail
      refine (R1'.out _ (bits64 _ _ _).1 (bits64 _ _ _).2).mono ?_
      rintro e w1 ⟨rfl, rfl⟩
      go_wp2_with fail
      go_roundw
      case rel => exact ⟨_, _, k + 16, n, rfl, rfl, by first | rfl | go_num | (congr 1; omega), w64_range _, w64_range _, by omega, by omega, trivial, by have hh := HRE.out; unfold mmStep lowI highI at hh; simp only [List.drop_drop] at hh; exact hh⟩
      case measure => simp [intOf]; omega
end Go.Proofs.YtplghaoflmaadaaGreatDoor
end

section
set_option linter.unusedVariables false
set_option linter.unusedSimpArgs false
set_option maxRecDepth 50000
namespace Go.Proofs.YtplghaoflmaadaaGreatDoor
open Go.RowKit

theorem place_val (h g : Int) (i m : Nat) (hm : m + 1 ≤ 1000000) : wrap64 ((IntKind.u64.wrap (h + IntKind.u64.wrap ((i : Int) * g))).tmod (8 * ((m : Int) + 1))) = (placeI (h, g) (m + 1) i : Int) := by
  have hp : (IntKind.u64.wrap (h + IntKind.u64.wrap ((i : Int) * g)) % ((8 * (m + 1) : Nat) : Int)) = (placeI (h, g) (m + 1) i : Int) := by
    unfold placeI
    simp only
    have := Int.emod_nonneg (IntKind.u64.wrap (h + IntKind.u64.wrap ((i : Int) * g))) (show ((8 * (m + 1) : Nat) : Int) ≠ 0 by omega)
    omega
  have hr := w64_range (h + IntKind.u64.wrap ((i : Int) * g))
  have hlt : (placeI (h, g) (m + 1) i : Int) < 8 * ((m : Int) + 1) := by
    rw [← hp]
    have := Int.emod_lt_of_pos (IntKind.u64.wrap (h + IntKind.u64.wrap ((i : Int) * g))) (show (0 : Int) < ((8 * (m + 1) : Nat) : Int) by omega)
    omega
  rw [Int.tmod_eq_emod_of_nonneg hr.1, show (8 * ((m : Int) + 1)) = ((8 * (m + 1) : Nat) : Int) by omega, hp]
  unfold wrap64
  omega
set_option maxHeartbeats 1000000 in
theorem rfPlaces_any (v : Value) (l : List UInt8) (g k : Nat) (bits : List UInt8) (w : World) (hf : FlT 131 w.heap.size w g k bits) (hv : SlB w.heap.size w v l) (hl : l.length ≤ 10000000) :
    Calls Tryz.prog 118 #[.pointer (some ⟨g, 0, none⟩), v] w fun e w' => ∃ v', e = .returned v' ∧ OwnX eI w' w.heap.size v' ((placesL k bits.length l).map fun p : Nat => (p : Int)) ∧ Below w.heap.size w w' := by
  obtain ⟨⟨r1, r2⟩, r3, r4⟩ := mmSum_range l 0
  have C := Lib.hid (rmmSum_any v l 0 w.heap.size w hv hl (by omega) (by omega))
  have HPL := Lib.hid (show placesL k bits.length l = (List.range k).map (placeI (mmSum l 0) bits.length) from rfl)
  obtain ⟨vf, hfb, hs⟩ := hf.ex
  have c0 := hfb.cell 0 rfl; have c1 := hfb.cell 1 rfl
  obtain ⟨a, c, rfl, hc, -⟩ := hs.ex
  have hk1 := hf.k1; have hb0 := hf.b0; have hb1 := hf.b1
  generalize hmm : mmSum l 0 = mm at *
  obtain ⟨m1, m2⟩ := mm
  simp only at r1 r2 r3 r4
  have HB := Lib.hid hfb
  clear hf hv hmm hs hfb
  go_enter Tryz.func118, Tryz.ntmps118
  go_wp2_with fail
  refine C.out.mono ?_
  rintro e w1 ⟨rfl, rfl⟩
  generalize hbl : bits.length = bl at *
  obtain ⟨m, rfl⟩ : ∃ m, bl = m + 1 := ⟨bl - 1, by omega⟩
  have PV := Lib.hid (fun i => place_val m1 m2 i m hb1)
  have HBL := Lib.hid hbl
  clear hbl hb0
  go_wp2_with fail
  go_loopw [7, 8] (fun v7 v8 wr => ∃ i : Nat, v8 = .int .i64 (i : Int) ∧ i ≤ k ∧ OwnX eI wr w.heap.size v7 (((List.range k).map fun j => (placeI (m1, m2) (m + 1) j : Int)).take i) ∧ Below w.heap.size w wr) (fun _ v8 _ => k - (intOf v8).toNat)
  case atStart => exact ⟨0, rfl, Nat.zero_le _, OwnX.nil _ _, Below.refl _ _⟩
  case round =>
    obtain ⟨i, rfl, hi, hO, hB⟩ := hrel
    have HO := Lib.hid hO; have HBw := Lib.hid hB
    have d0 := cell_keep hB c0; have d1 := cell_keep hB c1
    clear hO hB
    by_cases hlt : i < k
    · have hz : (i : Int) < (k : Int) := by omega
      have hv := PV.out i
      have htk : ((List.range k).map fun j => (placeI (m1, m2) (m + 1) j : Int)).take (i + 1) = ((List.range k).map fun j => (placeI (m1, m2) (m + 1) j : Int)).take i ++ [(placeI (m1, m2) (m + 1) i : Int)] := by
        rw [List.take_succ_eq_append_getElem (by simp; exact hlt)]; simp
      have hlen : (((List.range k).map fun j => (placeI (m1, m2) (m + 1) j : Int)).take i).length ≤ 16 := by simp; omega
      have HTK := Lib.hid htk; have HL := Lib.hid hlen
      clear htk hlen
      generalize ((List.range k).map fun j => (placeI (m1, m2) (m + 1) j : Int)).take i = cur at *
      generalize (placeI (m1, m2) (m + 1) i : Int) = y at *
      have HLT := Lib.hid hlt
      go_wp2_with (at_builtin; go_must (refine ap_g (E := eI) rfl (.tmp 22) (.tmp 38) rfl w.heap.size u7 cur _ _ [y] rfl rfl (SlX.lit (E := eI) wr #[.int .i64 y] [y] 1 1 rfl (Nat.le_refl _) rfl) (HO.out.alloc (.cells #[.int .i64 y] 3)) (Nat.le_trans HBw.out.size (by simp)) (by rw [List.length_singleton]; have := HL.out; omega) (by show (cur.length + 1) * 8 ≤ _; have := HL.out; omega) ?_); intro v4 w4 hO4 hG4)
      have HO4 := Lib.hid hO4
      have HB4 := Lib.hid ((below_al HBw.out (.cells #[.int .i64 y] 3) HBw.out.size).trans (hG4.below (Nat.le_trans HBw.out.size (by simp)) HO.out.base))
      clear hO4 hG4 hv
      go_wp2_with fail
      go_roundw
      case rel => exact ⟨i + 1, by go_num, HLT.out, by rw [HTK.out]; exact HO4.out, HB4.out⟩
      case measure => have := HLT.out; (first | (simp [intOf]; done) | (simp [intOf]; omega))
    · have hz : ¬ (i : Int) < (k : Int) := by omega
      have hfin : ((List.range k).map fun j => (placeI (m1, m2) (m + 1) j : Int)).take i = (placesL k (m + 1) l).map fun p : Nat => (p : Int) := by
        rw [List.take_of_length_le (by simp; omega), HPL.out, List.map_map]; rfl
      have HFIN := Lib.hid hfin; clear hfin
      go_wp2_with fail
      go_ret
      exact ⟨_, rfl, by rw [HBL.out, ← HFIN.out]; exact HO.out, HBw.out⟩
set_option maxHeartbeats 1000000 in
theorem rfAdd_any (v : Value) (l : List UInt8) (g k : Nat) (bits : List UInt8) (base : Nat) (w : World) (hf : FlU 131 base w g k bits) (hv : SlB w.heap.size w v l) (hl : l.length ≤ 10000000) (hbase : base ≤ w.heap.size) :
    Calls Tryz.prog 94 #[.pointer (some ⟨g, 0, none⟩), v] w fun e w' => e = .returned (.tuple #[]) ∧ FlU 131 base w' g k (addF k bits l) ∧ Below base w w' := by
  have C := Lib.hid (rfPlaces_any v l g k bits w hf.r hv (by omega))
  have HF := Lib.hid hf
  have hps := placesL_lt k bits.length l hf.b0
  have hk1 := hf.k1
  have hb1 := hf.b1
  have HA := Lib.hid (show addF k bits l = (placesL k bits.length l).foldl setP bits from rfl)
  have hplen : (placesL k bits.length l).length ≤ 16 := by rw [placesL_length]; exact hf.k1
  generalize placesL k bits.length l = ps at *
  clear hf hv
  go_enter Tryz.func94, Tryz.ntmps94
  go_wp2_with fail
  refine C.out.mono ?_
  rintro e w2 ⟨v2, rfl, hO2, hb2⟩
  have HF2 := Lib.hid (HF.out.keep hb2)
  have HB2 := Lib.hid (hb2.mono hbase : Below base w w2)
  have HO2 := Lib.hid hO2
  have hz2 := hb2.size
  obtain ⟨a, c, rfl, hc, hx⟩ := hO2.sl.ex
  have HX := Lib.hid hx
  rw [List.length_map] at hc
  clear hx hO2 hb2 C HF
  have HPS := Lib.hid hps
  clear hps
  rw [List.length_map] at HO2 HX ⊢
  go_wp2_with fail
  go_loopw [10] (fun v10 wr => ∃ i : Nat, v10 = .int .i64 (i : Int) ∧ i ≤ ps.length ∧ FlU 131 base wr g k ((ps.take i).foldl setP bits) ∧ OwnX eI wr w.heap.size (.slice a ps.length c) (ps.map fun p : Nat => (p : Int)) ∧ Below base w wr) (fun v10 _ => ps.length - (intOf v10).toNat)
  case atStart => exact ⟨0, rfl, Nat.zero_le _, HF2.out, HO2.out, HB2.out⟩
  case round =>
    clear HF2 HO2 HB2
    obtain ⟨i, rfl, hi, hF, hO, hB⟩ := hrel
    have HB := Lib.hid hB; clear hB
    by_cases hlt : i < ps.length
    · have hz : (i : Int) < (ps.length : Int) := by omega
      obtain ⟨gl, o, rfl, hgl2, -⟩ := HX.out (by omega)
      have c0 : wr.cell? ⟨gl, o + i, none⟩ = some (.int .i64 (ps[i] : Int)) := by
        have hO' := hO.sl
        have := hO'.cell i 0 (by rw [List.length_map]; exact hlt) (u := .int .i64 (ps[i] : Int)) (by simp [eI])
        rwa [show o + i * eI.size + 0 = o + i from by show o + i * 1 + 0 = _; omega] at this
      have hcur : ((ps.take i).foldl setP bits).length = bits.length := setPs_length _ _
      have htk : (ps.take (i + 1)).foldl setP bits = setP ((ps.take i).foldl setP bits) ps[i] := by rw [List.take_succ_eq_append_getElem hlt, List.foldl_append]; rfl
      have hpl := HPS.out ps[i] (List.getElem_mem hlt)
      have HTK := Lib.hid htk; clear htk
      generalize (ps.take i).foldl setP bits = cur at *
      generalize ps[i] = p at *
      obtain ⟨gb, cb, hfb, hbo⟩ := hF.ex
      obtain ⟨q, hq⟩ : ∃ q : Nat, (p : Int) / 8 = (q : Int) := ⟨p / 8, by omega⟩
      obtain ⟨r, hr⟩ : ∃ r : Nat, (p : Int) % 8 = (r : Int) := ⟨p % 8, by omega⟩
      have hq' : p / 8 = q := by omega
      have hr' : p % 8 = r := by omega
      have hql : q < cur.length := by omega
      have c1 := hfb.cell 1 rfl
      have c2 : wr.cell? ⟨gb, q, none⟩ = some (.int .u8 (cur[q].toNat : Int)) := by
        have := (own_eB.2 hbo).cell q 0 hql (u := .int .u8 (cur[q].toNat : Int)) rfl
        rwa [show q * eB.size + 0 = q from by show q * 1 + 0 = q; omega] at this
      have f2 : wr.frozen? ⟨gb, q, none⟩ = false := (own_eB.2 hbo).frozen q
      have hgd : cur.getD q 0 = cur[q] := by rw [List.getD_eq_getElem?_getD, List.getElem?_eq_getElem hql]; rfl
      have hset : setP cur p = cur.set q (setB cur[q] r) := by unfold setP; rw [hq', hr', hgd]
      have hor := or8 cur[q].toNat r cur[q].toNat_lt (by omega)
      rw [UInt8.ofNat_toNat] at hor
      have hO1 := hbo.set1 q hql (setB cur[q] r)
      have hfb1 := hfb.far (p := ⟨gb, q, none⟩) (hfb.ne_own (own_eB.2 hbo) (by decide) |> fun h e => h (by rw [e]; rfl)) (.int .u8 ((setB cur[q] r).toNat : Int))
      have hOI := hO.grown (Lib.grownBy_setCell wr gb q (.int .u8 ((setB cur[q] r).toNat : Int))) (.inr (by
        intro e
        rcases hO.2 with ⟨h', _⟩ | ⟨g', cap', cur', h', _, hh, _⟩
        · cases h'
        · simp only [Value.slice.injEq, Option.some.injEq, Addr.mk.injEq, and_true] at h'
          obtain ⟨⟨rfl, rfl⟩, -, -⟩ := h'
          simp [Value.ownBlock] at e
          subst e
          rcases hbo.2 with ⟨h'', _⟩ | ⟨g2, cap2, cur2, h'', _, hh2, _⟩
          · simp at h''
          · simp only [Value.slice.injEq, Option.some.injEq, Addr.mk.injEq, and_true, true_and] at h''
            obtain ⟨rfl, -, -⟩ := h''
            rw [hh] at hh2; injection hh2 with hh2; injection hh2 with _ ht; exact absurd ht (by decide)))
      have hgbb : base ≤ gb := hbo.base gb rfl
      have HB1 := Lib.hid (HB.out.setCell (p := ⟨gb, q, none⟩) hgbb (.int .u8 ((setB cur[q] r).toNat : Int)))
      have HF1 : Hid (FlU 131 base (wr.setCell ⟨gb, q, none⟩ (.int .u8 ((setB cur[q] r).toNat : Int))) g k (cur.set q (setB cur[q] r))) := Lib.hid ⟨⟨gb, cb, by rw [List.length_set]; exact hfb1, by rw [List.length_set]; exact hO1⟩, hF.hg, hF.k0, hF.k1, by rw [List.length_set]; exact hF.b0, by rw [List.length_set]; exact hF.b1⟩
      rw [hset] at HTK
      have HOI := Lib.hid hOI
      have hx2 : (setB cur[q] r).toNat < 256 := (setB cur[q] r).toNat_lt
      have hx1 : cur[q].toNat < 256 := cur[q].toNat_lt
      have hr8 : (r : Int) < 8 := by omega
      have hqi : (q : Int) < (cur.length : Int) := by omega
      have HWQ := Lib.hid (show IntKind.i64.wrap (q : Int) = (q : Int) by rw [IntKind.wrap_i64]; omega)
      have HWR := Lib.hid (show IntKind.i64.wrap (r : Int) = (r : Int) by rw [IntKind.wrap_i64]; omega)
      generalize hy : (setB cur[q] r).toNat = y at *
      generalize (setB cur[q] r) = sb at *
      generalize cur[q].toNat = x at *
      have hcc : cur.length ≤ cb := by
        rcases hbo.2 with ⟨h', _⟩ | ⟨g', cap', cur', h', _, _, h1, _⟩
        · simp at h'
        · simp only [Value.slice.injEq, Option.some.injEq, Addr.mk.injEq, and_true, true_and] at h'
          omega
      clear hfb hbo hO1 hfb1 hOI hF hO hq' hr' hgd hset hy hpl hql
      obtain ⟨n, hn⟩ : ∃ n, cur.length = n := ⟨_, rfl⟩
      rw [hn] at c1 hcc hqi hcur
      have hnb : n ≤ 1000000 := by omega
      clear hn hcur
      have HOR := Lib.hid hor; have HLT := Lib.hid hlt; clear hor hi hlt hgl2 hc hx1 hx2
      go_wp2_with fail
      have hq0 : (0 : Int) ≤ (q : Int) := by omega
      have hvy : Go.bits .or .u8 (x : Int) (2 ^ r % 256) = (y : Int) := by
        rw [← HOR.out]
        congr 1
        have : (2 : Nat) ^ r < 256 := Nat.pow_lt_pow_right (a := 2) (by decide) (show r < 8 by omega)
        rw [Int.natCast_pow]
        have h2 : ((2 ^ r : Nat) : Int) < 256 := by exact_mod_cast this
        rw [Int.natCast_pow] at h2
        exact Int.emod_eq_of_lt (Int.pow_nonneg (by decide)) h2
      have hwq : IntKind.i64.wrap (q : Int) = (q : Int) := HWQ.out
      have hwr : IntKind.i64.wrap (r : Int) = (r : Int) := HWR.out
      go_wp2_with fail
      go_roundw
      case rel => exact ⟨i + 1, by go_num, HLT.out, by rw [hvy, HTK.out]; exact HF1.out, by rw [hvy]; exact HOI.out, by rw [hvy]; exact HB1.out⟩
      case measure => have := HLT.out; (first | (simp [intOf]; done) | (simp [intOf]; omega))
    · have hz : ¬ (i : Int) < (ps.length : Int) := by omega
      have hfin : (ps.take i).foldl setP bits = addF k bits l := by rw [List.take_of_length_le (by omega), HA.out]
      rw [hfin] at hF
      go_wp2_with fail
      go_end0
      exact ⟨rfl, hF, HB.out⟩
theorem rfBytes_any (g k : Nat) (bits : List UInt8) (w : World) (hf : FlT 131 w.heap.size w g k bits) :
    Calls Tryz.prog 52 #[.pointer (some ⟨g, 0, none⟩)] w (RetB w.heap.size w (putL k ++ putL bits.length ++ bits)) := by
  have HF := Lib.hid hf
  obtain ⟨v, hb, hs⟩ := hf.ex
  have c0 := hb.cell 0 rfl; have c1 := hb.cell 1 rfl
  have HS := Lib.hid hs
  obtain ⟨a, c, rfl, hc, -⟩ := hs.ex
  have hk1 := hf.k1; have hb1 := hf.b1
  have p1 := putL_len 9 k (by omega); have p2 := putL_len 9 bits.length (by omega)
  have P1 := Lib.hid (fun (W : World) (h : InW w W) => ((rPut_any W.heap.size (.slice none 0 0) [] k W (OwnB.nil _ _) (by omega) (by simp)).mono (R' := fun e w' => ∃ v, e = .returned v ∧ OwnB w' w.heap.size v (putL k) ∧ Below W.heap.size W w') fun e w' ⟨v, a, b, c⟩ => ⟨v, a, b.weaken (Below.size h), c⟩))
  have P2 := Lib.hid (fun (W : World) (v : Value) (h : InW w W) (ho : OwnB W w.heap.size v (putL k)) => ((rPut_any w.heap.size v (putL k) bits.length W ho (by omega) (by omega)).mono (R' := fun e w' => ∃ v, e = .returned v ∧ OwnB w' w.heap.size v (putL k ++ putL bits.length) ∧ Below W.heap.size W w') fun e w' ⟨v, a, b, c⟩ => ⟨v, a, b.weaken (Below.size h), c⟩))
  have HSx := Lib.hid (fun w' (h : InW w w') => show InW w w' ∧ w'.cell? ⟨g, 0, none⟩ = some (.int .i64 (k : Int)) ∧ w'.cell? ⟨g, 1, none⟩ = some (.slice a bits.length c) from ⟨h, cell_keep h c0, cell_keep h c1⟩)
  have hl2 : (putL k ++ putL bits.length).length + bits.length ≤ 140737488355328 := by simp; omega
  have hwk : IntKind.u64.wrap (k : Int) = (k : Int) := by rw [wu64]; omega
  have hwb : IntKind.u64.wrap (bits.length : Int) = (bits.length : Int) := by rw [wu64]; omega
  clear hf hb hs p1 p2
  go_enter Tryz.func52, Tryz.ntmps52
  go_wp2_with fail
  go_region_held3 (fun w' => InW w w' ∧ w'.cell? ⟨g, 0, none⟩ = some (.int .i64 (k : Int)) ∧ w'.cell? ⟨g, 1, none⟩ = some (.slice a bits.length c))
    (first | with_reducible assumption | exact HSx.out _ (InW.drew (InW.refl _)) | exact HSx.out _ (InW.tr (And.left (by with_reducible assumption)) (by with_reducible assumption)) | exact HSx.out _ (InW.grown (And.left (by with_reducible assumption)) (by with_reducible assumption) (fun j hj => OwnB.base hO3 j hj)))
    (first
      | (go_at_call_of 50 k; refine (P1.out _ (And.left (by with_reducible assumption))).mono ?_; rintro e w2 ⟨v2, rfl, hO2, hb2⟩)
      | (go_at_call 50; refine (P2.out _ _ (And.left (by with_reducible assumption)) hO2).mono ?_; rintro e w3 ⟨v3, rfl, hO3, hb3⟩)
      | (refine st_sl (by rfl) (.tmp 15) (.tmp 19) (by rfl) w.heap.size v3 (putL k ++ putL bits.length) w.heap.size (.slice a bits.length c) bits (by rfl) (by rfl) (HS.out.below (And.left (by with_reducible assumption : InW w w3 ∧ _))) hO3 (Below.size (And.left (by with_reducible assumption : InW w w3 ∧ _))) hl2 ?_; intro v4 w4 hO4 hg4))
  go_wp2_with fail
  go_ret
  exact ⟨_, rfl, hO4, And.left (a := InW w w4) (by with_reducible assumption)⟩
theorem rfNew_any (n : Nat) (w : World) (hn : n ≤ 20000) :
    Calls Tryz.prog 93 #[.int .i64 (n : Int), .int .i64 10] w fun e w' => ∃ g, e = .returned (.pointer (some ⟨g, 0, none⟩)) ∧ FlU 131 w.heap.size w' g 7 (newF n) ∧ Below w.heap.size w w' := by
  have hm : (newF n).length = max ((n * 10 + 7) / 8) 1 := by simp [newF]
  have hz : newF n = List.replicate (newF n).length 0 := by simp [newF]
  have HM := Lib.hid hm; have HZ := Lib.hid hz
  have hml : (newF n).length ≤ 1000000 := by rw [hm]; omega
  have hm0 := newF_pos n
  generalize (newF n).length = m at *
  have hi : (if ((n : Int) * 10 + 7) / 8 < 1 then 1 else ((n : Int) * 10 + 7) / 8) = (m : Int) := by split <;> omega
  have hmk : ∀ W, (Instr.makeSlice 29 (.int .i64 (m : Int)) (.int .i64 (m : Int))).run Tryz.prog W = .ok (.slice (some ⟨W.heap.size, 0, none⟩) m m) (W.alloc (.cells (Array.replicate m (.int .u8 0)) 5)) := fun W => (made_full eB 0 rfl rfl rfl W m (by show 1 * m ≤ _; omega) (by omega) .i64).1
  have hown := (made_full eB 0 rfl rfl rfl w m (by show 1 * m ≤ _; omega) (by omega) .i64).2
  rw [← hz] at hown
  have HO := Lib.hid (own_eB.1 hown)
  have fin : ∀ g, g = w.heap.size + 1 → FlU 131 w.heap.size ((w.alloc (.cells (Array.replicate m (.int .u8 0)) 5)).alloc (.cells #[.int .i64 7, .slice (some ⟨w.heap.size, 0, none⟩) m m] 131)) g 7 (newF n) := fun g hg => by
    have hlen : (newF n).length = m := by rw [HZ.out]; simp
    exact ⟨⟨w.heap.size, m, by rw [hlen]; exact blk_at _ _ (by simp; exact hg), by rw [hlen]; exact HO.out.alloc _⟩, by omega, by decide, by decide, by rw [hlen]; exact hm0, by rw [hlen]; exact hml⟩
  have FIN := Lib.hid fin
  by_cases h1 : ((n : Int) * 10 + 7) / 8 < 1
  · rw [if_pos h1] at hi
    obtain rfl : m = 1 := by omega
    have hmk' : ∀ W, (Instr.makeSlice 29 (.int .i64 1) (.int .i64 1)).run Tryz.prog W = .ok (.slice (some ⟨W.heap.size, 0, none⟩) 1 1) (W.alloc (.cells (Array.replicate 1 (.int .u8 0)) 5)) := hmk
    clear hm hz hown hi fin
    go_enter Tryz.func93, Tryz.ntmps93
    go_wp2_with fail
    go_ret
    exact ⟨_, rfl, FIN.out _ rfl, below_alloc (below_alloc (Below.refl _ _) _) _⟩
  · rw [if_neg h1] at hi
    clear hm hz hown fin
    go_enter Tryz.func93, Tryz.ntmps93
    go_wp2_with fail
    go_ret
    exact ⟨_, rfl, FIN.out _ rfl, below_alloc (below_alloc (Below.refl _ _) _) _⟩
end Go.Proofs.YtplghaoflmaadaaGreatDoor
end
