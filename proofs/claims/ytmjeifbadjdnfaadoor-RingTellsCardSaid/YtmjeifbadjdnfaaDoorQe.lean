/- Contracts of the reference's murmur: Sum, Token. Conditions: at most a million bytes; the seed is of uint64. -/
import Derived.Test.YtmjeifbadjdnfaaDoorQd
import Derived.Test.YtmjeifbadjdnfaaDoorQb
set_option linter.unusedVariables false
set_option linter.unusedSimpArgs false
set_option maxRecDepth 50000
namespace Go.Proofs.YtmjeifbadjdnfaaDoor
open Go.RowKit

set_option maxHeartbeats 4000000 in
theorem rSum_any (v : Value) (l : List UInt8) (seed : Int) (B : Nat) (w : World) (hv : SlB B w v l) (hl : l.length ≤ 1000000) (s0 : 0 ≤ seed) (s1 : seed < 18446744073709551616) :
    Calls Tryd.prog 72 #[v, .int .u64 seed] w fun e w' => e = .returned (.tuple #[.int .u64 (mmSum l seed).1, .int .u64 (mmSum l seed).2]) ∧ w = w' := by
  have EI := Lib.hid (fun k (hk : k ≤ l.length) => rEight_any v l k B w hv hl hk)
  have RO := Lib.hid (fun x k h0 h1 hk => rRotl_any x k h0 h1 hk w)
  have MX := Lib.hid (fun x h0 h1 => rMix_any x h0 h1 w)
  obtain ⟨a, cp, rfl, _, _⟩ := hv.ex
  clear hv
  have HR := Lib.hid (show mmSum l seed = mmEnd (l.length : Int) (mmLoop l.length seed seed l) from rfl)
  generalize hRd : mmLoop l.length seed seed l = R at *
  have HRD := Lib.hid hRd; clear hRd
  go_enter Tryd.func72, Tryd.ntmps72
  go_wp2_with fail
  go_loopw [6, 7, 8] (fun vh vg va wr => ∃ (h g : Int) (k n : Nat), vh = .int .u64 h ∧ vg = .int .u64 g ∧ va = .int .i64 (k : Int) ∧ (0 ≤ h ∧ h < 18446744073709551616) ∧ (0 ≤ g ∧ g < 18446744073709551616) ∧ k ≤ l.length ∧ l.length ≤ n + k ∧ wr = w ∧ mmLoop n h g (l.drop k) = R) (fun _ _ va _ => (l.length - (intOf va).toNat))
  case atStart => exact ⟨seed, seed, 0, l.length, rfl, rfl, rfl, ⟨s0, s1⟩, ⟨s0, s1⟩, by omega, by omega, rfl, by rw [List.drop_zero]; exact HRD.out⟩
  case round =>
    obtain ⟨h, g, k, n, rfl, rfl, rfl, hr, gr, hk, hn, rfl, hR⟩ := hrel
    have HRR := Lib.hid hR
    clear hR HRD
    have hdl : (l.drop k).length = l.length - k := List.length_drop
    by_cases h16 : (l.length : Int) - (k : Int) < 16
    · have hst := mmLoop_stop n h g (l.drop k) (by omega)
      rw [hst] at HRR
      have HRE := Lib.hid HRR.out.symm
      clear HRR hst
      have E0 := Lib.hid (EI.out k hk)
      have q16 : ¬ (16 : Int) ≤ (l.length : Int) - (k : Int) := by omega
      have hN : IntKind.u64.wrap (l.length : Int) = (l.length : Int) := by
        simp only [IntKind.wrap, IntKind.signed, IntKind.bits, Bool.false_and]
        simp; omega
      have fin : ∀ h1 g1, (0 ≤ h1 ∧ h1 < 18446744073709551616) → (0 ≤ g1 ∧ g1 < 18446744073709551616) →
          g1 = (if 8 < (l.drop k).length then Go.bits .xor .u64 g (highI ((l.drop k).drop 8)) else g) → h1 = (if 0 < (l.drop k).length then Go.bits .xor .u64 h (lowI (l.drop k)) else h) →
          mmSum l seed = (let h2 := Go.bits .xor .u64 h1 (l.length : Int); let g2 := Go.bits .xor .u64 g1 (l.length : Int); let h3 := IntKind.u64.wrap (h2 + g2); let g3 := IntKind.u64.wrap (g2 + h3); let h4 := mixI h3; let g4 := mixI g3; let h5 := IntKind.u64.wrap (h4 + g4); (h5, IntKind.u64.wrap (g4 + h5))) := by
        intro h1 g1 _ _ e1 e2
        rw [HR.out, HRE.out]
        unfold mmEnd
        simp only
        rw [← e1, ← e2]
      have FIN := Lib.hid fin; clear fin
      have hx1 := bits64 .xor h (lowI (l.drop k))
      have hx2 := bits64 .xor g (highI ((l.drop k).drop 8))
      obtain ⟨h1, hh1⟩ : ∃ h1, Go.bits .xor .u64 h (IntKind.u64.wrap (rotI (IntKind.u64.wrap ((leN ((l.drop k).take 8) : Int) * 9782798678568883157)) 31 * 5545529020109919103)) = h1 := ⟨_, rfl⟩
      obtain ⟨g1, hg1⟩ : ∃ g1, Go.bits .xor .u64 g (IntKind.u64.wrap (rotI (IntKind.u64.wrap ((leN ((l.drop (k + 8)).take 8) : Int) * 5545529020109919103)) 33 * 9782798678568883157)) = g1 := ⟨_, rfl⟩
      have HH1 := Lib.hid hh1; have HG1 := Lib.hid hg1
      have hx1' : 0 ≤ h1 ∧ h1 < 18446744073709551616 := by rw [← hh1]; exact hx1
      have hx2' : 0 ≤ g1 ∧ g1 < 18446744073709551616 := by rw [← hg1]; exact bits64 _ _ _
      have HX1 := Lib.hid hx1'; have HX2 := Lib.hid hx2'; have HRr := Lib.hid hr; have HGr := Lib.hid gr
      clear hh1 hg1 hx1 hx2 hx1' hx2' hr gr
      by_cases h8 : (8 : Int) < (l.length : Int) - (k : Int)
      · have E8 := Lib.hid (EI.out (k + 8) (by omega))
        have F := Lib.hid (FIN.out h1 g1 HX1.out HX2.out (by rw [if_pos (by omega), ← HG1.out, List.drop_drop]; rfl) (by rw [if_pos (by omega), ← HH1.out]; rfl))
        have q0 : (0 : Int) < (l.length : Int) - (k : Int) := by omega
        have e8 := Lib.hid (show (k : Int) + 8 = ((k + 8 : Nat) : Int) by omega)
        clear FIN HR HRE
        go_wp2_with fail
        rw [e8.out]
        refine E8.out.mono ?_
        rintro e w1 ⟨rfl, rfl⟩
        go_wp2_with fail
        refine (RO.out _ 33 (w64_range _).1 (w64_range _).2 (by decide)).mono ?_
        rintro e w1 ⟨rfl, rfl⟩
        go_wp2_with fail
        refine E0.out.mono ?_
        rintro e w1 ⟨rfl, rfl⟩
        go_wp2_with fail
        refine (RO.out _ 31 (w64_range _).1 (w64_range _).2 (by decide)).mono ?_
        rintro e w1 ⟨rfl, rfl⟩
        rw [HG1.out]
        go_wp2_with fail
        rw [HH1.out]
        refine (MX.out _ (w64_range _).1 (w64_range _).2).mono ?_
        rintro e w1 ⟨rfl, rfl⟩
        go_wp2_with fail
        refine (MX.out _ (w64_range _).1 (w64_range _).2).mono ?_
        rintro e w1 ⟨rfl, rfl⟩
        go_wp2_with fail
        go_ret2
        exact ⟨by rw [F.out]; rfl, rfl⟩
      · by_cases h0 : (0 : Int) < (l.length : Int) - (k : Int)
        · have F := Lib.hid (FIN.out h1 g HX1.out HGr.out (by rw [if_neg (by omega)]) (by rw [if_pos (by omega), ← HH1.out]; rfl))
          clear FIN HR HRE
          go_wp2_with fail
          refine E0.out.mono ?_
          rintro e w1 ⟨rfl, rfl⟩
          go_wp2_with fail
          refine (RO.out _ 31 (w64_range _).1 (w64_range _).2 (by decide)).mono ?_
          rintro e w1 ⟨rfl, rfl⟩
          go_wp2_with fail
          rw [HH1.out]
          refine (MX.out _ (w64_range _).1 (w64_range _).2).mono ?_
          rintro e w1 ⟨rfl, rfl⟩
          go_wp2_with fail
          refine (MX.out _ (w64_range _).1 (w64_range _).2).mono ?_
          rintro e w1 ⟨rfl, rfl⟩
          go_wp2_with fail
          go_ret2
          exact ⟨by rw [F.out]; rfl, rfl⟩
        · have F := Lib.hid (FIN.out h g HRr.out HGr.out (by rw [if_neg (by omega)]) (by rw [if_neg (by omega)]))
          clear FIN HR HRE
          go_wp2_with fail
          refine (MX.out _ (w64_range _).1 (w64_range _).2).mono ?_
          rintro e w1 ⟨rfl, rfl⟩
          go_wp2_with fail
          refine (MX.out _ (w64_range _).1 (w64_range _).2).mono ?_
          rintro e w1 ⟨rfl, rfl⟩
          go_wp2_with fail
          go_ret2
          exact ⟨by rw [F.out]; rfl, rfl⟩
    · have hkl : k + 16 ≤ l.length := by omega
      obtain ⟨n, rfl⟩ : ∃ m, n = m + 1 := ⟨n - 1, by omega⟩
      have hgo := mmLoop_go n h g (l.drop k) (by omega)
      rw [hgo, List.drop_drop] at HRR
      have HRE := Lib.hid HRR.out
      clear HRR hgo
      have E0 := Lib.hid (EI.out k hk)
      have E8 := Lib.hid (EI.out (k + 8) (by omega))
      have q16 : (16 : Int) ≤ (l.length : Int) - (k : Int) := by omega
      have e8 := Lib.hid (show (k : Int) + 8 = ((k + 8 : Nat) : Int) by omega)
      have R1 := fun x h0 h1 => RO.out x 31 h0 h1 (by decide)
      have R2 := fun x h0 h1 => RO.out x 27 h0 h1 (by decide)
      have R3 := fun x h0 h1 => RO.out x 33 h0 h1 (by decide)
      have R1' := Lib.hid R1; have R2' := Lib.hid R2; have R3' := Lib.hid R3
      clear R1 R2 R3
      go_wp2_with fail
      refine E0.out.mono ?_
      rintro e w1 ⟨rfl, rfl⟩
      go_wp2_with fail
      rw [e8.out]
      refine E8.out.mono ?_
      rintro e w1 ⟨rfl, rfl⟩
      go_wp2_with fail
      refine (R1'.out _ (w64_range _).1 (w64_range _).2).mono ?_
      rintro e w1 ⟨rfl, rfl⟩
      go_wp2_with fail
      refine (R2'.out _ (bits64 _ _ _).1 (bits64 _ _ _).2).mono ?_
      rintro e w1 ⟨rfl, rfl⟩
      go_wp2_with fail
      refine (R3'.out _ (w64_range _).1 (w64_range _).2).mono ?_
      rintro e w1 ⟨rfl, rfl⟩
      go_wp2_with fail
      refine (R1'.out _ (bits64 _ _ _).1 (bits64 _ _ _).2).mono ?_
      rintro e w1 ⟨rfl, rfl⟩
      go_wp2_with fail
      go_roundw
      case rel => exact ⟨_, _, k + 16, n, rfl, rfl, by first | rfl | go_num | (congr 1; omega), w64_range _, w64_range _, by omega, by omega, trivial, by have hh := HRE.out; unfold mmStep lowI highI at hh; simp only [List.drop_drop] at hh; exact hh⟩
      case measure => simp [intOf]; omega
end Go.Proofs.YtmjeifbadjdnfaaDoor
