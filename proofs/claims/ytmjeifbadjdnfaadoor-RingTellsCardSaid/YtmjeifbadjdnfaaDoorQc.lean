/- Contract of murmur's Sum. Conditions: at most a million bytes; the seed is of uint64. -/
import Derived.Test.YtmjeifbadjdnfaaDoorQb
import Derived.Outline
set_option linter.unusedVariables false
set_option linter.unusedSimpArgs false
set_option maxRecDepth 50000
namespace Go.Proofs.YtmjeifbadjdnfaaDoor
open Go.RowKit

def lenOf : Value → Nat
  | .slice _ n _ => n
  | _ => 0
theorem lowI_range (l : List UInt8) : 0 ≤ lowI l ∧ lowI l < 18446744073709551616 := w64_range _
theorem highI_range (l : List UInt8) : 0 ≤ highI l ∧ highI l < 18446744073709551616 := w64_range _
theorem rotI_range (x : Int) (k : Nat) : 0 ≤ rotI x k ∧ rotI x k < 18446744073709551616 := bits64 _ _ _

theorem mixI_range (x : Int) : 0 ≤ mixI x ∧ mixI x < 18446744073709551616 := by unfold mixI; exact bits64 _ _ _
theorem HG.drew {gh gg : Nat} {W : World} {h g : Int} (hh : HG gh gg W h g) : HG gh gg W.drew h g := ⟨hh.h0, hh.g0, hh.fh, hh.fg, hh.hr, hh.gr, hh.hne⟩

set_option maxHeartbeats 4000000 in
theorem Sum_any (v : Value) (l : List UInt8) (seed : Int) (w : World) (hv : SlB w.heap.size w v l) (hl : l.length ≤ 1000000) (s0 : 0 ≤ seed) (s1 : seed < 18446744073709551616) :
    Calls Tryd.prog 68 #[v, .int .u64 seed] w fun e w' => e = .returned (.tuple #[.int .u64 (mmSum l seed).1, .int .u64 (mmSum l seed).2]) ∧ Below w.heap.size w w' := by
  have HV := Lib.hid hv
  obtain ⟨a, cp, rfl, _, _⟩ := hv.ex
  clear hv
  have LO := Lib.hid (fun W v b (h : SlB w.heap.size W v b) (hb : b.length ≤ 1000000) => low_any v b w.heap.size W h hb)
  have HI := Lib.hid (fun W v b (h : SlB w.heap.size W v b) (hb : b.length ≤ 1000000) => high_any v b w.heap.size W h hb)
  have RO := Lib.hid (fun W x k h0 h1 hk => rot_any x k h0 h1 hk W)
  go_enter Tryd.func68, Tryd.ntmps68
  go_wp2_with fail
  go_step3
  go_wp2_with fail
  go_step3
  go_wp2_with fail
  have b1 := (Blk.new w 77 #[.int .u64 seed]).alloc (.cells #[.int .u64 seed] 77)
  have b2 := Blk.new (w.alloc (.cells #[.int .u64 seed] 77)) 77 #[.int .u64 seed]
  have hsz : (w.alloc (.cells #[.int .u64 seed] 77)).heap.size = w.heap.size + 1 := by simp
  rw [hsz] at b2
  have HG0 := Lib.hid (show HG w.heap.size (w.heap.size + 1) _ seed seed from ⟨b1.cell 0 rfl, b2.cell 0 rfl, b1.frozen 0, b2.frozen 0, ⟨s0, s1⟩, ⟨s0, s1⟩, by omega⟩)
  have HB0 := Lib.hid (below_alloc (below_alloc (Below.refl _ w) (.cells #[.int .u64 seed] 77)) (.cells #[.int .u64 seed] 77))
  clear b1 b2 hsz
  generalize (w.alloc (.cells #[.int .u64 seed] 77)).alloc (.cells #[.int .u64 seed] 77) = W0 at *
  have HR := Lib.hid (show mmSum l seed = mmEnd (l.length : Int) (mmLoop l.length seed seed l) from rfl)
  generalize hRd : mmLoop l.length seed seed l = R at *
  have HRD := Lib.hid hRd; clear hRd
  go_loopw [8] (fun vr wr => ∃ (h g : Int) (b : List UInt8) (n : Nat), HG w.heap.size (w.heap.size + 1) wr h g ∧ SlB w.heap.size wr vr b ∧ Below w.heap.size w wr ∧ b.length ≤ n ∧ b.length ≤ 1000000 ∧ mmLoop n h g b = R) (fun vr _ => lenOf vr)
  case atStart => exact ⟨seed, seed, l, l.length, HG0.out, HV.out.below HB0.out, HB0.out, Nat.le_refl _, hl, HRD.out⟩
  case round =>
    obtain ⟨h, g, b, n, hg, hs, hB, hbn, hbl, hR⟩ := hrel
    have HS := Lib.hid hs
    obtain ⟨ab, cb, rfl, _, hxb⟩ := hs.ex
    have HXB := Lib.hid hxb
    clear hs hxb
    have HH := Lib.hid hg; have HBB := Lib.hid hB; have HRR := Lib.hid hR
    clear hR hB HRD HG0 HB0
    by_cases h16 : b.length < 16
    · have hst := mmLoop_stop n h g b h16
      rw [hst] at HRR
      have HRE := Lib.hid HRR.out.symm
      clear HRR hst
      have fin : ∀ h1 g1, g1 = (if 8 < b.length then Go.bits .xor .u64 g (highI (b.drop 8)) else g) → h1 = (if 0 < b.length then Go.bits .xor .u64 h (lowI b) else h) →
          mmSum l seed = (let h2 := Go.bits .xor .u64 h1 (l.length : Int); let g2 := Go.bits .xor .u64 g1 (l.length : Int); let h3 := IntKind.u64.wrap (h2 + g2); let g3 := IntKind.u64.wrap (g2 + h3); let h4 := mixI h3; let g4 := mixI g3; let h5 := IntKind.u64.wrap (h4 + g4); (h5, IntKind.u64.wrap (g4 + h5))) := by
        intro h1 g1 e1 e2
        rw [HR.out, HRE.out]
        unfold mmEnd
        simp only
        rw [← e1, ← e2]
      have FIN := Lib.hid fin; clear fin
      have hN : IntKind.u64.wrap (l.length : Int) = (l.length : Int) := by
        simp only [IntKind.wrap, IntKind.signed, IntKind.bits, Bool.false_and]
        simp; omega
      have hx1 := bits64 .xor h (lowI b)
      have hx2 := bits64 .xor g (highI (b.drop 8))
      have H2p := Lib.hid ((HH.out.put.2 _ hx2.1 hx2.2).drew)
      have B2p := Lib.hid ((HBB.out.setCell (p := ⟨w.heap.size + 1, 0, none⟩) (Nat.le_succ _) (.int .u64 (Go.bits .xor .u64 g (highI (b.drop 8))))).drew)
      have K2p := Lib.hid (((Below.refl w.heap.size wr).setCell (p := ⟨w.heap.size + 1, 0, none⟩) (Nat.le_succ _) (.int .u64 (Go.bits .xor .u64 g (highI (b.drop 8))))).drew)
      obtain ⟨h1, hh1⟩ : ∃ h1, Go.bits .xor .u64 h (lowI b) = h1 := ⟨_, rfl⟩
      obtain ⟨g1, hg1⟩ : ∃ g1, Go.bits .xor .u64 g (highI (b.drop 8)) = g1 := ⟨_, rfl⟩
      have hx1' : 0 ≤ h1 ∧ h1 < 18446744073709551616 := by rw [← hh1]; exact hx1
      rw [hg1] at H2p B2p K2p
      have HH1 := Lib.hid hh1; have HG1 := Lib.hid hg1; have HX1 := Lib.hid hx1'
      clear hh1 hg1 hx1 hx2 hx1'
      obtain ⟨h0, g0, fh, fg, hr, gr, hne⟩ := hg
      by_cases h8 : 8 < b.length
      · have F := Lib.hid (FIN.out h1 g1 (by rw [if_pos h8, HG1.out]) (by rw [if_pos (by omega), HH1.out]))
        clear FIN HR HRE
        have q8 : (8 : Int) < (b.length : Int) := by omega
        have q0 : (0 : Int) < (b.length : Int) := by omega
        have q16 : (b.length : Int) < 16 := by omega
        have cr : ∀ W, (Instr.slice 105 (.slice ab b.length cb) (some (.int .i64 8)) none none).run Tryd.prog W = .ok (cutV (.slice ab b.length cb) 8) W := fun W => HS.out.cut_run 8 (by omega) W
        obtain ⟨a8, n8, c8, hv8⟩ : ∃ a8 n8 c8, cutV (.slice ab b.length cb) 8 = .slice a8 n8 c8 := ⟨_, _, _, rfl⟩
        have S8 := HS.out.cut 8 (by omega)
        rw [hv8] at S8
        simp only [hv8] at cr
        have S8' := Lib.hid S8; clear S8 hv8
        go_wp2_with fail
        apply meet_once
        · intro KK
          go_region_law (go_simp; go_at_call 92; refine (HI.out _ _ (b.drop 8) (S8'.out.below (by repeat (first | exact Below.refl _ _ | refine Below.drew ?_))) (by rw [List.length_drop]; omega)).mono ?_; rintro e w5 ⟨rfl, rfl⟩)
          all_goals exact KK.out
        rw [HG1.out]
        clear h0 g0 fh fg hr gr cr
        have S4 := Lib.hid (HS.out.below K2p.out)
        generalize (wr.setCell ⟨w.heap.size + 1, 0, none⟩ (.int .u64 g1)).drew = W4 at *
        obtain ⟨h0, g0, fh, fg, hr, gr, hne'⟩ := H2p.out
        have H5 := Lib.hid ((H2p.out.put.1 _ HX1.out.1 HX1.out.2).drew)
        have B5 := Lib.hid ((B2p.out.setCell (p := ⟨w.heap.size, 0, none⟩) (Nat.le_refl _) (.int .u64 h1)).drew)
        go_wp2_with fail
        apply meet_once
        · intro KK
          go_region_law (go_simp; go_at_call 91; refine (LO.out _ _ b (S4.out.below (by repeat (first | exact Below.refl _ _ | refine Below.drew ?_))) hbl).mono ?_; rintro e w5 ⟨rfl, rfl⟩)
          all_goals exact KK.out
        rw [HH1.out]
        clear h0 g0 fh fg hr gr
        generalize (W4.setCell ⟨w.heap.size, 0, none⟩ (.int .u64 h1)).drew = W5 at *
        have HA := Lib.hid (fun W x y (hh : HG w.heap.size (w.heap.size + 1) W x y) => add_any w.heap.size (w.heap.size + 1) x y W hh)
        obtain ⟨h0, g0, fh, fg, hr, gr, hne⟩ := H5.out
        have hx2 := bits64 .xor h1 (l.length : Int)
        have gx2 := bits64 .xor g1 (l.length : Int)
        have H6 := Lib.hid (((H5.out.put.1 _ hx2.1 hx2.2).put.2 _ gx2.1 gx2.2).drew)
        have B6 := Lib.hid (((B5.out.setCell (p := ⟨w.heap.size, 0, none⟩) (Nat.le_refl _) (.int .u64 (Go.bits .xor .u64 h1 (l.length : Int)))).setCell (p := ⟨w.heap.size + 1, 0, none⟩) (Nat.le_succ _) (.int .u64 (Go.bits .xor .u64 g1 (l.length : Int)))).drew)
        go_wp2_with fail
        apply meet_once
        · intro KK
          go_region_law (fail)
          all_goals exact KK.out
        clear h0 g0 fh fg hr gr hx2 gx2
        generalize hh2 : Go.bits .xor .u64 h1 (l.length : Int) = h2 at *
        generalize hg2 : Go.bits .xor .u64 g1 (l.length : Int) = g2 at *
        have HH2 := Lib.hid hh2; have HG2 := Lib.hid hg2
        clear hh2 hg2
        generalize ((W5.setCell ⟨w.heap.size, 0, none⟩ (.int .u64 h2)).setCell ⟨w.heap.size + 1, 0, none⟩ (.int .u64 g2)).drew = W6 at *
        go_wp2_with fail
        refine (HA.out W6 _ _ H6.out).mono ?_
        rintro e W7 ⟨rfl, H7, U7⟩
        have B7 := Lib.hid (B6.out.trans (U7.below B6.out.size (by rintro k (rfl | rfl) <;> omega)))
        have H7' := Lib.hid H7
        obtain ⟨h0, g0, fh, fg, hr, gr, hne⟩ := H7
        generalize hh3 : IntKind.u64.wrap (h2 + g2) = h3 at *
        generalize hg3 : IntKind.u64.wrap (g2 + h3) = g3 at *
        have HH3 := Lib.hid hh3; have HG3 := Lib.hid hg3
        clear hh3 hg3 U7
        have M1 := Lib.hid (fun W => Mix_any h3 hr.1 hr.2 W)
        have M2 := Lib.hid (fun W => Mix_any g3 gr.1 gr.2 W)
        have rx := mixI_range h3
        have ry := mixI_range g3
        have H8 := Lib.hid (((H7'.out.put.1 _ rx.1 rx.2).put.2 _ ry.1 ry.2).drew)
        have B8 := Lib.hid (((B7.out.setCell (p := ⟨w.heap.size, 0, none⟩) (Nat.le_refl _) (.int .u64 (mixI h3))).setCell (p := ⟨w.heap.size + 1, 0, none⟩) (Nat.le_succ _) (.int .u64 (mixI g3))).drew)
        generalize hh4 : mixI h3 = h4 at *
        generalize hg4 : mixI g3 = g4 at *
        have HH4 := Lib.hid hh4; have HG4 := Lib.hid hg4
        clear hh4 hg4 rx ry
        go_wp2_with fail
        apply meet_once
        · intro KK
          go_region_law (go_simp; go_at_call 94; (first | with_reducible refine (M1.out _).mono ?_ | with_reducible refine (M2.out _).mono ?_); rintro e w6 ⟨rfl, rfl⟩)
          all_goals exact KK.out
        clear h0 g0 fh fg hr gr M1 M2
        generalize ((W7.setCell ⟨w.heap.size, 0, none⟩ (.int .u64 h4)).setCell ⟨w.heap.size + 1, 0, none⟩ (.int .u64 g4)).drew = W8 at *
        go_wp2_with fail
        refine (HA.out W8 _ _ H8.out).mono ?_
        rintro e W9 ⟨rfl, H9, U9⟩
        have B9 := Lib.hid (B8.out.trans (U9.below B8.out.size (by rintro k (rfl | rfl) <;> omega)))
        obtain ⟨h0, g0, fh, fg, hr, gr, hne⟩ := H9
        generalize hh5 : IntKind.u64.wrap (h4 + g4) = h5 at *
        generalize hg5 : IntKind.u64.wrap (g4 + h5) = g5 at *
        have HH5 := Lib.hid hh5; have HG5 := Lib.hid hg5
        clear hh5 hg5 U9
        go_wp2_with fail
        apply meet_once
        · intro KK
          go_region_law (fail)
          all_goals exact KK.out
        go_wp2_with fail
        rw [Exit.noGoto_ret]
        go_ret2
        refine ⟨?_, B9.out.drew⟩
        have FF : mmSum l seed = (h5, g5) := by rw [F.out]
        rw [FF]
        rfl
      · by_cases hz : 0 < b.length
        · have F := Lib.hid (FIN.out h1 g (by rw [if_neg h8]) (by rw [if_pos hz, HH1.out]))
          clear FIN HR HRE
          have q8 : ¬ (8 : Int) < (b.length : Int) := by omega
          have q0 : (0 : Int) < (b.length : Int) := by omega
          have q16 : (b.length : Int) < 16 := by omega
          have H5 := Lib.hid ((HH.out.put.1 _ HX1.out.1 HX1.out.2).drew)
          have B5 := Lib.hid ((HBB.out.setCell (p := ⟨w.heap.size, 0, none⟩) (Nat.le_refl _) (.int .u64 h1)).drew)
          go_wp2_with fail
          apply meet_once
          · intro KK
            go_region_law (go_simp; go_at_call 91; refine (LO.out _ _ b (HS.out.below (by repeat (first | exact Below.refl _ _ | refine Below.drew ?_))) hbl).mono ?_; rintro e w5 ⟨rfl, rfl⟩)
            all_goals exact KK.out
          rw [HH1.out]
          clear h0 g0 fh fg hr gr
          generalize (wr.setCell ⟨w.heap.size, 0, none⟩ (.int .u64 h1)).drew = W5 at *
          clear g1 HG1 H2p B2p K2p
          generalize g = g1 at *
          have HA := Lib.hid (fun W x y (hh : HG w.heap.size (w.heap.size + 1) W x y) => add_any w.heap.size (w.heap.size + 1) x y W hh)
          obtain ⟨h0, g0, fh, fg, hr, gr, hne⟩ := H5.out
          have hx2 := bits64 .xor h1 (l.length : Int)
          have gx2 := bits64 .xor g1 (l.length : Int)
          have H6 := Lib.hid (((H5.out.put.1 _ hx2.1 hx2.2).put.2 _ gx2.1 gx2.2).drew)
          have B6 := Lib.hid (((B5.out.setCell (p := ⟨w.heap.size, 0, none⟩) (Nat.le_refl _) (.int .u64 (Go.bits .xor .u64 h1 (l.length : Int)))).setCell (p := ⟨w.heap.size + 1, 0, none⟩) (Nat.le_succ _) (.int .u64 (Go.bits .xor .u64 g1 (l.length : Int)))).drew)
          go_wp2_with fail
          apply meet_once
          · intro KK
            go_region_law (fail)
            all_goals exact KK.out
          clear h0 g0 fh fg hr gr hx2 gx2
          generalize hh2 : Go.bits .xor .u64 h1 (l.length : Int) = h2 at *
          generalize hg2 : Go.bits .xor .u64 g1 (l.length : Int) = g2 at *
          have HH2 := Lib.hid hh2; have HG2 := Lib.hid hg2
          clear hh2 hg2
          generalize ((W5.setCell ⟨w.heap.size, 0, none⟩ (.int .u64 h2)).setCell ⟨w.heap.size + 1, 0, none⟩ (.int .u64 g2)).drew = W6 at *
          go_wp2_with fail
          refine (HA.out W6 _ _ H6.out).mono ?_
          rintro e W7 ⟨rfl, H7, U7⟩
          have B7 := Lib.hid (B6.out.trans (U7.below B6.out.size (by rintro k (rfl | rfl) <;> omega)))
          have H7' := Lib.hid H7
          obtain ⟨h0, g0, fh, fg, hr, gr, hne⟩ := H7
          generalize hh3 : IntKind.u64.wrap (h2 + g2) = h3 at *
          generalize hg3 : IntKind.u64.wrap (g2 + h3) = g3 at *
          have HH3 := Lib.hid hh3; have HG3 := Lib.hid hg3
          clear hh3 hg3 U7
          have M1 := Lib.hid (fun W => Mix_any h3 hr.1 hr.2 W)
          have M2 := Lib.hid (fun W => Mix_any g3 gr.1 gr.2 W)
          have rx := mixI_range h3
          have ry := mixI_range g3
          have H8 := Lib.hid (((H7'.out.put.1 _ rx.1 rx.2).put.2 _ ry.1 ry.2).drew)
          have B8 := Lib.hid (((B7.out.setCell (p := ⟨w.heap.size, 0, none⟩) (Nat.le_refl _) (.int .u64 (mixI h3))).setCell (p := ⟨w.heap.size + 1, 0, none⟩) (Nat.le_succ _) (.int .u64 (mixI g3))).drew)
          generalize hh4 : mixI h3 = h4 at *
          generalize hg4 : mixI g3 = g4 at *
          have HH4 := Lib.hid hh4; have HG4 := Lib.hid hg4
          clear hh4 hg4 rx ry
          go_wp2_with fail
          apply meet_once
          · intro KK
            go_region_law (go_simp; go_at_call 94; (first | with_reducible refine (M1.out _).mono ?_ | with_reducible refine (M2.out _).mono ?_); rintro e w6 ⟨rfl, rfl⟩)
            all_goals exact KK.out
          clear h0 g0 fh fg hr gr M1 M2
          generalize ((W7.setCell ⟨w.heap.size, 0, none⟩ (.int .u64 h4)).setCell ⟨w.heap.size + 1, 0, none⟩ (.int .u64 g4)).drew = W8 at *
          go_wp2_with fail
          refine (HA.out W8 _ _ H8.out).mono ?_
          rintro e W9 ⟨rfl, H9, U9⟩
          have B9 := Lib.hid (B8.out.trans (U9.below B8.out.size (by rintro k (rfl | rfl) <;> omega)))
          obtain ⟨h0, g0, fh, fg, hr, gr, hne⟩ := H9
          generalize hh5 : IntKind.u64.wrap (h4 + g4) = h5 at *
          generalize hg5 : IntKind.u64.wrap (g4 + h5) = g5 at *
          have HH5 := Lib.hid hh5; have HG5 := Lib.hid hg5
          clear hh5 hg5 U9
          go_wp2_with fail
          apply meet_once
          · intro KK
            go_region_law (fail)
            all_goals exact KK.out
          go_wp2_with fail
          rw [Exit.noGoto_ret]
          go_ret2
          refine ⟨?_, B9.out.drew⟩
          have FF : mmSum l seed = (h5, g5) := by rw [F.out]
          rw [FF]
          rfl
        · have F := Lib.hid (FIN.out h g (by rw [if_neg h8]) (by rw [if_neg hz]))
          clear FIN HR HRE
          have q8 : ¬ (8 : Int) < (b.length : Int) := by omega
          have q0 : ¬ (0 : Int) < (b.length : Int) := by omega
          have q16 : (b.length : Int) < 16 := by omega
          have H5 := HH
          have B5 := HBB
          clear h0 g0 fh fg hr gr g1 HG1 H2p B2p K2p h1 HH1 HX1
          generalize g = g1 at *
          generalize h = h1 at *
          have HA := Lib.hid (fun W x y (hh : HG w.heap.size (w.heap.size + 1) W x y) => add_any w.heap.size (w.heap.size + 1) x y W hh)
          obtain ⟨h0, g0, fh, fg, hr, gr, hne⟩ := H5.out
          have hx2 := bits64 .xor h1 (l.length : Int)
          have gx2 := bits64 .xor g1 (l.length : Int)
          have H6 := Lib.hid (((H5.out.put.1 _ hx2.1 hx2.2).put.2 _ gx2.1 gx2.2).drew)
          have B6 := Lib.hid (((B5.out.setCell (p := ⟨w.heap.size, 0, none⟩) (Nat.le_refl _) (.int .u64 (Go.bits .xor .u64 h1 (l.length : Int)))).setCell (p := ⟨w.heap.size + 1, 0, none⟩) (Nat.le_succ _) (.int .u64 (Go.bits .xor .u64 g1 (l.length : Int)))).drew)
          go_wp2_with fail
          apply meet_once
          · intro KK
            go_region_law (fail)
            all_goals exact KK.out
          clear h0 g0 fh fg hr gr hx2 gx2
          generalize hh2 : Go.bits .xor .u64 h1 (l.length : Int) = h2 at *
          generalize hg2 : Go.bits .xor .u64 g1 (l.length : Int) = g2 at *
          have HH2 := Lib.hid hh2; have HG2 := Lib.hid hg2
          clear hh2 hg2
          generalize ((wr.setCell ⟨w.heap.size, 0, none⟩ (.int .u64 h2)).setCell ⟨w.heap.size + 1, 0, none⟩ (.int .u64 g2)).drew = W6 at *
          go_wp2_with fail
          refine (HA.out W6 _ _ H6.out).mono ?_
          rintro e W7 ⟨rfl, H7, U7⟩
          have B7 := Lib.hid (B6.out.trans (U7.below B6.out.size (by rintro k (rfl | rfl) <;> omega)))
          have H7' := Lib.hid H7
          obtain ⟨h0, g0, fh, fg, hr, gr, hne⟩ := H7
          generalize hh3 : IntKind.u64.wrap (h2 + g2) = h3 at *
          generalize hg3 : IntKind.u64.wrap (g2 + h3) = g3 at *
          have HH3 := Lib.hid hh3; have HG3 := Lib.hid hg3
          clear hh3 hg3 U7
          have M1 := Lib.hid (fun W => Mix_any h3 hr.1 hr.2 W)
          have M2 := Lib.hid (fun W => Mix_any g3 gr.1 gr.2 W)
          have rx := mixI_range h3
          have ry := mixI_range g3
          have H8 := Lib.hid (((H7'.out.put.1 _ rx.1 rx.2).put.2 _ ry.1 ry.2).drew)
          have B8 := Lib.hid (((B7.out.setCell (p := ⟨w.heap.size, 0, none⟩) (Nat.le_refl _) (.int .u64 (mixI h3))).setCell (p := ⟨w.heap.size + 1, 0, none⟩) (Nat.le_succ _) (.int .u64 (mixI g3))).drew)
          generalize hh4 : mixI h3 = h4 at *
          generalize hg4 : mixI g3 = g4 at *
          have HH4 := Lib.hid hh4; have HG4 := Lib.hid hg4
          clear hh4 hg4 rx ry
          go_wp2_with fail
          apply meet_once
          · intro KK
            go_region_law (go_simp; go_at_call 94; (first | with_reducible refine (M1.out _).mono ?_ | with_reducible refine (M2.out _).mono ?_); rintro e w6 ⟨rfl, rfl⟩)
            all_goals exact KK.out
          clear h0 g0 fh fg hr gr M1 M2
          generalize ((W7.setCell ⟨w.heap.size, 0, none⟩ (.int .u64 h4)).setCell ⟨w.heap.size + 1, 0, none⟩ (.int .u64 g4)).drew = W8 at *
          go_wp2_with fail
          refine (HA.out W8 _ _ H8.out).mono ?_
          rintro e W9 ⟨rfl, H9, U9⟩
          have B9 := Lib.hid (B8.out.trans (U9.below B8.out.size (by rintro k (rfl | rfl) <;> omega)))
          obtain ⟨h0, g0, fh, fg, hr, gr, hne⟩ := H9
          generalize hh5 : IntKind.u64.wrap (h4 + g4) = h5 at *
          generalize hg5 : IntKind.u64.wrap (g4 + h5) = g5 at *
          have HH5 := Lib.hid hh5; have HG5 := Lib.hid hg5
          clear hh5 hg5 U9
          go_wp2_with fail
          apply meet_once
          · intro KK
            go_region_law (fail)
            all_goals exact KK.out
          go_wp2_with fail
          rw [Exit.noGoto_ret]
          go_ret2
          refine ⟨?_, B9.out.drew⟩
          have FF : mmSum l seed = (h5, g5) := by rw [F.out]
          rw [FF]
          rfl
    · obtain ⟨h0, g0, fh, fg, hr, gr, hne⟩ := hg
      obtain ⟨n, rfl⟩ : ∃ m, n = m + 1 := ⟨n - 1, by omega⟩
      have hgo := mmLoop_go n h g b h16
      rw [hgo] at HRR
      have HRE := Lib.hid HRR.out
      clear HRR hgo
      have q16 : ¬ (b.length : Int) < 16 := by omega
      have hx := bits64 .xor h (lowI b)
      have R1 := Lib.hid (fun W => RO.out W _ 27 hx.1 hx.2 (by decide))
      go_wp2_with fail
      apply meet_once
      · intro KK
        go_region_law (first
          | (go_simp; go_at_call 91; refine (LO.out _ _ b (HS.out.below (by repeat (first | exact Below.refl _ _ | refine Below.drew ?_))) hbl).mono ?_; rintro e w5 ⟨rfl, rfl⟩)
          | (go_simp; go_at_call 90; refine (R1.out _).mono ?_; rintro e w6 ⟨rfl, rfl⟩))
        all_goals exact KK.out
      have hp := w64_range (IntKind.u64.wrap (IntKind.u64.wrap (rotI (Go.bits .xor .u64 h (lowI b)) 27 + g) * 5) + 1390208809)
      have H3 := Lib.hid (((HH.out.put).1 _ hp.1 hp.2).drew)
      have B3 := Lib.hid ((HBB.out.setCell (p := ⟨w.heap.size, 0, none⟩) (Nat.le_refl _) (.int .u64 (IntKind.u64.wrap (IntKind.u64.wrap (IntKind.u64.wrap (rotI (Go.bits .xor .u64 h (lowI b)) 27 + g) * 5) + 1390208809)))).drew)
      have S3 := Lib.hid (HS.out.below (((Below.refl w.heap.size wr).setCell (p := ⟨w.heap.size, 0, none⟩) (Nat.le_refl _) (.int .u64 (IntKind.u64.wrap (IntKind.u64.wrap (IntKind.u64.wrap (rotI (Go.bits .xor .u64 h (lowI b)) 27 + g) * 5) + 1390208809)))).drew))
      clear h0 g0 fh fg hr gr hp R1
      have E1 := Lib.hid (show (mmStep h g b).1 = IntKind.u64.wrap (IntKind.u64.wrap (IntKind.u64.wrap (rotI (Go.bits .xor .u64 h (lowI b)) 27 + g) * 5) + 1390208809) from rfl)
      have E2 := Lib.hid (show (mmStep h g b).2 = IntKind.u64.wrap (IntKind.u64.wrap (IntKind.u64.wrap (rotI (Go.bits .xor .u64 g (highI (b.drop 8))) 31 + (mmStep h g b).1) * 5) + 944331445) from rfl)
      rw [← E1.out] at H3 B3 S3 ⊢
      generalize (mmStep h g b).1 = h' at *
      generalize (mmStep h g b).2 = g' at *
      generalize (wr.setCell ⟨w.heap.size, 0, none⟩ (.int .u64 h')).drew = W3 at *
      obtain ⟨h0, g0, fh, fg, hr, gr, hne⟩ := H3.out
      have hx := bits64 .xor g (highI (b.drop 8))
      have R2 := Lib.hid (fun W => RO.out W _ 31 hx.1 hx.2 (by decide))
      have cr : ∀ W, (Instr.slice 105 (.slice ab b.length cb) (some (.int .i64 8)) none none).run Tryd.prog W = .ok (cutV (.slice ab b.length cb) 8) W := fun W => HS.out.cut_run 8 (by omega) W
      obtain ⟨a8, n8, c8, hv8⟩ : ∃ a8 n8 c8, cutV (.slice ab b.length cb) 8 = .slice a8 n8 c8 := ⟨_, _, _, rfl⟩
      have S8 := S3.out.cut 8 (by omega)
      rw [hv8] at S8
      simp only [hv8] at cr
      have S8' := Lib.hid S8; clear S8 hv8
      have cr16 : ∀ W, (Instr.slice 105 (.slice ab b.length cb) (some (.int .i64 16)) none none).run Tryd.prog W = .ok (cutV (.slice ab b.length cb) 16) W := fun W => HS.out.cut_run 16 (by omega) W
      obtain ⟨a16, n16, c16, hv16⟩ : ∃ a8 n8 c8, cutV (.slice ab b.length cb) 16 = .slice a8 n8 c8 := ⟨_, _, _, rfl⟩
      have S16 := S3.out.cut 16 (by omega)
      rw [hv16] at S16
      simp only [hv16] at cr16
      have S16' := Lib.hid S16; clear S16 hv16
      go_wp2_with fail
      apply meet_once
      · intro KK
        go_region_law (first
          | (go_simp; go_at_call 92; refine (HI.out _ _ (b.drop 8) (S8'.out.below (by repeat (first | exact Below.refl _ _ | refine Below.drew ?_))) (by rw [List.length_drop]; omega)).mono ?_; rintro e w5 ⟨rfl, rfl⟩)
          | (go_simp; go_at_call 90; refine (R2.out _).mono ?_; rintro e w6 ⟨rfl, rfl⟩))
        all_goals exact KK.out
      have hp := w64_range (IntKind.u64.wrap (IntKind.u64.wrap (rotI (Go.bits .xor .u64 g (highI (b.drop 8))) 31 + h') * 5) + 944331445)
      have H4 := Lib.hid (((H3.out.put).2 _ hp.1 hp.2).drew)
      have B4 := Lib.hid ((B3.out.setCell (p := ⟨w.heap.size + 1, 0, none⟩) (Nat.le_succ _) (.int .u64 (IntKind.u64.wrap (IntKind.u64.wrap (IntKind.u64.wrap (rotI (Go.bits .xor .u64 g (highI (b.drop 8))) 31 + h') * 5) + 944331445)))).drew)
      have S4 := Lib.hid (S16'.out.below (((Below.refl w.heap.size W3).setCell (p := ⟨w.heap.size + 1, 0, none⟩) (Nat.le_succ _) (.int .u64 (IntKind.u64.wrap (IntKind.u64.wrap (IntKind.u64.wrap (rotI (Go.bits .xor .u64 g (highI (b.drop 8))) 31 + h') * 5) + 944331445)))).drew))
      clear h0 g0 fh fg hr gr hp R2
      rw [← E2.out] at H4 B4 S4 ⊢
      generalize (W3.setCell ⟨w.heap.size + 1, 0, none⟩ (.int .u64 g')).drew = W4 at *
      have hn16 : n16 = (b.drop 16).length := by
        obtain ⟨_, _, e, _⟩ := S4.out.ex
        injection e
      go_wp2_with fail
      go_roundw
      case rel => exact ⟨h', g', b.drop 16, n, H4.out, by first | exact S4.out | (rw [List.length_drop] at hn16; rw [← hn16]; exact S4.out), B4.out, by rw [List.length_drop]; omega, by rw [List.length_drop]; omega, HRE.out⟩
      case measure => (first | (simp only [lenOf]; omega) | (simp only [lenOf]; rw [hn16, List.length_drop]; omega))
end Go.Proofs.YtmjeifbadjdnfaaDoor
