/- Contract of murmur's Sum. Conditions: at most a million bytes; the seed is of uint64. Contracts of the codec's Unframe. Condition: at most a million bytes. Contracts of the reference's Frame and Unframe. Conditions: lengths leave room. -/
import Derived.Test.YtplghaoflmaadaaGreatDoorZ02
import Derived.Outline
import Derived.Test.YtplghaoflmaadaaGreatDoorZ08
section
set_option linter.unusedVariables false
set_option linter.unusedSimpArgs false
set_option maxRecDepth 50000
namespace Go.Proofs.YtplghaoflmaadaaGreatDoor
open Go.RowKit

def lenOf : Value → Nat
  | .slice _ n _ => n
  | _ => 0
theorem lowI_range (l : List UInt8) : 0 ≤ lowI l ∧ lowI l < 18446744073709551616 := w64_range _
theorem highI_range (l : List UInt8) : 0 ≤ highI l ∧ highI l < 18446744073709551616 := w64_range _
theorem rotI_range (x : Int) (k : Nat) : 0 ≤ rotI x k ∧ rotI x k < 18446744073709551616 := bits64 _ _ _

theorem mixI_range (x : Int) : 0 ≤ mixI x ∧ mixI x < 18446744073709551616 := by unfold mixI; exact bits64 _ _ _
theorem HG.drew {gh gg : Nat} {W : World} {h g : Int} (hh : HG gh gg W h g) : HG gh gg W.drew h g := ⟨hh.h0, hh.g0, hh.fh, hh.fg, hh.hr, hh.gr, hh.hne⟩

set_option maxHeartbeats 4000000 in
theorem mmSum_any (v : Value) (l : List UInt8) (seed : Int) (w : World) (hv : SlB w.heap.size w v l) (hl : l.length ≤ 10000000) (s0 : 0 ≤ seed) (s1 : seed < 18446744073709551616) :
    Calls Tryz.prog 123 #[v, .int .u64 seed] w fun e w' => e = .returned (.tuple #[.int .u64 (mmSum l seed).1, .int .u64 (mmSum l seed).2]) ∧ Below w.heap.size w w' := by
  have HV := Lib.hid hv
  obtain ⟨a, cp, rfl, _, _⟩ := hv.ex
  clear hv
  have LO := Lib.hid (fun W v b (h : SlB w.heap.size W v b) (hb : b.length ≤ 10000000) => low_any v b w.heap.size W h hb)
  have HI := Lib.hid (fun W v b (h : SlB w.heap.size W v b) (hb : b.length ≤ 10000000) => high_any v b w.heap.size W h hb)
  have RO := Lib.hid (fun W x k h0 h1 hk => rot_any x k h0 h1 hk W)
  go_enter Tryz.func123, Tryz.ntmps123
  go_wp2_with fail
  go_step3
  go_wp2_with fail
  go_step3
  go_wp2_with fail
  have b1 := (Blk.new w 84 #[.int .u64 seed]).alloc (.cells #[.int .u64 seed] 84)
  have b2 := Blk.new (w.alloc (.cells #[.int .u64 seed] 84)) 84 #[.int .u64 seed]
  have hsz : (w.alloc (.cells #[.int .u64 seed] 84)).heap.size = w.heap.size + 1 := by simp
  rw [hsz] at b2
  have HG0 := Lib.hid (show HG w.heap.size (w.heap.size + 1) _ seed seed from ⟨b1.cell 0 rfl, b2.cell 0 rfl, b1.frozen 0, b2.frozen 0, ⟨s0, s1⟩, ⟨s0, s1⟩, by omega⟩)
  have HB0 := Lib.hid (below_alloc (below_alloc (Below.refl _ w) (.cells #[.int .u64 seed] 84)) (.cells #[.int .u64 seed] 84))
  clear b1 b2 hsz
  generalize (w.alloc (.cells #[.int .u64 seed] 84)).alloc (.cells #[.int .u64 seed] 84) = W0 at *
  have HR := Lib.hid (show mmSum l seed = mmEnd (l.length : Int) (mmLoop l.length seed seed l) from rfl)
  generalize hRd : mmLoop l.length seed seed l = R at *
  have HRD := Lib.hid hRd; clear hRd
  go_loopw [8] (fun vr wr => ∃ (h g : Int) (b : List UInt8) (n : Nat), HG w.heap.size (w.heap.size + 1) wr h g ∧ SlB w.heap.size wr vr b ∧ Below w.heap.size w wr ∧ b.length ≤ n ∧ b.length ≤ 10000000 ∧ mmLoop n h g b = R) (fun vr _ => lenOf vr)
  case atStart => exact ⟨seed, seed, l, l.length, HG0.out, HV.out.below HB0.out, HB0.out, Nat.le_refl _, hl, HRD.out⟩
  case round =>
    obtain ⟨h, g, b, n, hg, hs, hB, hbn, hbl, hR⟩ := hrel
    have HS := Lib.hid hs
    obtain ⟨ab, cb, rfl, _, hxb⟩ := hs.ex
    have HXB := Lib.hid hxb
    clear hs hxb
    have HH := Lib.hid hg; have HBB := Lib.hid hB; have HRR := Lib.hid hR
    clear hR hB HRD HG0 HB0
    by_cases h16 : b.length < 16
    · have hst := mmLoop_stop n h g b h16
      rw [hst] at HRR
      have HRE := Lib.hid HRR.out.symm
      clear HRR hst
      have fin : ∀ h1 g1, g1 = (if 8 < b.length then Go.bits .xor .u64 g (highI (b.drop 8)) else g) → h1 = (if 0 < b.length then Go.bits .xor .u64 h (lowI b) else h) →
          mmSum l seed = (let h2 := Go.bits .xor .u64 h1 (l.length : Int); let g2 := Go.bits .xor .u64 g1 (l.length : Int); let h3 := IntKind.u64.wrap (h2 + g2); let g3 := IntKind.u64.wrap (g2 + h3); let h4 := mixI h3; let g4 := mixI g3; let h5 := IntKind.u64.wrap (h4 + g4); (h5, IntKind.u64.wrap (g4 + h5))) := by
        intro h1 g1 e1 e2
        rw [HR.out, HRE.out]
        unfold mmEnd
        simp only
        rw [← e1, ← e2]
      have FIN := Lib.hid fin; clear fin
      have hN : IntKind.u64.wrap (l.length : Int) = (l.length : Int) := by
        simp only [IntKind.wrap, IntKind.signed, IntKind.bits, Bool.false_and]
        simp; omega
      have hx1 := bits64 .xor h (lowI b)
      have hx2 := bits64 .xor g (highI (b.drop 8))
      have H2p := Lib.hid ((HH.out.put.2 _ hx2.1 hx2.2).drew)
      have B2p := Lib.hid ((HBB.out.setCell (p := ⟨w.heap.size + 1, 0, none⟩) (Nat.le_succ _) (.int .u64 (Go.bits .xor .u64 g (highI (b.drop 8))))).drew)
      have K2p := Lib.hid (((Below.refl w.heap.size wr).setCell (p := ⟨w.heap.size + 1, 0, none⟩) (Nat.le_succ _) (.int .u64 (Go.bits .xor .u64 g (highI (b.drop 8))))).drew)
      obtain ⟨h1, hh1⟩ : ∃ h1, Go.bits .xor .u64 h (lowI b) = h1 := ⟨_, rfl⟩
      obtain ⟨g1, hg1⟩ : ∃ g1, Go.bits .xor .u64 g (highI (b.drop 8)) = g1 := ⟨_, rfl⟩
      have hx1' : 0 ≤ h1 ∧ h1 < 18446744073709551616 := by rw [← hh1]; exact hx1
      rw [hg1] at H2p B2p K2p
      have HH1 := Lib.hid hh1; have HG1 := Lib.hid hg1; have HX1 := Lib.hid hx1'
      clear hh1 hg1 hx1 hx2 hx1'
      obtain ⟨h0, g0, fh, fg, hr, gr, hne⟩ := hg
      by_cases h8 : 8 < b.length
      · have F := Lib.hid (FIN.out h1 g1 (by rw [if_pos h8, HG1.out]) (by rw [if_pos (by omega), HH1.out]))
        clear FIN HR HRE
        have q8 : (8 : Int) < (b.length : Int) := by omega
        have q0 : (0 : Int) < (b.length : Int) := by omega
        have q16 : (b.length : Int) < 16 := by omega
        have cr : ∀ W, (Instr.slice 29 (.slice ab b.length cb) (some (.int .i64 8)) none none).run Tryz.prog W = .ok (cutV (.slice ab b.length cb) 8) W := fun W => HS.out.cut_run 8 (by omega) W
        obtain ⟨a8, n8, c8, hv8⟩ : ∃ a8 n8 c8, cutV (.slice ab b.length cb) 8 = .slice a8 n8 c8 := ⟨_, _, _, rfl⟩
        have S8 := HS.out.cut 8 (by omega)
        rw [hv8] at S8
        simp only [hv8] at cr
        have S8' := Lib.hid S8; clear S8 hv8
        go_wp2_with fail
        apply meet_once
        · intro KK
          go_region_law (go_simp; go_at_call 145; refine (HI.out _ _ (b.drop 8) (S8'.out.below (by repeat (first | exact Below.refl _ _ | refine Below.drew ?_))) (by rw [List.length_drop]; omega)).mono ?_; rintro e w5 ⟨rfl, rfl⟩)
          all_goals exact KK.out
        rw [HG1.out]
        clear h0 g0 fh fg hr gr cr
        have S4 := Lib.hid (HS.out.below K2p.out)
        generalize (wr.setCell ⟨w.heap.size + 1, 0, none⟩ (.int .u64 g1)).drew = W4 at *
        obtain ⟨h0, g0, fh, fg, hr, gr, hne'⟩ := H2p.out
        have H5 := Lib.hid ((H2p.out.put.1 _ HX1.out.1 HX1.out.2).drew)
        have B5 := Lib.hid ((B2p.out.setCell (p := ⟨w.heap.size, 0, none⟩) (Nat.le_refl _) (.int .u64 h1)).drew)
        go_wp2_with fail
        apply meet_once
        · intro KK
          go_region_law (go_simp; go_at_call 144; refine (LO.out _ _ b (S4.out.below (by repeat (first | exact Below.refl _ _ | refine Below.drew ?_))) hbl).mono ?_; rintro e w5 ⟨rfl, rfl⟩)
          all_goals exact KK.out
        rw [HH1.out]
        clear h0 g0 fh fg hr gr
        generalize (W4.setCell ⟨w.heap.size, 0, none⟩ (.int .u64 h1)).drew = W5 at *
        have HA := Lib.hid (fun W x y (hh : HG w.heap.size (w.heap.size + 1) W x y) => add_any w.heap.size (w.heap.size + 1) x y W hh)
        obtain ⟨h0, g0, fh, fg, hr, gr, hne⟩ := H5.out
        have hx2 := bits64 .xor h1 (l.length : Int)
        have gx2 := bits64 .xor g1 (l.length : Int)
        have H6 := Lib.hid (((H5.out.put.1 _ hx2.1 hx2.2).put.2 _ gx2.1 gx2.2).drew)
        have B6 := Lib.hid (((B5.out.setCell (p := ⟨w.heap.size, 0, none⟩) (Nat.le_refl _) (.int .u64 (Go.bits .xor .u64 h1 (l.length : Int)))).setCell (p := ⟨w.heap.size + 1, 0, none⟩) (Nat.le_succ _) (.int .u64 (Go.bits .xor .u64 g1 (l.length : Int)))).drew)
        go_wp2_with fail
        apply meet_once
        · intro KK
          go_region_law (fail)
          all_goals exact KK.out
        clear h0 g0 fh fg hr gr hx2 gx2
        generalize hh2 : Go.bits .xor .u64 h1 (l.length : Int) = h2 at *
        generalize hg2 : Go.bits .xor .u64 g1 (l.length : Int) = g2 at *
        have HH2 := Lib.hid hh2; have HG2 := Lib.hid hg2
        clear hh2 hg2
        generalize ((W5.setCell ⟨w.heap.size, 0, none⟩ (.int .u64 h2)).setCell ⟨w.heap.size + 1, 0, none⟩ (.int .u64 g2)).drew = W6 at *
        go_wp2_with fail
        refine (HA.out W6 _ _ H6.out).mono ?_
        rintro e W7 ⟨rfl, H7, U7⟩
        have B7 := Lib.hid (B6.out.trans (U7.below B6.out.size (by rintro k (rfl | rfl) <;> omega)))
        have H7' := Lib.hid H7
        obtain ⟨h0, g0, fh, fg, hr, gr, hne⟩ := H7
        generalize hh3 : IntKind.u64.wrap (h2 + g2) = h3 at *
        generalize hg3 : IntKind.u64.wrap (g2 + h3) = g3 at *
        have HH3 := Lib.hid hh3; have HG3 := Lib.hid hg3
        clear hh3 hg3 U7
        have M1 := Lib.hid (fun W => Mix_any h3 hr.1 hr.2 W)
        have M2 := Lib.hid (fun W => Mix_any g3 gr.1 gr.2 W)
        have rx := mixI_range h3
        have ry := mixI_range g3
        have H8 := Lib.hid (((H7'.out.put.1 _ rx.1 rx.2).put.2 _ ry.1 ry.2).drew)
        have B8 := Lib.hid (((B7.out.setCell (p := ⟨w.heap.size, 0, none⟩) (Nat.le_refl _) (.int .u64 (mixI h3))).setCell (p := ⟨w.heap.size + 1, 0, none⟩) (Nat.le_succ _) (.int .u64 (mixI g3))).drew)
        generalize hh4 : mixI h3 = h4 at *
        generalize hg4 : mixI g3 = g4 at *
        have HH4 := Lib.hid hh4; have HG4 := Lib.hid hg4
        clear hh4 hg4 rx ry
        go_wp2_with fail
        apply meet_once
        · intro KK
          go_region_law (go_simp; go_at_call 147; (first | with_reducible refine (M1.out _).mono ?_ | with_reducible refine (M2.out _).mono ?_); rintro e w6 ⟨rfl, rfl⟩)
          all_goals exact KK.out
        clear h0 g0 fh fg hr gr M1 M2
        generalize ((W7.setCell ⟨w.heap.size, 0, none⟩ (.int .u64 h4)).setCell ⟨w.heap.size + 1, 0, none⟩ (.int .u64 g4)).drew = W8 at *
        go_wp2_with fail
        refine (HA.out W8 _ _ H8.out).mono ?_
        rintro e W9 ⟨rfl, H9, U9⟩
        have B9 := Lib.hid (B8.out.trans (U9.below B8.out.size (by rintro k (rfl | rfl) <;> omega)))
        obtain ⟨h0, g0, fh, fg, hr, gr, hne⟩ := H9
        generalize hh5 : IntKind.u64.wrap (h4 + g4) = h5 at *
        generalize hg5 : IntKind.u64.wrap (g4 + h5) = g5 at *
        have HH5 := Lib.hid hh5; have HG5 := Lib.hid hg5
        clear hh5 hg5 U9
        go_wp2_with fail
        apply meet_once
        · intro KK
          go_region_law (fail)
          all_goals exact KK.out
        go_wp2_with fail
        rw [Exit.noGoto_ret]
        go_ret2
        refine ⟨?_, B9.out.drew⟩
        have FF : mmSum l seed = (h5, g5) := by rw [F.out]
        rw [FF]
        rfl
      · by_cases hz : 0 < b.length
        · have F := Lib.hid (FIN.out h1 g (by rw [if_neg h8]) (by rw [if_pos hz, HH1.out]))
          clear FIN HR HRE
          have q8 : ¬ (8 : Int) < (b.length : Int) := by omega
          have q0 : (0 : Int) < (b.length : Int) := by omega
          have q16 : (b.length : Int) < 16 := by omega
          have H5 := Lib.hid ((HH.out.put.1 _ HX1.out.1 HX1.out.2).drew)
          have B5 := Lib.hid ((HBB.out.setCell (p := ⟨w.heap.size, 0, none⟩) (Nat.le_refl _) (.int .u64 h1)).drew)
          go_wp2_with fail
          apply meet_once
          · intro KK
            go_region_law (go_simp; go_at_call 144; refine (LO.out _ _ b (HS.out.below (by repeat (first | exact Below.refl _ _ | refine Below.drew ?_))) hbl).mono ?_; rintro e w5 ⟨rfl, rfl⟩)
            all_goals exact KK.out
          rw [HH1.out]
          clear h0 g0 fh fg hr gr
          generalize (wr.setCell ⟨w.heap.size, 0, none⟩ (.int .u64 h1)).drew = W5 at *
          clear g1 HG1 H2p B2p K2p
          generalize g = g1 at *
          have HA := Lib.hid (fun W x y (hh : HG w.heap.size (w.heap.size + 1) W x y) => add_any w.heap.size (w.heap.size + 1) x y W hh)
          obtain ⟨h0, g0, fh, fg, hr, gr, hne⟩ := H5.out
          have hx2 := bits64 .xor h1 (l.length : Int)
          have gx2 := bits64 .xor g1 (l.length : Int)
          have H6 := Lib.hid (((H5.out.put.1 _ hx2.1 hx2.2).put.2 _ gx2.1 gx2.2).drew)
          have B6 := Lib.hid (((B5.out.setCell (p := ⟨w.heap.size, 0, none⟩) (Nat.le_refl _) (.int .u64 (Go.bits .xor .u64 h1 (l.length : Int)))).setCell (p := ⟨w.heap.size + 1, 0, none⟩) (Nat.le_succ _) (.int .u64 (Go.bits .xor .u64 g1 (l.length : Int)))).drew)
          go_wp2_with fail
          apply meet_once
          · intro KK
            go_region_law (fail)
            all_goals exact KK.out
          clear h0 g0 fh fg hr gr hx2 gx2
          generalize hh2 : Go.bits .xor .u64 h1 (l.length : Int) = h2 at *
          generalize hg2 : Go.bits .xor .u64 g1 (l.length : Int) = g2 at *
          have HH2 := Lib.hid hh2; have HG2 := Lib.hid hg2
          clear hh2 hg2
          generalize ((W5.setCell ⟨w.heap.size, 0, none⟩ (.int .u64 h2)).setCell ⟨w.heap.size + 1, 0, none⟩ (.int .u64 g2)).drew = W6 at *
          go_wp2_with fail
          refine (HA.out W6 _ _ H6.out).mono ?_
          rintro e W7 ⟨rfl, H7, U7⟩
          have B7 := Lib.hid (B6.out.trans (U7.below B6.out.size (by rintro k (rfl | rfl) <;> omega)))
          have H7' := Lib.hid H7
          obtain ⟨h0, g0, fh, fg, hr, gr, hne⟩ := H7
          generalize hh3 : IntKind.u64.wrap (h2 + g2) = h3 at *
          generalize hg3 : IntKind.u64.wrap (g2 + h3) = g3 at *
          have HH3 := Lib.hid hh3; have HG3 := Lib.hid hg3
          clear hh3 hg3 U7
          have M1 := Lib.hid (fun W => Mix_any h3 hr.1 hr.2 W)
          have M2 := Lib.hid (fun W => Mix_any g3 gr.1 gr.2 W)
          have rx := mixI_range h3
          have ry := mixI_range g3
          have H8 := Lib.hid (((H7'.out.put.1 _ rx.1 rx.2).put.2 _ ry.1 ry.2).drew)
          have B8 := Lib.hid (((B7.out.setCell (p := ⟨w.heap.size, 0, none⟩) (Nat.le_refl _) (.int .u64 (mixI h3))).setCell (p := ⟨w.heap.size + 1, 0, none⟩) (Nat.le_succ _) (.int .u64 (mixI g3))).drew)
          generalize hh4 : mixI h3 = h4 at *
          generalize hg4 : mixI g3 = g4 at *
          have HH4 := Lib.hid hh4; have HG4 := Lib.hid hg4
          clear hh4 hg4 rx ry
          go_wp2_with fail
          apply meet_once
          · intro KK
            go_region_law (go_simp; go_at_call 147; (first | with_reducible refine (M1.out _).mono ?_ | with_reducible refine (M2.out _).mono ?_); rintro e w6 ⟨rfl, rfl⟩)
            all_goals exact KK.out
          clear h0 g0 fh fg hr gr M1 M2
          generalize ((W7.setCell ⟨w.heap.size, 0, none⟩ (.int .u64 h4)).setCell ⟨w.heap.size + 1, 0, none⟩ (.int .u64 g4)).drew = W8 at *
          go_wp2_with fail
          refine (HA.out W8 _ _ H8.out).mono ?_
          rintro e W9 ⟨rfl, H9, U9⟩
          have B9 := Lib.hid (B8.out.trans (U9.below B8.out.size (by rintro k (rfl | rfl) <;> omega)))
          obtain ⟨h0, g0, fh, fg, hr, gr, hne⟩ := H9
          generalize hh5 : IntKind.u64.wrap (h4 + g4) = h5 at *
          generalize hg5 : IntKind.u64.wrap (g4 + h5) = g5 at *
          have HH5 := Lib.hid hh5; have HG5 := Lib.hid hg5
          clear hh5 hg5 U9
          go_wp2_with fail
          apply meet_once
          · intro KK
            go_region_law (fail)
            all_goals exact KK.out
          go_wp2_with fail
          rw [Exit.noGoto_ret]
          go_ret2
          refine ⟨?_, B9.out.drew⟩
          have FF : mmSum l seed = (h5, g5) := by rw [F.out]
          rw [FF]
          rfl
        · have F := Lib.hid (FIN.out h g (by rw [if_neg h8]) (by rw [if_neg hz]))
          clear FIN HR HRE
          have q8 : ¬ (8 : Int) < (b.length : Int) := by omega
          have q0 : ¬ (0 : Int) < (b.length : Int) := by omega
          have q16 : (b.length : Int) < 16 := by omega
          have H5 := HH
          have B5 := HBB
          clear h0 g0 fh fg hr gr g1 HG1 H2p B2p K2p h1 HH1 HX1
          generalize g = g1 at *
          generalize h = h1 at *
          have HA := Lib.hid (fun W x y (hh : HG w.heap.size (w.heap.size + 1) W x y) => add_any w.heap.size (w.heap.size + 1) x y W hh)
          obtain ⟨h0, g0, fh, fg, hr, gr, hne⟩ := H5.out
          have hx2 := bits64 .xor h1 (l.length : Int)
          have gx2 := bits64 .xor g1 (l.length : Int)
          have H6 := Lib.hid (((H5.out.put.1 _ hx2.1 hx2.2).put.2 _ gx2.1 gx2.2).drew)
          have B6 := Lib.hid (((B5.out.setCell (p := ⟨w.heap.size, 0, none⟩) (Nat.le_refl _) (.int .u64 (Go.bits .xor .u64 h1 (l.length : Int)))).setCell (p := ⟨w.heap.size + 1, 0, none⟩) (Nat.le_succ _) (.int .u64 (Go.bits .xor .u64 g1 (l.length : Int)))).drew)
          go_wp2_with fail
          apply meet_once
          · intro KK
            go_region_law (fail)
            all_goals exact KK.out
          clear h0 g0 fh fg hr gr hx2 gx2
          generalize hh2 : Go.bits .xor .u64 h1 (l.length : Int) = h2 at *
          generalize hg2 : Go.bits .xor .u64 g1 (l.length : Int) = g2 at *
          have HH2 := Lib.hid hh2; have HG2 := Lib.hid hg2
          clear hh2 hg2
          generalize ((wr.setCell ⟨w.heap.size, 0, none⟩ (.int .u64 h2)).setCell ⟨w.heap.size + 1, 0, none⟩ (.int .u64 g2)).drew = W6 at *
          go_wp2_with fail
          refine (HA.out W6 _ _ H6.out).mono ?_
          rintro e W7 ⟨rfl, H7, U7⟩
          have B7 := Lib.hid (B6.out.trans (U7.below B6.out.size (by rintro k (rfl | rfl) <;> omega)))
          have H7' := Lib.hid H7
          obtain ⟨h0, g0, fh, fg, hr, gr, hne⟩ := H7
          generalize hh3 : IntKind.u64.wrap (h2 + g2) = h3 at *
          generalize hg3 : IntKind.u64.wrap (g2 + h3) = g3 at *
          have HH3 := Lib.hid hh3; have HG3 := Lib.hid hg3
          clear hh3 hg3 U7
          have M1 := Lib.hid (fun W => Mix_any h3 hr.1 hr.2 W)
          have M2 := Lib.hid (fun W => Mix_any g3 gr.1 gr.2 W)
          have rx := mixI_range h3
          have ry := mixI_range g3
          have H8 := Lib.hid (((H7'.out.put.1 _ rx.1 rx.2).put.2 _ ry.1 ry.2).drew)
          have B8 := Lib.hid (((B7.out.setCell (p := ⟨w.heap.size, 0, none⟩) (Nat.le_refl _) (.int .u64 (mixI h3))).setCell (p := ⟨w.heap.size + 1, 0, none⟩) (Nat.le_succ _) (.int .u64 (mixI g3))).drew)
          generalize hh4 : mixI h3 = h4 at *
          generalize hg4 : mixI g3 = g4 at *
          have HH4 := Lib.hid hh4; have HG4 := Lib.hid hg4
          clear hh4 hg4 rx ry
          go_wp2_with fail
          apply meet_once
          · intro KK
            go_region_law (go_simp; go_at_call 147; (first | with_reducible refine (M1.out _).mono ?_ | with_reducible refine (M2.out _).mono ?_); rintro e w6 ⟨rfl, rfl⟩)
            all_goals exact KK.out
          clear h0 g0 fh fg hr gr M1 M2
          generalize ((W7.setCell ⟨w.heap.size, 0, none⟩ (.int .u64 h4)).setCell ⟨w.heap.size + 1, 0, none⟩ (.int .u64 g4)).drew = W8 at *
          go_wp2_with fail
          refine (HA.out W8 _ _ H8.out).mono ?_
          rintro e W9 ⟨rfl, H9, U9⟩
          have B9 := Lib.hid (B8.out.trans (U9.below B8.out.size (by rintro k (rfl | rfl) <;> omega)))
          obtain ⟨h0, g0, fh, fg, hr, gr, hne⟩ := H9
          generalize hh5 : IntKind.u64.wrap (h4 + g4) = h5 at *
          generalize hg5 : IntKind.u64.wrap (g4 + h5) = g5 at *
          have HH5 := Lib.hid hh5; have HG5 := Lib.hid hg5
          clear hh5 hg5 U9
          go_wp2_with fail
          apply meet_once
          · intro KK
            go_region_law (fail)
            all_goals exact KK.out
          go_wp2_with fail
          rw [Exit.noGoto_ret]
          go_ret2
          refine ⟨?_, B9.out.drew⟩
          have FF : mmSum l seed = (h5, g5) := by rw [F.out]
          rw [FF]
          rfl
    · obtain ⟨h0, g0, fh, fg, hr, gr, hne⟩ := hg
      obtain ⟨n, rfl⟩ : ∃ m, n = m + 1 := ⟨n - 1, by omega⟩
      have hgo := mmLoop_go n h g b h16
      rw [hgo] at HRR
      have HRE := Lib.hid HRR.out
      clear HRR hgo
      have q16 : ¬ (b.length : Int) < 16 := by omega
      have hx := bits64 .xor h (lowI b)
      have R1 := Lib.hid (fun W => RO.out W _ 27 hx.1 hx.2 (by decide))
      go_wp2_with fail
      apply meet_once
      · intro KK
        go_region_law (first
          | (go_simp; go_at_call 144; refine (LO.out _ _ b (HS.out.below (by repeat (first | exact Below.refl _ _ | refine Below.drew ?_))) hbl).mono ?_; rintro e w5 ⟨rfl, rfl⟩)
          | (go_simp; go_at_call 143; refine (R1.out _).mono ?_; rintro e w6 ⟨rfl, rfl⟩))
        all_goals exact KK.out
      have hp := w64_range (IntKind.u64.wrap (IntKind.u64.wrap (rotI (Go.bits .xor .u64 h (lowI b)) 27 + g) * 5) + 1390208809)
      have H3 := Lib.hid (((HH.out.put).1 _ hp.1 hp.2).drew)
      have B3 := Lib.hid ((HBB.out.setCell (p := ⟨w.heap.size, 0, none⟩) (Nat.le_refl _) (.int .u64 (IntKind.u64.wrap (IntKind.u64.wrap (IntKind.u64.wrap (rotI (Go.bits .xor .u64 h (lowI b)) 27 + g) * 5) + 1390208809)))).drew)
      have S3 := Lib.hid (HS.out.below (((Below.refl w.heap.size wr).setCell (p := ⟨w.heap.size, 0, none⟩) (Nat.le_refl _) (.int .u64 (IntKind.u64.wrap (IntKind.u64.wrap (IntKind.u64.wrap (rotI (Go.bits .xor .u64 h (lowI b)) 27 + g) * 5) + 1390208809)))).drew))
      clear h0 g0 fh fg hr gr hp R1
      have E1 := Lib.hid (show (mmStep h g b).1 = IntKind.u64.wrap (IntKind.u64.wrap (IntKind.u64.wrap (rotI (Go.bits .xor .u64 h (lowI b)) 27 + g) * 5) + 1390208809) from rfl)
      have E2 := Lib.hid (show (mmStep h g b).2 = IntKind.u64.wrap (IntKind.u64.wrap (IntKind.u64.wrap (rotI (Go.bits .xor .u64 g (highI (b.drop 8))) 31 + (mmStep h g b).1) * 5) + 944331445) from rfl)
      rw [← E1.out] at H3 B3 S3 ⊢
      generalize (mmStep h g b).1 = h' at *
      generalize (mmStep h g b).2 = g' at *
      generalize (wr.setCell ⟨w.heap.size, 0, none⟩ (.int .u64 h')).drew = W3 at *
      obtain ⟨h0, g0, fh, fg, hr, gr, hne⟩ := H3.out
      have hx := bits64 .xor g (highI (b.drop 8))
      have R2 := Lib.hid (fun W => RO.out W _ 31 hx.1 hx.2 (by decide))
      have cr : ∀ W, (Instr.slice 29 (.slice ab b.length cb) (some (.int .i64 8)) none none).run Tryz.prog W = .ok (cutV (.slice ab b.length cb) 8) W := fun W => HS.out.cut_run 8 (by omega) W
      obtain ⟨a8, n8, c8, hv8⟩ : ∃ a8 n8 c8, cutV (.slice ab b.length cb) 8 = .slice a8 n8 c8 := ⟨_, _, _, rfl⟩
      have S8 := S3.out.cut 8 (by omega)
      rw [hv8] at S8
      simp only [hv8] at cr
      have S8' := Lib.hid S8; clear S8 hv8
      have cr16 : ∀ W, (Instr.slice 29 (.slice ab b.length cb) (some (.int .i64 16)) none none).run Tryz.prog W = .ok (cutV (.slice ab b.length cb) 16) W := fun W => HS.out.cut_run 16 (by omega) W
      obtain ⟨a16, n16, c16, hv16⟩ : ∃ a8 n8 c8, cutV (.slice ab b.length cb) 16 = .slice a8 n8 c8 := ⟨_, _, _, rfl⟩
      have S16 := S3.out.cut 16 (by omega)
      rw [hv16] at S16
      simp only [hv16] at cr16
      have S16' := Lib.hid S16; clear S16 hv16
      go_wp2_with fail
      apply meet_once
      · intro KK
        go_region_law (first
          | (go_simp; go_at_call 145; refine (HI.out _ _ (b.drop 8) (S8'.out.below (by repeat (first | exact Below.refl _ _ | refine Below.drew ?_))) (by rw [List.length_drop]; omega)).mono ?_; rintro e w5 ⟨rfl, rfl⟩)
          | (go_simp; go_at_call 143; refine (R2.out _).mono ?_; rintro e w6 ⟨rfl, rfl⟩))
        all_goals exact KK.out
      have hp := w64_range (IntKind.u64.wrap (IntKind.u64.wrap (rotI (Go.bits .xor .u64 g (highI (b.drop 8))) 31 + h') * 5) + 944331445)
      have H4 := Lib.hid (((H3.out.put).2 _ hp.1 hp.2).drew)
      have B4 := Lib.hid ((B3.out.setCell (p := ⟨w.heap.size + 1, 0, none⟩) (Nat.le_succ _) (.int .u64 (IntKind.u64.wrap (IntKind.u64.wrap (IntKind.u64.wrap (rotI (Go.bits .xor .u64 g (highI (b.drop 8))) 31 + h') * 5) + 944331445)))).drew)
      have S4 := Lib.hid (S16'.out.below (((Below.refl w.heap.size W3).setCell (p := ⟨w.heap.size + 1, 0, none⟩) (Nat.le_succ _) (.int .u64 (IntKind.u64.wrap (IntKind.u64.wrap (IntKind.u64.wrap (rotI (Go.bits .xor .u64 g (highI (b.drop 8))) 31 + h') * 5) + 944331445)))).drew))
      clear h0 g0 fh fg hr gr hp R2
      rw [← E2.out] at H4 B4 S4 ⊢
      generalize (W3.setCell ⟨w.heap.size + 1, 0, none⟩ (.int .u64 g')).drew = W4 at *
      have hn16 : n16 = (b.drop 16).length := by
        obtain ⟨_, _, e, _⟩ := S4.out.ex
        injection e
      go_wp2_with fail
      go_roundw
      case rel => exact ⟨h', g', b.drop 16, n, H4.out, by first | exact S4.out | (rw [List.length_drop] at hn16; rw [← hn16]; exact S4.out), B4.out, by rw [List.length_drop]; omega, by rw [List.length_drop]; omega, HRE.out⟩
      case measure => (first | (simp only [lenOf]; omega) | (simp only [lenOf]; rw [hn16, List.length_drop]; omega))
end Go.Proofs.YtplghaoflmaadaaGreatDoor
end

section
set_option linter.unusedVariables false
set_option linter.unusedSimpArgs false
set_option maxRecDepth 20000
namespace Go.Proofs.YtplghaoflmaadaaGreatDoor
open Go.RowKit

/-- 'v[4:]', 'v[:4]', 'v[8:8+n]' of bytes that came in. -/
theorem SlB.head {B : Nat} {w : World} {v : Value} {l : List UInt8} (h : SlB B w v l) (k : Nat) (hk : k ≤ l.length) : ∀ {a : Option Addr} {n c : Nat}, v = .slice a n c → SlB B w (.slice a k c) (l.take k) := by
  intro a n c hv
  obtain ⟨a', c', hv', hc, hx⟩ := h.ex
  rw [hv] at hv'
  injection hv' with e1 e2 e3
  subst e1 e2 e3
  refine ⟨a, c, by rw [List.length_take, Nat.min_eq_left hk], by rw [List.length_take]; omega, fun h0 => ?_⟩
  rw [List.length_take] at h0
  obtain ⟨g, o, ea, hg, hcell⟩ := hx (by omega)
  refine ⟨g, o, ea, hg, fun j hj => ?_⟩
  rw [List.length_take] at hj
  rw [hcell j (by omega), List.getElem_take]
theorem mid_run {a : Option Addr} {n c i k : Nat} (hk : i + k ≤ c) (W : World) (y : Int) (hy : y = (i + k : Nat)) :
    (Instr.slice 29 (.slice a n c) (some (.int .i64 (i : Int))) (some (.int .i64 y)) none).run Tryz.prog W = .ok (.slice (if c = i then a else a.map (·.add i)) k (c - i)) W := by
  subst hy
  rw [run_slice_lh W _ _ _ _ undByte .i64 .i64 _ _ (by omega) (by omega) (by omega), sizeByte]
  have e : ((i + k : Nat) : Int).toNat = i + k := by omega
  simp only [Result.andThen, sliced, e, Int.toNat_natCast, Nat.mul_one, Nat.add_sub_cancel_left]
theorem cut_some (a : Addr) (c i : Nat) : ∃ A, (if c = i then some a else (some a).map (·.add i)) = some A := by
  by_cases h : c = i
  · exact ⟨a, if_pos h⟩
  · exact ⟨a.add i, by rw [if_neg h]; rfl⟩

def unframeV (o : List UInt8 × Nat × Int) (base : Nat) (w : World) (e : Ending) (w' : World) : Prop := ∃ v, e = .returned (.tuple #[v, .int .i64 (o.2.1 : Int), .int .i64 o.2.2]) ∧ OwnB w' base v o.1 ∧ Below base w w'
theorem ret_unf {v : Value} {n m k : Int} (h : n = m) : Ending.returned (.tuple #[v, .int .i64 n, .int .i64 k]) = Ending.returned (.tuple #[v, .int .i64 m, .int .i64 k]) := by rw [h]
set_option maxHeartbeats 1000000 in
theorem Unframe_any (v : Value) (l : List UInt8) (w : World) (hv : SlB w.heap.size w v l) (hl : l.length ≤ 1000000) :
    Calls Tryz.prog 73 #[v] w (unframeV (unframeL l) w.heap.size w) := by
  have HV := Lib.hid hv
  obtain ⟨a, c, rfl, hc, hx⟩ := hv.ex
  clear hv
  by_cases h8 : l.length < 8
  · have e : unframeL l = ([], 0, 10) := by unfold unframeL; rw [if_pos h8]
    rw [e]
    clear hx
    go_enter Tryz.func73, Tryz.ntmps73
    go_wp2_with fail
    go_ret3
    exact ⟨_, rfl, OwnB.nil _ _, Below.refl _ _⟩
  · have F := Lib.hid (fourth_any (.slice a l.length c) l w.heap.size w HV.out (by omega) hl)
    have hr := num32_range (l.take 4) (by rw [List.length_take]; omega)
    obtain ⟨g, o, rfl, hg, hcell⟩ := hx (by omega)
    clear hcell
    have hU : unframeL l = if 262144 < num32 (l.take 4) then ([], 0, 6) else if (l.length : Int) - 8 < num32 (l.take 4) then ([], 0, 10)
      else if sealL (l.take 4) ((l.drop 8).take (num32 (l.take 4)).toNat) ≠ num32 ((l.drop 4).take 4) then ([], 0, 8)
      else ((l.drop 8).take (num32 (l.take 4)).toNat, (num32 (l.take 4)).toNat + 8, 0) := by unfold unframeL; rw [if_neg h8]
    generalize num32 (l.take 4) = n at *
    obtain ⟨m, rfl⟩ : ∃ m : Nat, n = m := ⟨n.toNat, by omega⟩
    rw [Int.toNat_natCast] at hU
    have HU := Lib.hid hU; have hm32 : (m : Int) ≤ 4294967295 := by omega
    clear hU hr
    by_cases h1 : 262144 < m
    · have e := Lib.hid (HU.out.trans (if_pos (by omega)))
      go_enter Tryz.func73, Tryz.ntmps73
      go_wp2_with fail
      refine F.out.mono ?_
      rintro e w1 ⟨rfl, rfl⟩
      go_wp2_with fail
      go_ret3
      rw [e.out]
      exact ⟨_, rfl, OwnB.nil _ _, Below.refl _ _⟩
    · replace HU := Lib.hid (HU.out.trans (if_neg (by omega)))
      by_cases h2 : l.length < m + 8
      · have e := Lib.hid (HU.out.trans (if_pos (by omega)))
        have q1 : ¬ (262144 : Int) < (m : Int) := by omega
        have q2 : (l.length : Int) - 8 < (m : Int) := by omega
        go_enter Tryz.func73, Tryz.ntmps73
        go_wp2_with fail
        refine F.out.mono ?_
        rintro e w1 ⟨rfl, rfl⟩
        go_wp2_with fail
        go_ret3
        rw [e.out]
        exact ⟨_, rfl, OwnB.nil _ _, Below.refl _ _⟩
      · replace HU := Lib.hid (HU.out.trans (if_neg (by omega)))
        have r4 := fun W => SlB.head4_run (a := some ⟨g, o, none⟩) (n := l.length) (c := c) (by omega) hc W
        rw [show (some (⟨g, o, none⟩ : Addr)).map (·.add 0) = some ⟨g, o, none⟩ from rfl] at r4
        obtain ⟨A8, hA8⟩ := cut_some ⟨g, o, none⟩ c 8
        have r8 : ∀ W, (Instr.slice 29 (.slice (some ⟨g, o, none⟩) l.length c) (some (.int .i64 8)) (some (.int .i64 (8 + (m : Int)))) none).run Tryz.prog W = .ok (.slice (some A8) m (c - 8)) W := fun W => by rw [← hA8]; exact mid_run (a := some ⟨g, o, none⟩) (n := l.length) (c := c) (i := 8) (k := m) (by omega) W (8 + m) (by omega)
        have rd : ∀ W, (Instr.slice 29 (.slice (some ⟨g, o, none⟩) l.length c) (some (.int .i64 4)) none none).run Tryz.prog W = .ok (cutV (.slice (some ⟨g, o, none⟩) l.length c) 4) W := fun W => HV.out.cut_run 4 (by omega) W
        have S4 : SlB w.heap.size w (.slice (some ⟨g, o, none⟩) 4 c) (l.take 4) := HV.out.head 4 (by omega) rfl
        have C4 := HV.out.cut 4 (by omega)
        have C8 := HV.out.cut 8 (by omega)
        have eq4 : cutV (.slice (some ⟨g, o, none⟩) l.length c) 4 = .slice (some ⟨g, o + 4, none⟩) (l.length - 4) (c - 4) := by
          simp only [cutV]; rw [if_neg (by omega)]; simp [Addr.add]
        have eq8 : cutV (.slice (some ⟨g, o, none⟩) l.length c) 8 = .slice (some A8) (l.length - 8) (c - 8) := by
          rw [← hA8]; rfl
        rw [eq4] at C4 rd
        rw [eq8] at C8
        have S8 : SlB w.heap.size w (.slice (some A8) m (c - 8)) ((l.drop 8).take m) := C8.head m (by rw [List.length_drop]; omega) rfl
        have SE := Lib.hid (fun W (h : Below w.heap.size w W) => seal_any _ _ _ _ w.heap.size W (S4.below h) (S8.below h) (by rw [List.length_take]; omega) (by rw [List.length_take, List.length_drop]; omega))
        have F4 := Lib.hid (fun W (h : Below w.heap.size w W) => fourth_any _ _ w.heap.size W (C4.below h) (by rw [List.length_drop]; omega) (by rw [List.length_drop]; omega))
        have S8' := Lib.hid S8
        have hl2 : ([] : List UInt8).length + ((l.drop 8).take m).length ≤ 140737488355328 := by rw [List.length_take, List.length_drop]; simp; omega
        have q1 : ¬ (262144 : Int) < (m : Int) := by omega
        have q2 : ¬ (l.length : Int) - 8 < (m : Int) := by omega
        clear S4 S8 C4 C8 eq4 eq8 hA8
        generalize sealL (l.take 4) ((l.drop 8).take m) = sl at *
        generalize num32 ((l.drop 4).take 4) = nm at *
        generalize (l.drop 8).take m = body at *
        by_cases h3 : sl = nm
        · have e := Lib.hid (HU.out.trans (if_neg (by simp [h3])))
          subst h3
          have hnn := bne_self_eq_false sl
          go_enter Tryz.func73, Tryz.ntmps73
          go_wp2_with fail
          refine F.out.mono ?_
          rintro e w1 ⟨rfl, rfl⟩
          go_wp2_with fail
          go_quiet ((first | (go_at_call 87; exact Calls.quiet_of_same ((SE.out _ (by first | exact Below.refl _ _ | exact below_drewN (Below.refl _ _) _)).mono (fun e w' h => ⟨h.1, h.2.symm⟩))) | (go_at_call 112; exact Calls.quiet_of_same ((F4.out _ (by first | exact Below.refl _ _ | exact below_drewN (Below.refl _ _) _)).mono (fun e w' h => ⟨h.1, h.2.symm⟩)))))
          have HBq := Lib.hid (below_drewN (Below.refl w.heap.size w) nq)
          have hbq : w.heap.size ≤ (w.drewN nq).heap.size := Nat.le_refl _
          go_wp2_with (at_builtin; go_must (refine ap_sl rfl (.const (.slice none 0 0)) (.tmp 36) rfl w.heap.size (.slice none 0 0) [] w.heap.size _ body rfl rfl (S8'.out.below HBq.out) (OwnB.nil _ _) HBq.out hbq hl2 ?_); intro v4 w4 hO4 hB4 hz4 _)
          go_ret3
          rw [e.out]
          rw [List.nil_append] at hO4
          exact ⟨_, ret_unf (show (m : Int) + 8 = ((m + 8 : Nat) : Int) by omega), hO4, hB4⟩
        · have e := Lib.hid (HU.out.trans (if_pos h3))
          have hnn : (sl != nm) = true := by rw [bne_iff_ne]; exact h3
          go_enter Tryz.func73, Tryz.ntmps73
          go_wp2_with fail
          refine F.out.mono ?_
          rintro e w1 ⟨rfl, rfl⟩
          go_wp2_with fail
          go_quiet ((first | (go_at_call 87; exact Calls.quiet_of_same ((SE.out _ (by first | exact Below.refl _ _ | exact below_drewN (Below.refl _ _) _)).mono (fun e w' h => ⟨h.1, h.2.symm⟩))) | (go_at_call 112; exact Calls.quiet_of_same ((F4.out _ (by first | exact Below.refl _ _ | exact below_drewN (Below.refl _ _) _)).mono (fun e w' h => ⟨h.1, h.2.symm⟩)))))
          go_wp2_with fail
          go_ret3
          rw [e.out]
          exact ⟨_, rfl, OwnB.nil _ _, below_drewN (Below.refl _ _) _⟩
end Go.Proofs.YtplghaoflmaadaaGreatDoor
end

section
set_option linter.unusedVariables false
set_option linter.unusedSimpArgs false
set_option maxRecDepth 20000
namespace Go.Proofs.YtplghaoflmaadaaGreatDoor
open Go.RowKit

set_option maxHeartbeats 1000000 in
theorem rFrame_any (v : Value) (l : List UInt8) (w : World) (hv : SlB w.heap.size w v l) (hl : l.length ≤ 1000000) :
    Calls Tryz.prog 47 #[v] w (RetB w.heap.size w (frameL l)) := by
  have HV := Lib.hid hv
  obtain ⟨a, c, rfl, hc, hx⟩ := hv.ex
  clear hx hv
  by_cases hg : 262144 < l.length
  · have e : frameL l = [] := if_neg (by omega)
    rw [e]
    go_enter Tryz.func47, Tryz.ntmps47
    go_wp2_with fail
    go_ret
    exact ⟨_, rfl, OwnB.nil _ _, Below.refl _ _⟩
  · have e : frameL l = fourL l.length ++ fourL (sealL (fourL l.length) l) ++ l := if_pos (by omega)
    have hsr := sealL_range (fourL l.length) l
    have F1 := Lib.hid (rFour_any (l.length : Int) w (by omega) (by omega))
    have SM := Lib.hid (fun W v2 (hO : OwnB W w.heap.size v2 (fourL l.length ++ l)) => rSum_any v2 _ W.heap.size W hO.slB (by rw [List.length_append, fourL_length]; omega))
    have F2 := Lib.hid (fun W => rFour_any (sealL (fourL l.length) l) W hsr.1 hsr.2)
    have hl1 : ([] : List UInt8).length + (fourL (l.length : Int)).length ≤ 140737488355328 := by rw [fourL_length]; simp
    have hl2 : ([] ++ fourL (l.length : Int)).length + l.length ≤ 140737488355328 := by rw [List.nil_append, fourL_length]; omega
    have hl3 : (fourL (l.length : Int)).length + (fourL (sealL (fourL l.length) l)).length ≤ 140737488355328 := by rw [fourL_length, fourL_length]; omega
    have hl4 : (fourL (l.length : Int) ++ fourL (sealL (fourL l.length) l)).length + l.length ≤ 140737488355328 := by rw [List.length_append, fourL_length, fourL_length]; omega
    generalize hn : fourL (l.length : Int) = n4 at *
    generalize hs : fourL (sealL n4 l) = s4 at *
    clear hn
    have HS4 := Lib.hid hs; clear hs
    have E := Lib.hid e; clear e
    go_enter Tryz.func47, Tryz.ntmps47
    go_wp2_with fail
    refine F1.out.mono ?_
    rintro e w1 ⟨v1, rfl, hO1, hb1⟩
    have HO1 := Lib.hid hO1; have HB1 := Lib.hid hb1; clear hO1 hb1
    have HB1' := Lib.hid (below_alloc HB1.out (.cells #[] 5))
    have HL := Lib.hid (OwnB.lit w1 w1.heap.size #[] [] 0 (Nat.le_refl _) rfl (by simp) (by simp [bcells]))
    have HO1' := Lib.hid (HO1.out.alloc (.cells #[] 5))
    have hsz : w1.heap.size ≤ (w1.alloc (.cells #[] 5)).heap.size := by simp
    have HSZ := Lib.hid hsz; clear hsz
    have HBL := Lib.hid (below_alloc (Below.refl _ w1) (.cells #[] 5))
    go_wp2_with (at_builtin; first | (refine ap_sl rfl (.tmp 12) (.tmp 13) rfl w1.heap.size (.slice (some ⟨w1.heap.size, 0, none⟩) 0 0) [] _ v1 n4 rfl rfl HO1'.out.slB HL.out HBL.out HSZ.out hl1 ?_; intro v2 w2 hO2 hB2 hz2 _) | (refine ap_sl rfl (.tmp 14) (.tmp 15) rfl w1.heap.size _ _ w1.heap.size _ l rfl rfl ((HV.out.keep HB1.out).below hB2) hO2 hB2 hz2 hl2 ?_; intro v3 w3 hO3 hB3 hz3 _))
    rw [List.nil_append] at hO3
    have hO3' := hO3.weaken HB1.out.size
    have HB3 := Lib.hid hB3
    clear hO3 hO2 hB2 hz2 hB3 hz3
    refine (SM.out w3 v3 hO3').mono ?_
    rintro e w3_ ⟨rfl, rfl⟩
    clear hO3'
    have HS : (4294967295 : Int) - crcL 4294967295 (n4 ++ l) = sealL n4 l := (seal_app n4 l).symm
    have hO1' := (HO1.out.below HB3.out)
    have HO1x := Lib.hid hO1'; clear hO1'
    have HBx := Lib.hid (below_tr HB1.out HB3.out)
    go_wp2_with fail
    refine (F2.out w3).mono ?_
    rintro e w4 ⟨v4, rfl, hO4, hb4⟩
    have HO4 := Lib.hid hO4
    have HB4 := Lib.hid (below_tr HBx.out hb4)
    have HO1y := Lib.hid (HO1x.out.below hb4)
    clear hO4 hb4 HS
    have hz4 := HB4.out.size
    have HB4' := Lib.hid (show Below w.heap.size w w4 from HB4.out)
    go_wp2_with (at_builtin; first | (refine ap_sl rfl (.tmp 18) (.tmp 20) rfl w.heap.size v1 n4 w4.heap.size v4 s4 rfl rfl HO4.out.slB HO1y.out HB4'.out hz4 hl3 ?_; intro v5 w5 hO5 hB5 hz5 _) | (refine ap_sl rfl (.tmp 21) (.tmp 22) rfl w.heap.size _ _ w.heap.size _ l rfl rfl (HV.out.below hB5) hO5 hB5 hz5 hl4 ?_; intro v6 w6 hO6 hB6 hz6 _))
    go_ret
    exact ⟨_, rfl, by rw [E.out, ← HS4.out] at *; exact hO6, hB6⟩


def unframeR (o : List UInt8 × Nat × Int) (base : Nat) (w : World) (e : Ending) (w' : World) : Prop := ∃ v, e = .returned (.tuple #[v, .int .i64 (o.2.1 : Int), .int .i64 o.2.2]) ∧ OwnB w' base v o.1 ∧ Below base w w'
set_option maxHeartbeats 1000000 in
theorem rUnframe_any (v : Value) (l : List UInt8) (w : World) (hv : SlB w.heap.size w v l) (hl : l.length ≤ 1000000) :
    Calls Tryz.prog 95 #[v] w (unframeV (unframeL l) w.heap.size w) := by
  have HV := Lib.hid hv
  obtain ⟨a, c, rfl, hc, hx⟩ := hv.ex
  clear hv
  by_cases h8 : l.length < 8
  · have e : unframeL l = ([], 0, 10) := by unfold unframeL; rw [if_pos h8]
    rw [e]
    clear hx
    go_enter Tryz.func95, Tryz.ntmps95
    go_wp2_with fail
    go_ret3
    exact ⟨_, rfl, OwnB.nil _ _, Below.refl _ _⟩
  · have F := Lib.hid (rFourth_any (.slice a l.length c) l w.heap.size w HV.out (by omega) hl)
    have hr := num32_range (l.take 4) (by rw [List.length_take]; omega)
    obtain ⟨g, o, rfl, hg, hcell⟩ := hx (by omega)
    clear hcell
    have hU : unframeL l = if 262144 < num32 (l.take 4) then ([], 0, 6) else if (l.length : Int) - 8 < num32 (l.take 4) then ([], 0, 10)
      else if sealL (l.take 4) ((l.drop 8).take (num32 (l.take 4)).toNat) ≠ num32 ((l.drop 4).take 4) then ([], 0, 8)
      else ((l.drop 8).take (num32 (l.take 4)).toNat, (num32 (l.take 4)).toNat + 8, 0) := by unfold unframeL; rw [if_neg h8]
    generalize num32 (l.take 4) = n at *
    obtain ⟨m, rfl⟩ : ∃ m : Nat, n = m := ⟨n.toNat, by omega⟩
    rw [Int.toNat_natCast] at hU
    have HU := Lib.hid hU; have hm32 : (m : Int) ≤ 4294967295 := by omega
    clear hU hr
    by_cases h1 : 262144 < m
    · have e := Lib.hid (HU.out.trans (if_pos (by omega)))
      go_enter Tryz.func95, Tryz.ntmps95
      go_wp2_with fail
      refine F.out.mono ?_
      rintro e w1 ⟨rfl, nd, rfl⟩
      go_wp2_with fail
      go_ret3
      rw [e.out]
      exact ⟨_, rfl, OwnB.nil _ _, below_drewN (Below.refl _ _) _⟩
    · replace HU := Lib.hid (HU.out.trans (if_neg (by omega)))
      by_cases h2 : l.length < m + 8
      · have e := Lib.hid (HU.out.trans (if_pos (by omega)))
        have q1 : ¬ (262144 : Int) < (m : Int) := by omega
        have q2 : (l.length : Int) - 8 < (m : Int) := by omega
        go_enter Tryz.func95, Tryz.ntmps95
        go_wp2_with fail
        refine F.out.mono ?_
        rintro e w1 ⟨rfl, nd, rfl⟩
        go_wp2_with fail
        go_ret3
        rw [e.out]
        exact ⟨_, rfl, OwnB.nil _ _, below_drewN (Below.refl _ _) _⟩
      · replace HU := Lib.hid (HU.out.trans (if_neg (by omega)))
        have r4 := fun W => SlB.head4_run (a := some ⟨g, o, none⟩) (n := l.length) (c := c) (by omega) hc W
        rw [show (some (⟨g, o, none⟩ : Addr)).map (·.add 0) = some ⟨g, o, none⟩ from rfl] at r4
        obtain ⟨A8, hA8⟩ := cut_some ⟨g, o, none⟩ c 8
        have r8 : ∀ W, (Instr.slice 29 (.slice (some ⟨g, o, none⟩) l.length c) (some (.int .i64 8)) (some (.int .i64 (8 + (m : Int)))) none).run Tryz.prog W = .ok (.slice (some A8) m (c - 8)) W := fun W => by rw [← hA8]; exact mid_run (a := some ⟨g, o, none⟩) (n := l.length) (c := c) (i := 8) (k := m) (by omega) W (8 + m) (by omega)
        have rd : ∀ W, (Instr.slice 29 (.slice (some ⟨g, o, none⟩) l.length c) (some (.int .i64 4)) (some (.int .i64 8)) none).run Tryz.prog W = .ok (.slice (some ⟨g, o + 4, none⟩) 4 (c - 4)) W := fun W => by
          have := mid_run (a := some ⟨g, o, none⟩) (n := l.length) (c := c) (i := 4) (k := 4) (by omega) W 8 (by omega)
          rw [if_neg (by omega)] at this
          exact this
        have S4 : SlB w.heap.size w (.slice (some ⟨g, o, none⟩) 4 c) (l.take 4) := HV.out.head 4 (by omega) rfl
        have C4 := HV.out.cut 4 (by omega)
        have C8 := HV.out.cut 8 (by omega)
        have eq4 : cutV (.slice (some ⟨g, o, none⟩) l.length c) 4 = .slice (some ⟨g, o + 4, none⟩) (l.length - 4) (c - 4) := by
          simp only [cutV]; rw [if_neg (by omega)]; simp [Addr.add]
        have eq8 : cutV (.slice (some ⟨g, o, none⟩) l.length c) 8 = .slice (some A8) (l.length - 8) (c - 8) := by
          rw [← hA8]; rfl
        rw [eq4] at C4
        rw [eq8] at C8
        have S8 : SlB w.heap.size w (.slice (some A8) m (c - 8)) ((l.drop 8).take m) := C8.head m (by rw [List.length_drop]; omega) rfl
        have S44 : SlB w.heap.size w (.slice (some ⟨g, o + 4, none⟩) 4 (c - 4)) ((l.drop 4).take 4) := C4.head 4 (by rw [List.length_drop]; omega) rfl
        have hlb : ((l.drop 8).take m).length ≤ 1000000 := by rw [List.length_take, List.length_drop]; omega
        have hl4 : (l.take 4).length = 4 := by rw [List.length_take]; omega
        have hl44 : ((l.drop 4).take 4).length = 4 := by rw [List.length_take, List.length_drop]; omega
        have SM := Lib.hid (fun W v2 (h : SlB W.heap.size W v2 (l.take 4 ++ (l.drop 8).take m)) => rSum_any v2 _ W.heap.size W h (by rw [List.length_append, hl4]; omega))
        have F4 := Lib.hid (fun W (h : Below w.heap.size w W) => rFourth_any _ _ w.heap.size W (S44.below h) (by omega) (by omega))
        have tk : ((l.drop 4).take 4).take 4 = (l.drop 4).take 4 := List.take_of_length_le (by omega)
        rw [tk] at F4
        have SA := seal_app (l.take 4) ((l.drop 8).take m)
        rw [← SA] at SM
        have S8' := Lib.hid S8; have S4' := Lib.hid S4; have HL4 := Lib.hid hl4; have HLB := Lib.hid hlb
        clear S4 S8 C4 C8 eq4 eq8 hA8 S44 hl4 hl44 tk SA hlb
        generalize sealL (l.take 4) ((l.drop 8).take m) = sl at *
        generalize num32 ((l.drop 4).take 4) = nm at *
        generalize (l.drop 8).take m = body at *
        generalize l.take 4 = hd at *
        have q1 : ¬ (262144 : Int) < (m : Int) := by omega
        have q2 : ¬ (l.length : Int) - 8 < (m : Int) := by omega
        go_enter Tryz.func95, Tryz.ntmps95
        go_wp2_with fail
        refine F.out.mono ?_
        rintro e w1 ⟨rfl, nd, rfl⟩
        have HB0 := Lib.hid (below_drewN (Below.refl w.heap.size w) nd)
        generalize hw1 : w.drewN nd = w1 at *
        have hsw : w.heap.size ≤ w1.heap.size := by rw [← hw1]; exact Nat.le_refl _
        clear hw1
        have HSW := Lib.hid hsw; clear hsw
        have HLT := Lib.hid (OwnB.lit w1 w1.heap.size #[] [] 0 (Nat.le_refl _) rfl (by simp) (by simp [bcells]))
        have HBT := Lib.hid (below_alloc (Below.refl _ w1) (.cells #[] 5))
        have hl2 : ([] : List UInt8).length + body.length ≤ 140737488355328 := by have := HLB.out; simp; omega
        have S8x := Lib.hid ((S8'.out.below (below_al HB0.out (.cells #[] 5) HSW.out)))
        go_wp2_with (at_builtin; go_must (refine ap_sl rfl (.tmp 22) (.tmp 26) rfl w1.heap.size (.slice (some ⟨w1.heap.size, 0, none⟩) 0 0) [] w.heap.size _ body rfl rfl S8x.out HLT.out HBT.out HBT.out.size hl2 ?_); intro v2 w2 hO2 hB2 hz2 _)
        rw [List.nil_append] at hO2
        have HO2 := Lib.hid hO2
        have HB2 := Lib.hid (show Below w.heap.size w w2 from HB0.out.trans (hB2.mono HSW.out))
        clear hO2 hB2 hz2 HLT HBT S8x
        have HD := Lib.hid (show 0 < hd.length by have := HL4.out; omega)
        have HD2 := Lib.hid (show hd.length ≤ 140737488355328 by have := HL4.out; omega)
        have HD3 := Lib.hid (show hd.length + body.length ≤ 140737488355328 by have := HL4.out; have := HLB.out; omega)
        have HO2s := Lib.hid HO2.out.slB
        clear HL4 HLB
        go_region_held3 (fun w' => InW w2 w')
          (repeat (first
            | exact InW.refl _
            | with_reducible assumption
            | refine InW.drew ?_
            | refine InW.drewN ?_ _
            | refine InW.al ?_ _
            | exact InW.tr (by with_reducible assumption) (by with_reducible assumption)
            | refine InW.grown ?_ (by with_reducible assumption) (by first | (intro k hk; cases hk; done) | (intro k hk; exact OwnB.base hO3' k hk))))
          (first
            | (refine st_grow (by rfl) (.tmp 28) (.tmp 30) (by rfl) _ w.heap.size _ hd (by rfl) (by rfl) (S4'.out.below (HB2.out.trans ((‹InW w2 _› : Below _ _ _).mono HB2.out.size))) HD.out HD2.out ?_; intro v3 w3 hO3 hg3; have hO3' := OwnB.weaken hO3 (Below.size (‹InW w2 _› : Below _ _ _)); clear hO3)
            | (refine st_sl (by rfl) (.tmp 31) (.tmp 32) (by rfl) w2.heap.size v3 hd w2.heap.size v2 body (by rfl) (by rfl) (HO2s.out.below (‹InW w2 _› : Below _ _ _)) hO3' (Below.size (‹InW w2 _› : Below _ _ _)) HD3.out ?_; intro v4 w4 hO4 hg4)
            | (go_at_call 119; refine (F4.out _ (HB2.out.trans ((‹InW w2 _› : Below _ _ _).mono HB2.out.size))).mono ?_; rintro e w' ⟨rfl, nq, rfl⟩)
            | (go_at_call 53; refine (SM.out _ _ (OwnB.slB hO4)).mono ?_; rintro e w' ⟨rfl, rfl⟩))
        have HF := (‹InW w2 _› : Below _ _ _)
        have HFB := Lib.hid (HB2.out.trans (HF.mono HB2.out.size))
        have HO2f := Lib.hid ((HO2.out.below HF).weaken HSW.out)
        clear HF hg3 hO3' hO4 hg4
        by_cases h3 : sl = nm
        · have e := Lib.hid (HU.out.trans (if_neg (by simp [h3])))
          subst h3
          have hnn := bne_self_eq_false sl
          go_wp2_with fail
          go_ret3
          rw [e.out]
          exact ⟨_, ret_unf (show (m : Int) + 8 = ((m + 8 : Nat) : Int) by omega), HO2f.out, HFB.out⟩
        · have e := Lib.hid (HU.out.trans (if_pos h3))
          have hnn : (sl != nm) = true := by rw [bne_iff_ne]; exact h3
          go_wp2_with fail
          go_ret3
          rw [e.out]
          exact ⟨_, rfl, OwnB.nil _ _, HFB.out⟩
end Go.Proofs.YtplghaoflmaadaaGreatDoor
end
