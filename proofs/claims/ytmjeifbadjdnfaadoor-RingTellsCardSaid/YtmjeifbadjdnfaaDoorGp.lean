/- The law RingTells. Condition: the law's bounds. -/
import Derived.Test.YtmjeifbadjdnfaaDoorGo
set_option linter.unusedVariables false
set_option linter.unusedSimpArgs false
set_option maxRecDepth 50000
namespace Go.Proofs.YtmjeifbadjdnfaaDoor
open Go.RowKit Go.Sort

set_option maxHeartbeats 16000000 in
theorem RingTells_walk (n k c t i : Int) (w : World) (_t0 : -9223372036854775808 ≤ t) (_t1 : t ≤ 9223372036854775807) (i0 : -9223372036854775808 ≤ i) (i1 : i ≤ 9223372036854775807) : Calls Tryd.prog 7 #[.agg #[.int .i64 n, .int .i64 k, .int .i64 c], .int .i64 t, .int .i64 i] w fun e w' => e = .returned (.bool true) ∧ Below w.heap.size w w' := by
  have LV := Lib.hid (fun W => lives15 W)
  have HB0 := Lib.hid (below_alloc (Below.refl _ w) (.cells #[.int .i64 n, .int .i64 k, .int .i64 c] 45))
  have b0 := Blk.new w 45 #[.int .i64 n, .int .i64 k, .int .i64 c]
  have x0 := b0.cell 0 (v := .int .i64 n) rfl; have x1 := b0.cell 1 (v := .int .i64 k) rfl; have x2 := b0.cell 2 (v := .int .i64 c) rfl
  clear b0
  go_enter Tryd.func7, Tryd.ntmps7
  go_wp2_with fail
  generalize w.alloc (.cells #[.int .i64 n, .int .i64 k, .int .i64 c] 45) = W0 at *
  have HS : ∀ w', Below W0.heap.size W0 w' → (InW W0 w' ∧ w'.cell? ⟨w.heap.size, 0, none⟩ = some (.int .i64 n) ∧ w'.cell? ⟨w.heap.size, 1, none⟩ = some (.int .i64 k) ∧ w'.cell? ⟨w.heap.size, 2, none⟩ = some (.int .i64 c)) :=
    fun w' h => ⟨h, cell_keep h x0, cell_keep h x1, cell_keep h x2⟩
  have HS' := Lib.hid HS; clear HS
  by_cases hbad : badS n k c
  · have NB := Lib.hid (fun W => New_bad n k c W hbad)
    have RB := Lib.hid (fun W => rNew_bad n k c W hbad)
    go_region_held3 (fun w' => InW W0 w' ∧ w'.cell? ⟨w.heap.size, 0, none⟩ = some (.int .i64 n) ∧ w'.cell? ⟨w.heap.size, 1, none⟩ = some (.int .i64 k) ∧ w'.cell? ⟨w.heap.size, 2, none⟩ = some (.int .i64 c))
      (first | assumption | exact HS'.out _ (by repeat (first | exact Below.refl _ _ | exact (show Below W0.heap.size W0 _ from And.left (by assumption)) | exact below_tr (show Below W0.heap.size W0 _ from And.left (by assumption)) (by assumption) | refine Below.drew ?_ | refine below_alloc ?_ _)))
      (first | (go_at_call 20; refine (NB.out _).mono ?_; rintro e w' ⟨rfl, rfl⟩) | (go_at_call 21; refine (RB.out _).mono ?_; rintro e w' ⟨rfl, rfl⟩))
    all_goals have hB := (‹InW W0 _ ∧ _›).1
    all_goals go_wp2_with fail
    all_goals (
      refine (LV.out _).mono ?_
      rintro e w1 ⟨rfl, hb⟩
      go_wp2_with fail
      go_ret
      exact ⟨rfl, below_tr HB0.out (below_tr (show Below W0.heap.size W0 _ from hB) hb)⟩)
  · unfold badS at hbad
    obtain ⟨n, rfl⟩ : ∃ m : Nat, n = m := ⟨n.toNat, by omega⟩
    obtain ⟨k, rfl⟩ : ∃ m : Nat, k = m := ⟨k.toNat, by omega⟩
    obtain ⟨c, rfl⟩ : ∃ m : Nat, c = m := ⟨c.toNat, by omega⟩
    have N1 := Lib.hid (fun W => New_any n k c W (by omega) (by omega) (by omega) (by omega) (by omega) (by omega))
    have N2 := Lib.hid (fun W => rNew_any n k c W (by omega) (by omega) (by omega) (by omega) (by omega) (by omega))
    have hlen := ring_len n k (by omega) (by omega)
    have hpos := ring_pos n k (by omega) (by omega)
    have hnod := ring_nod n k (by omega)
    have hP := ringL_ring tokT n k c (by omega) (by omega) (by omega)
    have hc5 : c ≤ 5 := by omega
    have hc0 : 0 < c := by omega
    generalize ringL tokT n k = L at *
    go_region_held3 (fun w' => InW W0 w' ∧ w'.cell? ⟨w.heap.size, 0, none⟩ = some (.int .i64 (n : Int)) ∧ w'.cell? ⟨w.heap.size, 1, none⟩ = some (.int .i64 (k : Int)) ∧ w'.cell? ⟨w.heap.size, 2, none⟩ = some (.int .i64 (c : Int)))
      (first | assumption | exact HS'.out _ (by repeat (first | exact Below.refl _ _ | exact (show Below W0.heap.size W0 _ from And.left (by assumption)) | exact below_tr (show Below W0.heap.size W0 _ from And.left (by assumption)) (by assumption) | refine Below.drew ?_ | refine below_alloc ?_ _)))
      (first | (go_at_call 20; refine (N1.out _).mono ?_; rintro e w' ⟨g1, l1, k1, rfl, hr1, hb1⟩) | (go_at_call 21; refine (N2.out _).mono ?_; rintro e w' ⟨g2, l2, k2, rfl, hr2, hb2⟩))
    have hB := (show Below W0.heap.size W0 w' from (‹InW W0 w' ∧ _›).1)
    have t1 : Two15 w' g1 l1 k1 g2 l2 k2 L (c : Int) := by first | exact ⟨hr1.keep hb2, hr2⟩ | exact ⟨hr1, hr2.keep hb1⟩
    have T1 := Lib.hid t1; have B1 := Lib.hid (HB0.out.trans (hB.mono HB0.out.size))
    clear hB t1 hr1 hr2 hb1 hb2 HS' x0 x1 x2 N1 N2
    have PO := Lib.hid (fun W (h : RingAt eP W g1 l1 0 k1 L (c : Int)) => Points_any g1 l1 0 k1 L (c : Int) W h (by omega) hlen)
    go_wp2_with fail
    refine (PO.out _ T1.out.a).mono ?_
    rintro e W2 ⟨v, rfl, hO, hb⟩
    obtain ⟨gx, cx, rfl, _⟩ := OwnX.formN hO L.length rfl hpos
    have T2 := Lib.hid (T1.out.keep hb); have B2 := Lib.hid (below_tr B1.out hb)
    have PS := Lib.hid hO.sl
    clear hO hb PO T1 B1
    have CO := Lib.hid (fun W (h : InW W2 W) => Copies_any g1 (c : Int) W (T2.out.keep h).a.c1 (by omega))
    have R1 := Lib.hid (fun t W (h : InW W2 W) => Range_any g1 l1 0 k1 L (c : Int) t W (T2.out.keep h).a (by omega) hpos hlen hP.sorted)
    have R2 := Lib.hid (fun t W (h : InW W2 W) => rRange_any g2 l2 0 k2 L (c : Int) t W (T2.out.keep h).b hlen hP.sorted)
    have P1 := Lib.hid (fun j W (h : InW W2 W) => Replicas_any g1 l1 0 k1 L c j W (T2.out.keep h).a hc0 hc5 hlen hnod)
    have P2 := Lib.hid (fun j W (h : InW W2 W) (a0 : -9223372036854775808 ≤ j) (a1 : j ≤ 9223372036854775807) => rReplicas_any g2 l2 0 k2 L n c j W (T2.out.keep h).b hc5 hlen hP a0 a1)
    have H1 := Lib.hid (fun j m W (h : InW W2 W) => Has_any g1 l1 0 k1 L c j m W (T2.out.keep h).a hc0 hc5 hlen hnod)
    have H2 := Lib.hid (fun j m W (h : InW W2 W) (a0 : -9223372036854775808 ≤ j) (a1 : j ≤ 9223372036854775807) => rHas_any g2 l2 0 k2 L n c j m W (T2.out.keep h).b hc5 hlen hP a0 a1)
    have G1 := Lib.hid (fun m W (h : InW W2 W) => Ranges_any g1 l1 0 k1 L c m W (T2.out.keep h).a hc0 hc5 hpos hlen hnod)
    have G2 := Lib.hid (fun m W (h : InW W2 W) => rRanges_any g2 l2 0 k2 L n c m W (T2.out.keep h).b hc5 hlen hP)
    have IN := Lib.hid (fun v1 v2 (l : List Int) W (h1 : SlX eI W.heap.size W v1 l) (h2 : SlX eI W.heap.size W v2 l) (hl : l.length ≤ 1000000) => Ints_any v1 v2 l l W h1 h2 hl hl)
    have LR := Lib.hid (fun j => repOf_len L c j)
    have LG := Lib.hid (fun m => rangesTo_length_le L c m L.length)
    have q0 := T2.out.b.c0; have q1 := T2.out.b.c1
    have HS : ∀ w', Below W2.heap.size W2 w' → (InW W2 w' ∧ w'.cell? ⟨g2, 0, none⟩ = some (.slice (some ⟨l2, 0, none⟩) L.length k2) ∧ w'.cell? ⟨g2, 1, none⟩ = some (.int .i64 (c : Int))) := fun w' h => ⟨h, cell_keep h q0, cell_keep h q1⟩
    have HS' := Lib.hid HS; clear HS
    clear hP hnod q0 q1
    have hi0 := i0
    go_wp2_with fail
    go_region_held3 (fun w' => InW W2 w' ∧ w'.cell? ⟨g2, 0, none⟩ = some (.slice (some ⟨l2, 0, none⟩) L.length k2) ∧ w'.cell? ⟨g2, 1, none⟩ = some (.int .i64 (c : Int)))
      (first | assumption | exact HS'.out _ (by repeat (first | exact Below.refl _ _ | exact (show Below W2.heap.size W2 _ from And.left (by assumption)) | exact below_tr (show Below W2.heap.size W2 _ from And.left (by assumption)) (by assumption) | refine Below.drew ?_ | refine below_alloc ?_ _)))
      (first
        | (go_at_call 25; refine (CO.out _ (‹InW W2 _ ∧ _›).1).mono ?_; rintro e w' ⟨rfl, rfl⟩)
        | (go_at_call 26; refine (R1.out _ _ (‹InW W2 _ ∧ _›).1).mono ?_; rintro e w' ⟨rfl, hb⟩)
        | (go_at_call 27; refine (R2.out _ _ (‹InW W2 _ ∧ _›).1).mono ?_; rintro e w' ⟨rfl, hb⟩)
        | (go_at_call 29; refine (P1.out _ _ (‹InW W2 _ ∧ _›).1).mono ?_; rintro e w' ⟨v1, rfl, hO1, hb1⟩)
        | (go_at_call 30; refine (P2.out _ _ (‹InW W2 _ ∧ _›).1 hi0 i1).mono ?_; rintro e w' ⟨v2, rfl, hO2, hb2⟩)
        | (go_at_call 28; (first | refine (IN.out v1 v2 _ _ (hO1.below hb2).sl hO2.sl (Nat.le_trans (LR.out _) (by omega))).mono ?_ | refine (IN.out v1 v2 _ _ hO1.sl (hO2.below hb1).sl (Nat.le_trans (LR.out _) (by omega))).mono ?_); rintro e w' ⟨rfl, hb⟩))
    have hB3 := (show Below W2.heap.size W2 w' from (‹InW W2 w' ∧ _›).1)
    have B3 := Lib.hid hB3
    clear hO1 hO2 hb1 hb2 hb hB3 hbad i0 HS' CO
    go_wp2_with fail
    go_loopw [10, 74] (fun _ vi wr => ∃ j : Nat, j ≤ L.length ∧ vi = .int .i64 (j : Int) ∧ Below W2.heap.size W2 wr) (fun _ vi _ => L.length - (intOf vi).toNat)
    case atStart => exact ⟨0, by omega, rfl, B3.out⟩
    case round =>
      obtain ⟨j, hj, rfl, hBr⟩ := hrel
      have HBr := Lib.hid hBr
      clear hBr B3
      by_cases hlt : j < L.length
      · have hz : (j : Int) < (L.length : Int) := by omega
        obtain ⟨e0, e1⟩ := eP_cell PS.out j hlt
        obtain ⟨f0, f1⟩ := eQ_cell T2.out.b.s j hlt
        rw [Nat.zero_add] at e0 e1 f0 f1
        have q0 := T2.out.b.c0
        generalize L[j].1 = y1 at *
        generalize L[j].2 = y2 at *
        have HS : ∀ w', Below W2.heap.size W2 w' → (InW W2 w' ∧ w'.cell? ⟨g2, 0, none⟩ = some (.slice (some ⟨l2, 0, none⟩) L.length k2) ∧ w'.cell? ⟨gx, j * 2, none⟩ = some (.int .i64 y1) ∧ w'.cell? ⟨gx, j * 2 + 1, none⟩ = some (.int .i64 y2) ∧ w'.cell? ⟨l2, j * 2, none⟩ = some (.int .i64 y1) ∧ w'.cell? ⟨l2, j * 2 + 1, none⟩ = some (.int .i64 y2)) :=
          fun w' h => ⟨h, cell_keep h q0, cell_keep h e0, cell_keep h e1, cell_keep h f0, cell_keep h f1⟩
        have HS' := Lib.hid HS; clear HS
        have hh := HS'.out wr HBr.out
        have jb0 : -9223372036854775808 ≤ (j : Int) := by omega
        have jb1 : (j : Int) ≤ 9223372036854775807 := by omega
        clear q0 e0 e1 f0 f1
        obtain ⟨_, q0, e0, e1, f0, f1⟩ := hh
        go_wp2_with fail
        go_region_held3 (fun w' => InW W2 w' ∧ w'.cell? ⟨g2, 0, none⟩ = some (.slice (some ⟨l2, 0, none⟩) L.length k2) ∧ w'.cell? ⟨gx, j * 2, none⟩ = some (.int .i64 y1) ∧ w'.cell? ⟨gx, j * 2 + 1, none⟩ = some (.int .i64 y2) ∧ w'.cell? ⟨l2, j * 2, none⟩ = some (.int .i64 y1) ∧ w'.cell? ⟨l2, j * 2 + 1, none⟩ = some (.int .i64 y2))
          (first | assumption | exact HS'.out _ (by repeat (first | exact HBr.out | exact (show Below W2.heap.size W2 _ from And.left (by assumption)) | exact below_tr (show Below W2.heap.size W2 _ from And.left (by assumption)) (by assumption) | refine Below.drew ?_ | refine below_alloc ?_ _)))
          (first
            | (go_at_call 26; refine (R1.out _ _ (‹InW W2 _ ∧ _›).1).mono ?_; rintro e w' ⟨rfl, hb⟩)
            | (go_at_call 27; refine (R2.out _ _ (‹InW W2 _ ∧ _›).1).mono ?_; rintro e w' ⟨rfl, hb⟩)
            | (go_at_call 29; refine (P1.out _ _ (‹InW W2 _ ∧ _›).1).mono ?_; rintro e w' ⟨v1, rfl, hO1, hb1⟩)
            | (go_at_call 30; refine (P2.out _ _ (‹InW W2 _ ∧ _›).1 jb0 jb1).mono ?_; rintro e w' ⟨v2, rfl, hO2, hb2⟩)
            | (go_at_call 28; (first | refine (IN.out v1 v2 _ _ (hO1.below hb2).sl hO2.sl (Nat.le_trans (LR.out _) (by omega))).mono ?_ | refine (IN.out v1 v2 _ _ hO1.sl (hO2.below hb1).sl (Nat.le_trans (LR.out _) (by omega))).mono ?_); rintro e w' ⟨rfl, hb⟩))
        have hB4 := (show Below W2.heap.size W2 w' from (‹InW W2 w' ∧ _›).1)
        have B4 := Lib.hid hB4
        clear hO1 hO2 hb1 hb2 hb hB4 HS' q0 e0 e1 f0 f1
        go_wp2_with fail
        go_roundw
        case rel => exact ⟨j + 1, by omega, by first | rfl | go_num, B4.out⟩
        case measure => simp [intOf]; omega
      · have hz : ¬ (j : Int) < (L.length : Int) := by omega
        clear R1 R2 P1 P2 PS
        go_wp2_with fail
        go_loopw [11] (fun vm wr => ∃ m : Int, vm = .int .i64 m ∧ -1 ≤ m ∧ m ≤ 7 ∧ Below W2.heap.size W2 wr) (fun vm _ => (7 - intOf vm).toNat)
        case atStart => exact ⟨-1, rfl, by omega, by omega, HBr.out⟩
        case round =>
          obtain ⟨m, rfl, m0, m7, hBs⟩ := hrel
          have HBs := Lib.hid hBs
          clear hBs HBr
          by_cases h7 : m < 7
          · go_wp2_with fail
            refine (G1.out m _ HBs.out).mono ?_
            rintro e wa ⟨va, rfl, hOa, hba⟩
            have HBa := Lib.hid (below_tr HBs.out hba)
            go_wp2_with fail
            refine (G2.out m _ HBa.out).mono ?_
            rintro e wb ⟨vb, rfl, hOb, hbb⟩
            have HBb := Lib.hid (below_tr HBa.out hbb)
            have I1 := Lib.hid (IN.out va vb _ wb (hOa.below hbb).sl hOb.sl (Nat.le_trans (LG.out m) (by omega)))
            clear hOa hOb hba hbb HBa
            go_wp2_with fail
            refine I1.out.mono ?_
            rintro e wc ⟨rfl, hbc⟩
            have HBc := Lib.hid (below_tr HBb.out hbc)
            clear hbc HBb I1
            go_wp2_with fail
            refine (H1.out i m _ HBc.out).mono ?_
            rintro e wd ⟨rfl, hbd⟩
            have HBd := Lib.hid (below_tr HBc.out hbd)
            clear hbd HBc
            go_wp2_with fail
            refine (H2.out i m _ HBd.out hi0 i1).mono ?_
            rintro e we ⟨rfl, hbe⟩
            have HBe := Lib.hid (below_tr HBd.out hbe)
            clear hbe HBd
            go_wp2_with fail
            go_roundw
            case rel => exact ⟨m + 1, by first | rfl | (rw [show wrap64 (m + 1) = m + 1 by unfold wrap64; omega]), by omega, by omega, HBe.out⟩
            case measure => simp [intOf]; omega
          · go_wp2_with fail
            refine (LV.out _).mono ?_
            rintro e w5 ⟨rfl, hb⟩
            go_wp2_with fail
            go_ret
            exact ⟨rfl, below_tr (below_tr B2.out HBs.out) hb⟩
end Go.Proofs.YtmjeifbadjdnfaaDoor
