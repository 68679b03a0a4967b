/- The law ManifestBytes, walked: it returns true. Conditions: numbers are of int64; what came in takes at most the form's reach. -/
import Derived.Test.YtkmcjainbhmbdaaDoorNg
import Derived.Test.YtkmcjainbhmbdaaDoorSa
set_option linter.unusedVariables false
set_option linter.unusedSimpArgs false
set_option maxRecDepth 50000
namespace Go.Proofs.YtkmcjainbhmbdaaDoor
open Go.RowKit

theorem readM_len (b : List UInt8) : (readM b).1.1.length ≤ 30 := by
  have key : ∀ r : (List Int × Int × Int) × Int, (r = badM ∨ goodM r.1.1 r.1.2.1 r.1.2.2 = true) → r.1.1.length ≤ 30 := by
    rintro r (rfl | h)
    · simp [badM]
    · exact (goodM_pos h).2.2.2.2.1
  apply key
  unfold readM readM' endM
  split
  · rename_i h; exact .inr h.2.2
  · exact .inl rfl

set_option maxHeartbeats 4000000 in
theorem ManifestBytes_walk (v : Value) (l : List Int) (nx fr : Int) (vb : Value) (b : List UInt8) (n : Int) (w : World) (he : Env w) (hv : SlI w v l) (hl : l.length ≤ 140737488351232) (hb : SlB w.heap.size w vb b) (hbl : b.length ≤ 140737488351232)
    (n0 : -9223372036854775808 ≤ n) (n1 : n ≤ 9223372036854775807) :
    Calls Tryd.prog 3 #[.agg #[v, .int .i64 nx, .int .i64 fr], vb, .int .i64 n] w fun e w' => e = .returned (.bool true) ∧ Below w.heap.size w w' := by
  have HL := Lib.hid (fun W hE => lives13 W hE)
  have HV := Lib.hid hv
  have HVB := Lib.hid hb
  obtain ⟨a, c, rfl, _, _⟩ := hv.ex
  obtain ⟨ab, cb, rfl, _, _⟩ := hb.ex
  clear hv hb
  have hb0 := Lib.hid (below_alloc (Below.refl _ w) (.cells #[.slice a l.length c, .int .i64 nx, .int .i64 fr] 24))
  have K0 := Lib.hid (Blk.new w 24 #[.slice a l.length c, .int .i64 nx, .int .i64 fr])
  have he1 := Lib.hid (he.below hb0.out)
  have HE0 := Lib.hid he
  clear he
  by_cases g1 : (1000 : Int) < (l.length : Int)
  · go_enter Tryd.func3, Tryd.ntmps3
    go_wp2_with fail
    refine (HL.out _ he1.out).mono ?_
    rintro e w1 ⟨rfl, hb1⟩
    go_wp2_with fail
    go_ret
    exact ⟨rfl, below_tr hb0.out hb1⟩
  by_cases g2 : (5000 : Int) < (b.length : Int)
  · go_enter Tryd.func3, Tryd.ntmps3
    go_wp2_with fail
    refine (HL.out _ he1.out).mono ?_
    rintro e w1 ⟨rfl, hb1⟩
    go_wp2_with fail
    go_ret
    exact ⟨rfl, below_tr hb0.out hb1⟩
  have B1 := Lib.hid (fun W (h : Below w.heap.size w W) => mBytes_any (.slice a l.length c) l nx fr W (HV.out.below h) hl)
  have B2 := Lib.hid (fun W (h : Below w.heap.size w W) => rmBytes_any (.slice a l.length c) l nx fr W (HV.out.below h) hl)
  have P1 := Lib.hid (fun W => plain_any a l.length c nx fr W)
  have R1 := Lib.hid (fun W (h : Below w.heap.size w W) => mRead_any (.slice ab b.length cb) b W (HVB.out.keep h) (by omega))
  have R2 := Lib.hid (fun W (h : Below w.heap.size w W) => rmRead_any (.slice ab b.length cb) b W (HVB.out.keep h) (by omega))
  have G1 := Lib.hid (fun W (h : Below w.heap.size w W) => mGood_any (.slice a l.length c) l nx fr W (HV.out.below h) hl)
  have G2 := Lib.hid (fun W (h : Below w.heap.size w W) => rGood_any (.slice a l.length c) l nx fr W (HV.out.below h) hl)
  have F1 := Lib.hid (fun W hE => File_any n W hE)
  have F2 := Lib.hid (fun W => rFile_any n n0 n1 W)
  have BG1 := Lib.hid (fun W => Begin_any W)
  have BG2 := Lib.hid (fun W => rBegin_any W)
  have RL := readM_len b
  generalize bytesM l nx fr = bm at *
  generalize goodM l nx fr = gd at *
  generalize fileL n = fl at *
  generalize readM b = rb at *
  obtain ⟨⟨ts, qn, qf⟩, qe⟩ := rb
  obtain ⟨bb, be⟩ := bm
  have hgg := beq_self_eq_true gd
  have hee := beq_self_eq_true be
  have hqq := beq_self_eq_true qe
  have hff := beq_self_eq_true fl
  simp only at RL
  go_enter Tryd.func3, Tryd.ntmps3
  go_wp2_with fail
  generalize hW0 : w.alloc (.cells #[.slice a l.length c, .int .i64 nx, .int .i64 fr] 24) = W0 at *
  clear hW0
  refine (B1.out _ hb0.out).mono ?_
  rintro e w1 ⟨v1, rfl, hO1, hb1⟩
  have HB1 := Lib.hid (below_tr hb0.out hb1)
  have HO1 := Lib.hid hO1
  have K1 := Lib.hid (K0.out.below hb1)
  have k0 := K1.out.cell 0 rfl; have k1 := K1.out.cell 1 rfl; have k2 := K1.out.cell 2 rfl
  clear hO1 hb1
  go_wp2_with fail
  refine (P1.out w1).mono ?_
  rintro e w2 ⟨rfl, hb2⟩
  have HB2 := Lib.hid (below_tr HB1.out hb2)
  have HO2 := Lib.hid (HO1.out.below hb2)
  have K2 := Lib.hid (K1.out.below hb2)
  clear hb2 k0 k1 k2 HO1 K1 HB1
  go_wp2_with fail
  refine (B2.out w2 HB2.out).mono ?_
  rintro e w3 ⟨v3, rfl, hO3, hb3⟩
  have HB3 := Lib.hid (below_tr HB2.out hb3)
  have HO2' := Lib.hid (HO2.out.below hb3)
  have HO3 := Lib.hid hO3
  have K3 := Lib.hid (K2.out.below hb3)
  clear hb3 hO3 HO2 HB2 K2
  go_wp2_with fail
  refine (R1.out w3 HB3.out).mono ?_
  rintro e w4 ⟨a4, c4, rfl, hs4, hb4⟩
  simp only at hs4 ⊢
  have hal := below_alloc hb4 (.cells #[.slice a4 ts.length c4, .int .i64 qn, .int .i64 qf] 24)
  have HB4 := Lib.hid (below_tr HB3.out hal)
  have HO4 := Lib.hid (HO2'.out.below hal); have HO5 := Lib.hid (HO3.out.below hal)
  have K4 := Lib.hid (K3.out.below hal)
  have L4 := Lib.hid (Blk.new w4 24 #[.slice a4 ts.length c4, .int .i64 qn, .int .i64 qf])
  have HS4 := Lib.hid (hs4.below (below_alloc (Below.refl _ w4) (.cells #[.slice a4 ts.length c4, .int .i64 qn, .int .i64 qf] 24)))
  clear hal hb4 hs4 HO2' HO3 K3 HB3
  go_wp2_with fail
  generalize hgp : w4.heap.size = gp at *
  clear hgp
  generalize w4.alloc (.cells #[.slice a4 ts.length c4, .int .i64 qn, .int .i64 qf] 24) = W4 at *
  refine (R2.out W4 HB4.out).mono ?_
  rintro e w5 ⟨a5, c5, rfl, hs5, hb5⟩
  simp only at hs5 ⊢
  have hal := below_alloc hb5 (.cells #[.slice a5 ts.length c5, .int .i64 qn, .int .i64 qf] 32)
  have HB6 := Lib.hid (below_tr HB4.out hal)
  have HO6 := Lib.hid (HO4.out.below hal); have HO7 := Lib.hid (HO5.out.below hal)
  have K6 := Lib.hid (K4.out.below hal); have L6 := Lib.hid (L4.out.below hal)
  have M6 := Lib.hid (Blk.new w5 32 #[.slice a5 ts.length c5, .int .i64 qn, .int .i64 qf])
  have HS6 := Lib.hid (hs5.below (below_alloc (Below.refl _ w5) (.cells #[.slice a5 ts.length c5, .int .i64 qn, .int .i64 qf] 32)))
  have HS7 := Lib.hid (HS4.out.below hal)
  clear hal hb5 hs5 HO4 HO5 K4 L4 HB4 HS4
  go_wp2_with fail
  generalize hgq : w5.heap.size = gq at *
  clear hgq
  generalize w5.alloc (.cells #[.slice a5 ts.length c5, .int .i64 qn, .int .i64 qf] 32) = W6 at *
  have he6 := Lib.hid (HE0.out.below HB6.out)
  have HS : ∀ w', Below W6.heap.size W6 w' → (InW W6 w' ∧ w'.cell? ⟨w.heap.size, 0, none⟩ = some (.slice a l.length c) ∧ w'.cell? ⟨w.heap.size, 1, none⟩ = some (.int .i64 nx) ∧ w'.cell? ⟨w.heap.size, 2, none⟩ = some (.int .i64 fr) ∧ w'.cell? ⟨gp, 0, none⟩ = some (.slice a4 ts.length c4) ∧ w'.cell? ⟨gp, 1, none⟩ = some (.int .i64 qn) ∧ w'.cell? ⟨gp, 2, none⟩ = some (.int .i64 qf) ∧ w'.cell? ⟨gq, 0, none⟩ = some (.slice a5 ts.length c5) ∧ w'.cell? ⟨gq, 1, none⟩ = some (.int .i64 qn) ∧ w'.cell? ⟨gq, 2, none⟩ = some (.int .i64 qf)) :=
    fun w' h => ⟨h, (K6.out.below h).cell 0 rfl, (K6.out.below h).cell 1 rfl, (K6.out.below h).cell 2 rfl, (L6.out.below h).cell 0 rfl, (L6.out.below h).cell 1 rfl, (L6.out.below h).cell 2 rfl, (M6.out.below h).cell 0 rfl, (M6.out.below h).cell 1 rfl, (M6.out.below h).cell 2 rfl⟩
  have HS' := Lib.hid HS; clear HS
  have SA := Lib.hid (fun W (h : InW W6 W) => same_yes (.slice a4 ts.length c4) (.slice a5 ts.length c5) ts qn qf W (HS7.out.below h) (HS6.out.below h) (by omega))
  have SB := Lib.hid (fun W => same_yes (.slice none 0 0) (.slice none 0 0) [] 1 1 W (SlX.ints (SlX.nil (E := eI) 0 W 0)) (SlX.ints (SlX.nil (E := eI) 0 W 0)) (by simp))
  have SM := Lib.hid (fun W (h : InW W6 W) => SameT v1 v3 bb W (OwnB.reads (HO6.out.below h)) (OwnB.reads (HO7.out.below h)))
  have G1' := Lib.hid (fun W (h : InW W6 W) => G1.out W (below_tr HB6.out h))
  have G2' := Lib.hid (fun W (h : InW W6 W) => G2.out W (below_tr HB6.out h))
  have F1' := Lib.hid (fun W (h : InW W6 W) => F1.out W (he6.out.below h))
  have HL' := Lib.hid (fun W (h : InW W6 W) => HL.out W (he6.out.below h))
  clear G1 G2 F1 HL R1 R2 B1 B2 HS6 HS7 HO6 HO7 K6 L6 M6 g1 g2
  go_region_held3 (fun w' => InW W6 w' ∧ w'.cell? ⟨w.heap.size, 0, none⟩ = some (.slice a l.length c) ∧ w'.cell? ⟨w.heap.size, 1, none⟩ = some (.int .i64 nx) ∧ w'.cell? ⟨w.heap.size, 2, none⟩ = some (.int .i64 fr) ∧ w'.cell? ⟨gp, 0, none⟩ = some (.slice a4 ts.length c4) ∧ w'.cell? ⟨gp, 1, none⟩ = some (.int .i64 qn) ∧ w'.cell? ⟨gp, 2, none⟩ = some (.int .i64 qf) ∧ w'.cell? ⟨gq, 0, none⟩ = some (.slice a5 ts.length c5) ∧ w'.cell? ⟨gq, 1, none⟩ = some (.int .i64 qn) ∧ w'.cell? ⟨gq, 2, none⟩ = some (.int .i64 qf))
    (first | exact HS'.out _ (Below.drew (Below.refl _ _)) | exact HS'.out _ (below_tr (show Below W6.heap.size W6 _ from And.left (by assumption)) (by assumption)) | assumption)
    (first
      | (go_at_call 20; refine (G1'.out _ (‹InW W6 _ ∧ _›).1).mono ?_; rintro e w' ⟨rfl, hb⟩)
      | (go_at_call 17; refine (P1.out _).mono ?_; rintro e w' ⟨rfl, hb⟩)
      | (go_at_call 21; refine (G2'.out _ (‹InW W6 _ ∧ _›).1).mono ?_; rintro e w' ⟨rfl, hb⟩)
      | (go_at_call 22; refine (SM.out _ (‹InW W6 _ ∧ _›).1).mono ?_; rintro e w' ⟨rfl, hb⟩)
      | (go_at_call 23; (first | with_reducible refine (SB.out _).mono ?_ | with_reducible refine (SA.out _ (‹InW W6 _ ∧ _›).1).mono ?_); rintro e w' ⟨rfl, hb⟩)
      | (go_at_call 24; refine (F1'.out _ (‹InW W6 _ ∧ _›).1).mono ?_; rintro e w' ⟨rfl, hb⟩)
      | (go_at_call 25; refine (F2.out _).mono ?_; rintro e w' ⟨rfl, hb⟩)
      | (go_at_call 26; refine (BG1.out _).mono ?_; rintro e w' ⟨rfl, hb⟩)
      | (go_at_call 27; refine (BG2.out _).mono ?_; rintro e w' ⟨rfl, hb⟩)
      | (go_at_call 14; refine (HL'.out _ (‹InW W6 _ ∧ _›).1).mono ?_; rintro e w' ⟨rfl, hb⟩))
  have hB := (‹InW W6 _ ∧ _›).1
  go_wp2_with fail
  go_ret
  exact ⟨rfl, below_tr HB6.out hB⟩
end Go.Proofs.YtkmcjainbhmbdaaDoor
