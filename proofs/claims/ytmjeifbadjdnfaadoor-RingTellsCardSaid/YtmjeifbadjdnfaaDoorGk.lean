/- Contract of ring's lives; the law RingNone. Condition: the law's bounds. -/
import Derived.Test.YtmjeifbadjdnfaaDoorGj
set_option linter.unusedVariables false
set_option linter.unusedSimpArgs false
set_option maxRecDepth 20000
namespace Go.Proofs.YtmjeifbadjdnfaaDoor
open Go.RowKit Go.Sort

set_option maxHeartbeats 2000000 in
theorem lives15 (w : World) : Calls Tryd.prog 19 #[] w fun e w' => e = .returned (.bool true) ∧ Below w.heap.size w w' := by
  have N1 := Lib.hid (New_any 1 1 1 w (by decide) (by decide) (by decide) (by decide) (by decide) (by decide))
  have hlen := ringL_length tokT 1 1
  have hsrt := ringL_sorted tokT 1 1
  have hnod : ∀ p ∈ ringL tokT 1 1, 1 ≤ p.2 ∧ p.2 ≤ 5 := fun p hp => by have := ringL_mem tokT 1 1 p hp; omega
  have hrg : ∀ t, rangeL (ringL tokT 1 1) t = 0 := fun t => by have := rangeL_lt (ringL tokT 1 1) t (by omega); omega
  have hrp : repOf (ringL tokT 1 1) 1 ((0 : Nat) : Int) = [1] := by
    rw [repOf_one (ringL_ring tokT 1 1 1 (by decide) (by decide) (by decide)) 0 (by omega)]
    have := ringL_mem tokT 1 1 _ (List.getElem_mem (show 0 < (ringL tokT 1 1).length by omega))
    congr 1; omega
  generalize ringL tokT 1 1 = L at *
  have P := Lib.hid (fun g gl cl W (h : RingAt eP W g gl 0 cl L ((1 : Nat) : Int)) => Points_any g gl 0 cl L ((1 : Nat) : Int) W h (by decide) (by omega))
  have R := Lib.hid (fun g gl cl t W (h : RingAt eP W g gl 0 cl L ((1 : Nat) : Int)) => Range_any g gl 0 cl L ((1 : Nat) : Int) t W h (by decide) (by omega) (by omega) hsrt)
  have RP := Lib.hid (fun g gl cl W (h : RingAt eP W g gl 0 cl L ((1 : Nat) : Int)) => Replicas_any g gl 0 cl L 1 ((0 : Nat) : Int) W h (by decide) (by decide) (by omega) hnod)
  have OF := Lib.hid (fun g gl cl W (h : RingAt eP W g gl 0 cl L ((1 : Nat) : Int)) => Of_any g gl 0 cl L ((1 : Nat) : Int) ⟨#[120]⟩ W h (by decide) (by omega) (by omega) hsrt (by decide))
  have CO := Lib.hid (fun g gl cl W (h : RingAt eP W g gl 0 cl L ((1 : Nat) : Int)) => Copies_any g ((1 : Nat) : Int) W h.c1 (by decide))
  have IN := Lib.hid (fun v1 v2 W h1 h2 => Ints_any v1 v2 [1] [1] W h1 h2 (by decide) (by decide))
  go_enter Tryd.func19, Tryd.ntmps19
  go_wp2_with fail
  refine N1.out.mono ?_
  rintro e w1 ⟨g, gl, cl, rfl, hr, hb1⟩
  have R1 := Lib.hid hr; have B1 := Lib.hid hb1
  clear hr hb1 N1
  go_wp2_with fail
  refine (P.out _ _ _ _ R1.out).mono ?_
  rintro e w2 ⟨v, rfl, hO, hb⟩
  obtain ⟨gx, cx, rfl, _⟩ := OwnX.formN hO 1 hlen (by decide)
  have R2 := Lib.hid (R1.out.keep hb); have B2 := Lib.hid (below_tr B1.out hb)
  clear hO hb
  go_wp2_with fail
  refine (R.out _ _ _ _ _ R2.out).mono ?_
  rintro e w3 ⟨rfl, hb⟩
  rw [hrg]
  have R3 := Lib.hid (R2.out.keep hb); have B3 := Lib.hid (below_tr B2.out hb)
  clear hb
  go_wp2_with fail
  refine (R.out _ _ _ _ _ R3.out).mono ?_
  rintro e w4 ⟨rfl, hb⟩
  rw [hrg]
  have R4 := Lib.hid (R3.out.keep hb); have B4 := Lib.hid (below_tr B3.out hb)
  clear hb
  go_wp2_with fail
  refine (RP.out _ _ _ _ R4.out).mono ?_
  rintro e w5 ⟨v, rfl, hO, hb⟩
  rw [hrp] at hO
  have R5 := Lib.hid (R4.out.keep hb); have B5 := Lib.hid (below_tr B4.out hb)
  have R5a := Lib.hid (R5.out.keep (below_alloc (Below.refl _ w5) (.cells #[.int .i64 1] 3))); have B5a := Lib.hid (below_alloc B5.out (.cells #[.int .i64 1] 3))
  have S1 := Lib.hid (hO.alloc (.cells #[.int .i64 1] 3)).sl
  have S2 := Lib.hid (SlX.lit (E := eI) w5 #[.int .i64 1] [1] 1 1 rfl (by decide) (by simp [eI_cells]))
  clear hb hO
  go_wp2_with fail
  refine (IN.out _ _ _ S1.out S2.out).mono ?_
  rintro e w6 ⟨rfl, hb⟩
  have R6 := Lib.hid (R5a.out.keep hb); have B6 := Lib.hid (below_tr B5a.out hb)
  clear hb
  go_wp2_with fail
  refine (OF.out _ _ _ _ R6.out).mono ?_
  rintro e w7 ⟨rfl, hb⟩
  rw [hrg]
  have R7 := Lib.hid (R6.out.keep hb); have B7 := Lib.hid (below_tr B6.out hb)
  clear hb
  go_wp2_with fail
  refine (CO.out _ _ _ _ R7.out).mono ?_
  rintro e w8 ⟨rfl, rfl⟩
  go_wp2_with fail
  go_ret
  exact ⟨rfl, B7.out⟩

theorem RingNone_walk (t : Int) (s : ByteArray) (w : World) : Calls Tryd.prog 9 #[.int .i64 t, .string s] w fun e w' => e = .returned (.bool true) ∧ Below w.heap.size w w' := by
  have LV := Lib.hid (fun W => lives15 W)
  have HB0 := Lib.hid (below_alloc (Below.refl _ w) (.cells #[.slice none 0 0, .int .i64 0] 69))
  have hz := (Blk.new w 69 #[.slice none 0 0, .int .i64 0]).cell 1 (v := .int .i64 0) rfl
  have HZ := Lib.hid hz; clear hz
  by_cases hl : (10000 : Int) < (s.size : Int)
  · go_enter Tryd.func9, Tryd.ntmps9
    go_wp2_with fail
    refine (LV.out _).mono ?_
    rintro e w1 ⟨rfl, hb⟩
    go_wp2_with fail
    go_ret
    exact ⟨rfl, below_tr HB0.out hb⟩
  · have i0 : ∀ W, (Instr.index 70 (.agg #[.pointer none, .pointer (some ⟨w.heap.size, 0, none⟩)]) (.int .i64 0)).run Tryd.prog W = .ok (.pointer none) W := fun _ => by kernel_rfl
    have i1 : ∀ W, (Instr.index 70 (.agg #[.pointer none, .pointer (some ⟨w.heap.size, 0, none⟩)]) (.int .i64 1)).run Tryd.prog W = .ok (.pointer (some ⟨w.heap.size, 0, none⟩)) W := fun _ => by kernel_rfl
    have OFN := Lib.hid (fun v W (h : NoRing W v) => Of_no v s W h (by omega))
    go_enter Tryd.func9, Tryd.ntmps9
    go_wp2_with fail
    go_loopw [7, 13] (fun _ i wr => ∃ k : Nat, k ≤ 2 ∧ i = .int .i64 (k : Int) ∧ Below w.heap.size w wr ∧ wr.cell? ⟨w.heap.size, 1, none⟩ = some (.int .i64 0)) (fun _ i _ => 2 - (intOf i).toNat)
    case atStart => exact ⟨0, by omega, rfl, HB0.out, HZ.out⟩
    case round =>
      obtain ⟨k, hk, rfl, hB, hc⟩ := hrel
      have HB := Lib.hid hB; have HC := Lib.hid hc
      clear hB hc
      by_cases h2 : k = 2
      · subst h2
        go_wp2_with fail
        refine (LV.out _).mono ?_
        rintro e w1 ⟨rfl, hb⟩
        go_wp2_with fail
        go_ret
        exact ⟨rfl, below_tr HB.out hb⟩
      · have step : ∃ v, NoRing wr v ∧ ((k = 0 ∧ v = .pointer none) ∨ (k = 1 ∧ v = .pointer (some ⟨w.heap.size, 0, none⟩))) := by
          have h01 : k = 0 ∨ k = 1 := by omega
          rcases h01 with rfl | rfl
          · exact ⟨_, .inl rfl, .inl ⟨rfl, rfl⟩⟩
          · exact ⟨_, .inr ⟨_, rfl, HC.out⟩, .inr ⟨rfl, rfl⟩⟩
        obtain ⟨v, hv, hkv⟩ := step
        have HV := Lib.hid hv; clear hv
        rcases hkv with ⟨rfl, rfl⟩ | ⟨rfl, rfl⟩
        all_goals (
          go_wp2_with fail
          refine (Points_no _ _ HV.out).mono ?_
          rintro e w1 ⟨rfl, rfl⟩
          go_wp2_with fail
          refine (Copies_no _ _ HV.out).mono ?_
          rintro e w1 ⟨rfl, rfl⟩
          go_wp2_with fail
          refine (Replicas_no _ _ _ HV.out).mono ?_
          rintro e w1 ⟨rfl, rfl⟩
          go_wp2_with fail
          refine (Ranges_no _ _ _ HV.out).mono ?_
          rintro e w1 ⟨rfl, rfl⟩
          go_wp2_with fail
          refine (Range_no _ _ _ HV.out).mono ?_
          rintro e w2 ⟨rfl, hb⟩
          have HV2 := Lib.hid (HV.out.keep hb); have HB2 := Lib.hid (below_tr HB.out hb); have HC2 := Lib.hid (cell_keep hb HC.out)
          clear hb
          go_wp2_with fail
          refine (OFN.out _ _ HV2.out).mono ?_
          rintro e w3 ⟨rfl, hb⟩
          have HV3 := Lib.hid (HV2.out.keep hb); have HB3 := Lib.hid (below_tr HB2.out hb); have HC3 := Lib.hid (cell_keep hb HC2.out)
          clear hb
          go_wp2_with fail
          refine (Has_no _ _ _ _ HV3.out).mono ?_
          rintro e w4 ⟨rfl, rfl⟩
          go_wp2_with fail
          go_roundw
          case rel => first | exact ⟨1, by decide, rfl, HB3.out, HC3.out⟩ | exact ⟨2, by decide, rfl, HB3.out, HC3.out⟩
          case measure => simp [intOf])
end Go.Proofs.YtmjeifbadjdnfaaDoor
