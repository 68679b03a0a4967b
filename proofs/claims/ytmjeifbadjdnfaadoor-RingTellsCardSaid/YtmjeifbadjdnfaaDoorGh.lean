/- Contracts of a ring's Has and Ranges; and of all methods at a ring that no call made. Conditions: as for Replicas. -/
import Derived.Test.YtmjeifbadjdnfaaDoorGg
set_option linter.unusedVariables false
set_option linter.unusedSimpArgs false
set_option maxRecDepth 20000
namespace Go.Proofs.YtmjeifbadjdnfaaDoor
open Go.RowKit Go.Sort

theorem repOf_len (L : List Pt) (c : Nat) (i : Int) : (repOf L c i).length ≤ c := by
  unfold repOf
  split
  · simp
  · exact repL_le c _ [] (by simp)
theorem Has_any (g gl ol cl : Nat) (L : List Pt) (c : Nat) (i m : Int) (w : World) (hr : RingAt eP w g gl ol cl L (c : Int)) (hc : 0 < c) (hc5 : c ≤ 5) (hl : L.length ≤ 1000) (hnod : ∀ p ∈ L, 1 ≤ p.2 ∧ p.2 ≤ 5) :
    Calls Tryd.prog 33 #[.pointer (some ⟨g, 0, none⟩), .int .i64 i, .int .i64 m] w fun e w' => e = .returned (.bool (decide (m ∈ repOf L c i))) ∧ Below w.heap.size w w' := by
  have R := Lib.hid (Replicas_any g gl ol cl L c i w hr hc hc5 hl hnod)
  have hlen := Lib.hid (repOf_len L c i)
  clear hr
  generalize repOf L c i = R0 at *
  have CO := Lib.hid (fun W v (h : SlX eI W.heap.size W v R0) => contains_any v R0 m W.heap.size W h (by have := hlen.out; omega))
  go_enter Tryd.func33, Tryd.ntmps33
  go_wp2_with fail
  refine R.out.mono ?_
  rintro e w1 ⟨v, rfl, hO, hb⟩
  go_wp2_with fail
  refine (CO.out _ _ hO.sl).mono ?_
  rintro e w2 ⟨rfl, rfl⟩
  go_wp2_with fail
  go_ret
  exact ⟨rfl, hb⟩
set_option maxHeartbeats 1000000 in
theorem Ranges_any (g gl ol cl : Nat) (L : List Pt) (c : Nat) (m : Int) (w : World) (hr : RingAt eP w g gl ol cl L (c : Int)) (hc : 0 < c) (hc5 : c ≤ 5) (h0 : 0 < L.length) (hl : L.length ≤ 1000) (hnod : ∀ p ∈ L, 1 ≤ p.2 ∧ p.2 ≤ 5) :
    Calls Tryd.prog 31 #[.pointer (some ⟨g, 0, none⟩), .int .i64 m] w fun e w' => ∃ v, e = .returned v ∧ OwnX eI w' w.heap.size v (rangesOf L c m) ∧ Below w.heap.size w w' := by
  have P := Lib.hid (Points_any g gl ol cl L (c : Int) w hr (by omega) hl)
  have H := Lib.hid (fun W (h : Below w.heap.size w W) (k : Nat) => Has_any g gl ol cl L c (k : Int) m W (hr.keep h) hc hc5 hl hnod)
  clear hr
  unfold rangesOf
  go_enter Tryd.func31, Tryd.ntmps31
  go_wp2_with fail
  refine P.out.mono ?_
  rintro e w1 ⟨v, rfl, hO, hb⟩
  obtain ⟨gx, cx, rfl, _⟩ := OwnX.formN hO L.length rfl h0
  have HB1 := Lib.hid hb
  clear hO hb P
  go_wp2_with fail
  go_loopw [5, 6, 10] (fun v _ i wr => ∃ k : Nat, k ≤ L.length ∧ i = .int .i64 (k : Int) ∧ OwnX eI wr w.heap.size v (rangesTo L c m k) ∧ Below w.heap.size w wr) (fun _ _ i _ => L.length - (intOf i).toNat)
  case atStart => exact ⟨0, by omega, rfl, OwnX.nil _ _, HB1.out⟩
  case round =>
    obtain ⟨k, hk, rfl, hO, hB⟩ := hrel
    have HO := Lib.hid hO; have HB := Lib.hid hB
    obtain ⟨av, cv, hu, _, _⟩ := hO.sl.ex
    subst hu
    clear hO hB
    by_cases hlt : k < L.length
    · have hz : (k : Int) < (L.length : Int) := by omega
      have hs := rangesTo_succ L c m k
      have hle := rangesTo_length_le L c m k
      generalize rangesTo L c m k = acc at *
      by_cases hin : m ∈ repOf L c (k : Int)
      · rw [if_pos hin] at hs
        have HS := Lib.hid hs; clear hs
        have hc1 := H.out wr HB.out k
        rw [decide_eq_true hin] at hc1
        have HC := Lib.hid hc1; clear hc1 hin
        go_wp2_with fail
        refine HC.out.mono ?_
        rintro e w2 ⟨rfl, hb2⟩
        have OL := Lib.hid ((HO.out.below hb2).alloc (.cells #[.int .i64 (k : Int)] 3))
        have BL := Lib.hid (below_alloc (below_tr HB.out hb2) (.cells #[.int .i64 (k : Int)] 3))
        have HSL := Lib.hid (SlX.lit (E := eI) w2 #[.int .i64 (k : Int)] [(k : Int)] 1 1 rfl (by simp) (by simp [eI_cells]))
        have hlx : acc.length + [(k : Int)].length ≤ 9223372036854775807 := by simp; omega
        have hly : (acc.length + [(k : Int)].length) * eI.bytes ≤ 140737488355328 := by show (_ + _) * 8 ≤ _; simp; omega
        clear hb2
        go_wp2_with (at_builtin; go_must (refine ap_x (E := eI) rfl (.tmp 17) (.tmp 19) rfl w.heap.size (.slice av acc.length cv) acc _ _ [(k : Int)] rfl rfl HSL.out OL.out BL.out BL.out.size hlx hly ?_); intro v6 w6 hO6 hB6 hz6 hg6)
        go_roundw
        case rel => exact ⟨k + 1, by omega, by first | rfl | go_num, by rw [HS.out]; exact hO6, hB6⟩
        case measure => simp [intOf]; omega
      · rw [if_neg hin, List.append_nil] at hs
        have HS := Lib.hid hs; clear hs
        have hc1 := H.out wr HB.out k
        rw [decide_eq_false hin] at hc1
        have HC := Lib.hid hc1; clear hc1 hin
        go_wp2_with fail
        refine HC.out.mono ?_
        rintro e w2 ⟨rfl, hb2⟩
        have OL := Lib.hid (HO.out.below hb2)
        have BL := Lib.hid (below_tr HB.out hb2)
        clear hb2
        go_wp2_with fail
        go_roundw
        case rel => exact ⟨k + 1, by omega, by first | rfl | go_num, by rw [HS.out]; exact OL.out, BL.out⟩
        case measure => simp [intOf]; omega
    · have hz : ¬ (k : Int) < (L.length : Int) := by omega
      obtain rfl : k = L.length := by omega
      go_wp2_with fail
      go_ret
      exact ⟨_, rfl, HO.out, HB.out⟩

theorem NoRing.keep {w w1 : World} {v : Value} (h : NoRing w v) (hb : Below w.heap.size w w1) : NoRing w1 v := by
  rcases h with rfl | ⟨g, rfl, h⟩
  · exact .inl rfl
  · exact .inr ⟨g, rfl, cell_keep hb h⟩
theorem Replicas_no (v : Value) (i : Int) (w : World) (h : NoRing w v) : Calls Tryd.prog 29 #[v, .int .i64 i] w fun e w' => e = .returned (.slice none 0 0) ∧ w = w' := by
  have M := Lib.hid (made_no v w h)
  clear h
  go_enter Tryd.func29, Tryd.ntmps29
  go_wp2_with fail
  refine M.out.mono ?_
  rintro e w1 ⟨rfl, rfl⟩
  go_wp2_with fail
  go_ret
  exact ⟨rfl, rfl⟩
theorem Has_no (v : Value) (i m : Int) (w : World) (h : NoRing w v) : Calls Tryd.prog 33 #[v, .int .i64 i, .int .i64 m] w fun e w' => e = .returned (.bool false) ∧ w = w' := by
  have R := Lib.hid (Replicas_no v i w h)
  have CO := Lib.hid (contains_any (.slice none 0 0) [] m w.heap.size w (SlX.nil _ _ _) (by simp))
  clear h
  go_enter Tryd.func33, Tryd.ntmps33
  go_wp2_with fail
  refine R.out.mono ?_
  rintro e w1 ⟨rfl, rfl⟩
  go_wp2_with fail
  refine CO.out.mono ?_
  rintro e w2 ⟨rfl, rfl⟩
  go_wp2_with fail
  go_ret
  exact ⟨rfl, rfl⟩
theorem Ranges_no (v : Value) (m : Int) (w : World) (h : NoRing w v) : Calls Tryd.prog 31 #[v, .int .i64 m] w fun e w' => e = .returned (.slice none 0 0) ∧ w = w' := by
  have P := Lib.hid (Points_no v w h)
  clear h
  go_enter Tryd.func31, Tryd.ntmps31
  go_wp2_with fail
  refine P.out.mono ?_
  rintro e w1 ⟨rfl, rfl⟩
  go_wp2_with fail
  go_loopw [5, 6, 10] (fun v _ i wr => i = .int .i64 0 ∧ v = .slice none 0 0 ∧ wr = w) (fun _ _ i _ => 0)
  case atStart => exact ⟨rfl, rfl, rfl⟩
  case round =>
    obtain ⟨rfl, rfl, rfl⟩ := hrel
    go_wp2_with fail
    go_ret
    exact ⟨rfl, rfl⟩
end Go.Proofs.YtmjeifbadjdnfaaDoor
