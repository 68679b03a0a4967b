/- Contracts of the reference's ring: Range, Of, Replicas, Has, Ranges. Conditions: at most a thousand points; for Replicas a ring that New made. -/
import Derived.Test.YtmjeifbadjdnfaaDoorGj
set_option linter.unusedVariables false
set_option linter.unusedSimpArgs false
set_option maxRecDepth 20000
namespace Go.Proofs.YtmjeifbadjdnfaaDoor
open Go.RowKit Go.Sort

set_option maxHeartbeats 1000000 in
theorem rRange_any (g gl ol cl : Nat) (L : List Pt) (c t : Int) (w : World) (hr : RingAt eQ w g gl ol cl L c) (hl : L.length ≤ 1000) (hs : SortedP L) :
    Calls Tryd.prog 27 #[.pointer (some ⟨g, 0, none⟩), .int .i64 t] w fun e w' => e = .returned (.int .i64 (rangeL L t : Int)) ∧ Below w.heap.size w w' := by
  have HS := Lib.hid hr.s
  obtain ⟨c0, c1, _⟩ := hr
  go_enter Tryd.func27, Tryd.ntmps27
  go_wp2_with fail
  go_loopw [5, 6, 12] (fun _ _ i wr => ∃ k : Nat, k ≤ L.length ∧ i = .int .i64 (k : Int) ∧ Below w.heap.size w wr ∧ (∀ j (h : j < L.length), j < k → L[j].1 < t)) (fun _ _ i _ => L.length - (intOf i).toNat)
  case atStart => exact ⟨0, by omega, rfl, Below.refl _ _, fun j h1 h2 => by omega⟩
  case round =>
    obtain ⟨k, hk, rfl, hB, hless⟩ := hrel
    have HB := Lib.hid hB; have HL := Lib.hid hless
    clear hB hless
    by_cases hlt : k < L.length
    · have hz : (k : Int) < (L.length : Int) := by omega
      obtain ⟨e0, e1⟩ := eQ_cell (HS.out.below HB.out) k hlt
      have HB2 := Lib.hid (below_al HB.out (.cells #[.int .i64 L[k].1, .int .i64 L[k].2] 64) HB.out.size)
      obtain ⟨y1, y2, hy⟩ : ∃ y1 y2, L[k] = (y1, y2) := ⟨_, _, rfl⟩
      have HY := Lib.hid hy
      rw [hy] at e0 e1 HB2
      clear hy
      by_cases ht : t ≤ y1
      · have hn := lessN_eq L t hs k (by omega) HL.out (fun _ => by rw [HY.out]; exact ht)
        have hrg : rangeL L t = k := by rw [rangeL_of_lt L t (by omega)]; exact hn
        have HR := Lib.hid hrg
        clear hn hrg
        go_wp2_with fail
        go_ret
        exact ⟨by rw [HR.out]; rfl, HB2.out⟩
      · go_wp2_with fail
        go_roundw
        case rel => exact ⟨k + 1, by omega, by first | rfl | go_num, HB2.out, fun j h1 h2 => by
          rcases Nat.lt_or_ge j k with h3 | h3
          · exact HL.out j h1 h3
          · have : j = k := by omega
            subst this; rw [HY.out]; simp only; omega⟩
        case measure => simp [intOf]; omega
    · have hz : ¬ (k : Int) < (L.length : Int) := by omega
      have hn := lessN_eq L t hs L.length (Nat.le_refl _) (fun j h1 h2 => HL.out j h1 (by omega)) (fun h => by omega)
      have HR := Lib.hid (rangeL_of_eq L t hn)
      clear hn
      go_wp2_with fail
      go_ret
      exact ⟨by rw [HR.out]; rfl, HB.out⟩
theorem rOf_any (g gl ol cl : Nat) (L : List Pt) (c : Int) (s : ByteArray) (w : World) (hr : RingAt eQ w g gl ol cl L c) (hl : L.length ≤ 1000) (hs : SortedP L) (hz : s.size ≤ 1000000) :
    Calls Tryd.prog 23 #[.pointer (some ⟨g, 0, none⟩), .string s] w fun e w' => e = .returned (.int .i64 (rangeL L (tokI s.toList) : Int)) ∧ Below w.heap.size w w' := by
  have T := Lib.hid (rToken_any s w hz)
  have R := Lib.hid (fun W (h : Below w.heap.size w W) => rRange_any g gl ol cl L c (tokI s.toList) W (hr.keep h) hl hs)
  clear hr
  go_enter Tryd.func23, Tryd.ntmps23
  go_wp2_with fail
  refine T.out.mono ?_
  rintro e w1 ⟨rfl, hb⟩
  go_wp2_with fail
  refine (R.out _ hb).mono ?_
  rintro e w2 ⟨rfl, hb2⟩
  go_wp2_with fail
  go_ret
  exact ⟨rfl, below_tr hb hb2⟩

theorem rep_one (c : Nat) (out : List Int) (n : Int) (h : out.length < c) : repL c out [n] = if n ∈ out then out else out ++ [n] := by
  simp only [repL]
  by_cases hn : n ∈ out
  · rw [if_neg (fun x => x.1 hn), if_pos hn]
  · rw [if_pos ⟨hn, h⟩, if_neg hn]
set_option maxHeartbeats 1000000 in
theorem rReplicas_any (g gl ol cl : Nat) (L : List Pt) (N c : Nat) (i : Int) (w : World) (hr : RingAt eQ w g gl ol cl L (c : Int)) (hc5 : c ≤ 5) (hl : L.length ≤ 1000) (hP : RingP L N c) (i0 : -9223372036854775808 ≤ i) (i1 : i ≤ 9223372036854775807) :
    Calls Tryd.prog 30 #[.pointer (some ⟨g, 0, none⟩), .int .i64 i] w fun e w' => ∃ v, e = .returned v ∧ OwnX eI w' w.heap.size v (repOf L c i) ∧ Below w.heap.size w w' := by
  have HS := Lib.hid hr.s
  obtain ⟨c0, c1, _⟩ := hr
  by_cases hin : i < 0 ∨ (L.length : Int) ≤ i
  · have e : repOf L c i = [] := by unfold repOf; rw [if_pos hin]
    rw [e]
    clear hP e
    rcases hin with hin | hin
    · go_enter Tryd.func30, Tryd.ntmps30
      go_wp2_with fail
      go_ret
      exact ⟨_, rfl, OwnX.nil _ _, Below.refl _ _⟩
    · have hin2 : ¬ i < 0 := by omega
      go_enter Tryd.func30, Tryd.ntmps30
      go_wp2_with fail
      go_ret
      exact ⟨_, rfl, OwnX.nil _ _, Below.refl _ _⟩
  · obtain ⟨k, rfl⟩ : ∃ k : Nat, i = k := ⟨i.toNat, by omega⟩
    have hk : k < L.length := by omega
    have h1 : ¬ (k : Int) < 0 := by omega
    have h2 : ¬ (L.length : Int) ≤ (k : Int) := by omega
    have hlen := repOf_length hP k hk
    have e : repOf L c k = repL c [] (nodesFrom L k) := by unfold repOf; rw [if_neg hin]; rfl
    rw [e] at hlen ⊢
    have hnl := nodesFrom_length L k
    have hget := fun j hj => nodesFrom_get L k j hk hj
    clear hin e hP
    generalize nodesFrom L k = Lc at *
    have HG := Lib.hid hget; have HLE := Lib.hid hlen
    obtain ⟨R, hR⟩ : ∃ R, repL c [] Lc = R := ⟨_, rfl⟩
    rw [hR]
    have HR := Lib.hid hR
    clear hget hlen hR
    go_enter Tryd.func30, Tryd.ntmps30
    go_wp2_with fail
    go_loopw [5, 6, 7] (fun v vk _ wr => ∃ (j : Nat) (out : List Int), j ≤ L.length ∧ vk = .int .i64 (j : Int) ∧ OwnX eI wr w.heap.size v out ∧ Below w.heap.size w wr ∧ out.length ≤ c ∧ repL c [] (Lc.take j) = out) (fun _ vk _ _ => L.length - (intOf vk).toNat)
    case atStart => exact ⟨0, [], by omega, rfl, OwnX.nil _ _, Below.refl _ _, by simp, rfl⟩
    case round =>
      obtain ⟨j, out, hj, rfl, hO, hB, hol, hrep⟩ := hrel
      obtain ⟨av, cv, hu, _, _⟩ := hO.sl.ex
      subst hu
      have HO := Lib.hid hO; have HB := Lib.hid hB; have HRP := Lib.hid hrep
      have m0 := cell_keep hB c0; have m1 := cell_keep hB c1
      clear hO hB hrep
      by_cases hlt : out.length < c
      · have hltz : (out.length : Int) < (c : Int) := by omega
        have hjl : j < L.length := by
          rcases Nat.lt_or_ge j L.length with h | h
          · exact h
          · have := HRP.out
            rw [List.take_of_length_le (by omega)] at this
            have h3 := HLE.out
            rw [this] at h3; omega
        obtain ⟨q, hq⟩ : ∃ q, q = (k + j) % L.length := ⟨_, rfl⟩
        have hql : q < L.length := by rw [hq]; exact Nat.mod_lt _ (by omega)
        have hqe : ((k : Int) + (j : Int)) % (L.length : Int) = (q : Int) := by rw [hq]; exact (by omega : ((k : Int) + (j : Int)) = ((k + j : Nat) : Int)) ▸ (Int.natCast_emod _ _).symm
        have hqt : Int.tmod ((k : Int) + (j : Int)) (L.length : Int) = (q : Int) := by rw [Int.tmod_eq_emod_of_nonneg (by omega)]; exact hqe
        have hwk : IntKind.i64.wrap ((k : Int) + (j : Int)) = (k : Int) + (j : Int) := by rw [IntKind.wrap_i64]; omega
        have hne : ¬ L = [] := by rintro rfl; simp at hk
        have hqz : (q : Int) < (L.length : Int) := by omega
        obtain ⟨z0, z1⟩ := eQ_cell (HS.out.below HB.out) q hql
        have hgq := HG.out j hjl
        have hgq2 : Lc[j]? = some L[q].2 := by rw [hgq]; congr 1; congr 1; simp only [hq]
        have hstep : repL c [] (Lc.take (j + 1)) = if L[q].2 ∈ out then out else out ++ [L[q].2] := by
          rw [List.take_add_one, hgq2, repL_app, HRP.out]
          exact rep_one c out _ hlt
        generalize L[q].2 = y at *
        clear hq hgq hgq2
        have HST := Lib.hid hstep; clear hstep
        have IN := Lib.hid (fun W (h : Below wr.heap.size wr W) => rIn_any (.slice av out.length cv) out y W.heap.size W (HO.out.below h).sl (by omega))
        have hlx : out.length + [y].length ≤ 9223372036854775807 := by simp; omega
        have hly : (out.length + [y].length) * eI.bytes ≤ 140737488355328 := by show (_ + _) * 8 ≤ _; simp; omega
        by_cases hmem : y ∈ out
        · have hst := HST.out
          rw [if_pos hmem] at hst
          have hin2 := IN.out
          rw [decide_eq_true hmem] at hin2
          have IN2 := Lib.hid hin2; have HS2 := Lib.hid hst
          clear hst hin2 hmem IN HST
          go_wp2_with fail
          go_quiet (fail)
          go_wp2_with fail
          have hbn := below_drewN (Below.refl wr.heap.size wr) nq
          have HON := Lib.hid (HO.out.below hbn); have HBN := Lib.hid (below_tr HB.out hbn)
          refine (IN2.out _ hbn).mono ?_
          rintro e w2 ⟨rfl, rfl⟩
          clear hbn
          go_wp2_with fail
          go_roundw
          case rel => exact ⟨j + 1, out, by omega, by first | rfl | go_num, HON.out, HBN.out, hol, HS2.out⟩
          case measure => simp [intOf]; omega
        · have hst := HST.out
          rw [if_neg hmem] at hst
          have hin2 := IN.out
          rw [decide_eq_false hmem] at hin2
          have IN2 := Lib.hid hin2; have HS2 := Lib.hid hst
          clear hst hin2 hmem IN HST
          go_wp2_with fail
          go_quiet (fail)
          go_wp2_with fail
          have hbn := below_drewN (Below.refl wr.heap.size wr) nq
          refine (IN2.out _ hbn).mono ?_
          rintro e w2 ⟨rfl, rfl⟩
          have HON := Lib.hid ((HO.out.below hbn).alloc (.cells #[.int .i64 y] 3)); have HBN := Lib.hid (below_alloc (below_tr HB.out hbn) (.cells #[.int .i64 y] 3))
          have HSL := Lib.hid (SlX.lit (E := eI) (wr.drewN nq) #[.int .i64 y] [y] 1 1 rfl (by simp) (by simp [eI_cells]))
          clear hbn
          go_wp2_with (at_builtin; go_must (refine ap_x (E := eI) rfl (.tmp 48) (.tmp 50) rfl w.heap.size (.slice av out.length cv) out _ _ [y] rfl rfl HSL.out HON.out HBN.out HBN.out.size hlx hly ?_); intro v6 w6 hO6 hB6 hz6 hg6)
          go_roundw
          case rel => exact ⟨j + 1, out ++ [y], by omega, by first | rfl | go_num, hO6, hB6, by simp; omega, HS2.out⟩
          case measure => simp [intOf]; omega
      · have hltz : ¬ (out.length : Int) < (c : Int) := by omega
        have hfin : out = R := by
          have h3 := HR.out
          have h4 : Lc = Lc.take j ++ Lc.drop j := (List.take_append_drop j Lc).symm
          rw [h4, repL_app, HRP.out, repL_full c _ out (by omega)] at h3
          exact h3
        subst hfin
        go_wp2_with fail
        go_ret
        exact ⟨_, rfl, HO.out, HB.out⟩
theorem rHas_any (g gl ol cl : Nat) (L : List Pt) (N c : Nat) (i m : Int) (w : World) (hr : RingAt eQ w g gl ol cl L (c : Int)) (hc5 : c ≤ 5) (hl : L.length ≤ 1000) (hP : RingP L N c) (i0 : -9223372036854775808 ≤ i) (i1 : i ≤ 9223372036854775807) :
    Calls Tryd.prog 34 #[.pointer (some ⟨g, 0, none⟩), .int .i64 i, .int .i64 m] w fun e w' => e = .returned (.bool (decide (m ∈ repOf L c i))) ∧ Below w.heap.size w w' := by
  have R := Lib.hid (rReplicas_any g gl ol cl L N c i w hr hc5 hl hP i0 i1)
  have hlen := Lib.hid (repOf_len L c i)
  clear hr
  generalize repOf L c i = R0 at *
  have CO := Lib.hid (fun W v (h : SlX eI W.heap.size W v R0) => rIn_any v R0 m W.heap.size W h (by have := hlen.out; omega))
  go_enter Tryd.func34, Tryd.ntmps34
  go_wp2_with fail
  refine R.out.mono ?_
  rintro e w1 ⟨v, rfl, hO, hb⟩
  go_wp2_with fail
  refine (CO.out _ _ hO.sl).mono ?_
  rintro e w2 ⟨rfl, rfl⟩
  go_wp2_with fail
  go_ret
  exact ⟨rfl, hb⟩
set_option maxHeartbeats 1000000 in
theorem rRanges_any (g gl ol cl : Nat) (L : List Pt) (N c : Nat) (m : Int) (w : World) (hr : RingAt eQ w g gl ol cl L (c : Int)) (hc5 : c ≤ 5) (hl : L.length ≤ 1000) (hP : RingP L N c) :
    Calls Tryd.prog 32 #[.pointer (some ⟨g, 0, none⟩), .int .i64 m] w fun e w' => ∃ v, e = .returned v ∧ OwnX eI w' w.heap.size v (rangesOf L c m) ∧ Below w.heap.size w w' := by
  have H := Lib.hid (fun W (h : Below w.heap.size w W) (k : Nat) (hk : k < L.length) => rHas_any g gl ol cl L N c (k : Int) m W (hr.keep h) hc5 hl hP (by omega) (by omega))
  obtain ⟨c0, c1, _⟩ := hr
  unfold rangesOf
  go_enter Tryd.func32, Tryd.ntmps32
  go_wp2_with fail
  go_loopw [5, 6, 12] (fun v _ i wr => ∃ k : Nat, k ≤ L.length ∧ i = .int .i64 (k : Int) ∧ OwnX eI wr w.heap.size v (rangesTo L c m k) ∧ Below w.heap.size w wr) (fun _ _ i _ => L.length - (intOf i).toNat)
  case atStart => exact ⟨0, by omega, rfl, OwnX.nil _ _, Below.refl _ _⟩
  case round =>
    obtain ⟨k, hk, rfl, hO, hB⟩ := hrel
    have HO := Lib.hid hO; have HB := Lib.hid hB
    obtain ⟨av, cv, hu, _, _⟩ := hO.sl.ex
    subst hu
    clear hO hB
    by_cases hlt : k < L.length
    · have hz : (k : Int) < (L.length : Int) := by omega
      have hs := rangesTo_succ L c m k
      have hle := rangesTo_length_le L c m k
      generalize rangesTo L c m k = acc at *
      by_cases hin : m ∈ repOf L c (k : Int)
      · rw [if_pos hin] at hs
        have HS := Lib.hid hs; clear hs
        have hc1 := H.out wr HB.out k hlt
        rw [decide_eq_true hin] at hc1
        have HC := Lib.hid hc1; clear hc1 hin
        go_wp2_with fail
        refine HC.out.mono ?_
        rintro e w2 ⟨rfl, hb2⟩
        have OL := Lib.hid ((HO.out.below hb2).alloc (.cells #[.int .i64 (k : Int)] 3))
        have BL := Lib.hid (below_alloc (below_tr HB.out hb2) (.cells #[.int .i64 (k : Int)] 3))
        have HSL := Lib.hid (SlX.lit (E := eI) w2 #[.int .i64 (k : Int)] [(k : Int)] 1 1 rfl (by simp) (by simp [eI_cells]))
        have hlx : acc.length + [(k : Int)].length ≤ 9223372036854775807 := by simp; omega
        have hly : (acc.length + [(k : Int)].length) * eI.bytes ≤ 140737488355328 := by show (_ + _) * 8 ≤ _; simp; omega
        clear hb2
        go_wp2_with (at_builtin; go_must (refine ap_x (E := eI) rfl (.tmp 19) (.tmp 21) rfl w.heap.size (.slice av acc.length cv) acc _ _ [(k : Int)] rfl rfl HSL.out OL.out BL.out BL.out.size hlx hly ?_); intro v6 w6 hO6 hB6 hz6 hg6)
        go_roundw
        case rel => exact ⟨k + 1, by omega, by first | rfl | go_num, by rw [HS.out]; exact hO6, hB6⟩
        case measure => simp [intOf]; omega
      · rw [if_neg hin, List.append_nil] at hs
        have HS := Lib.hid hs; clear hs
        have hc1 := H.out wr HB.out k hlt
        rw [decide_eq_false hin] at hc1
        have HC := Lib.hid hc1; clear hc1 hin
        go_wp2_with fail
        refine HC.out.mono ?_
        rintro e w2 ⟨rfl, hb2⟩
        have OL := Lib.hid (HO.out.below hb2)
        have BL := Lib.hid (below_tr HB.out hb2)
        clear hb2
        go_wp2_with fail
        go_roundw
        case rel => exact ⟨k + 1, by omega, by first | rfl | go_num, by rw [HS.out]; exact OL.out, BL.out⟩
        case measure => simp [intOf]; omega
    · have hz : ¬ (k : Int) < (L.length : Int) := by omega
      obtain rfl : k = L.length := by omega
      go_wp2_with fail
      go_ret
      exact ⟨_, rfl, HO.out, HB.out⟩
end Go.Proofs.YtmjeifbadjdnfaaDoor
