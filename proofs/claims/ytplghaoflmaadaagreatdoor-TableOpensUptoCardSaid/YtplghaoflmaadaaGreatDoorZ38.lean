/- Contract of the reference's Same: two slices of bytes hold the same. No condition. The walk of the law TableBack: it returns true. Condition: the row's own bounds. The walk of the law TableEnds: it returns true. Condition: the row's own bounds. -/
import Derived.Test.YtplghaoflmaadaaGreatDoorZ00
import Derived.Test.YtplghaoflmaadaaGreatDoorZ37
import Derived.Test.YtplghaoflmaadaaGreatDoorZ35
section
set_option linter.unusedVariables false
set_option linter.unusedSimpArgs false
set_option maxRecDepth 20000
namespace Go.Proofs.YtplghaoflmaadaaGreatDoor
open Go.RowKit

theorem Same_any (x y : Value) (a b : List UInt8) (w : World) (hx : ReadsB w x a) (hy : ReadsB w y b) :
    Calls Tryz.prog 14 #[x, y] w fun e w' => e = .returned (.bool (a == b)) ∧ w = w' := by
  have h1 := hx.out
  have h2 := hy.out
  clear hx hy
  go_enter Tryz.func14, Tryz.ntmps14
  go_wp2
  go_ret
  exact ⟨rfl, rfl⟩

theorem SameT (x y : Value) (a : List UInt8) (w : World) (hx : ReadsB w x a) (hy : ReadsB w y a) :
    Calls Tryz.prog 14 #[x, y] w fun e w' => e = .returned (.bool true) ∧ Below w.heap.size w w' :=
  (Same_any x y a a w hx hy).mono fun e w' h => by obtain ⟨h1, rfl⟩ := h; rw [beq_self_eq_true] at h1; exact ⟨h1, Below.refl _ _⟩

end Go.Proofs.YtplghaoflmaadaaGreatDoor
end

section
set_option linter.unusedVariables false
set_option linter.unusedSimpArgs false
set_option maxRecDepth 50000
namespace Go.Proofs.YtplghaoflmaadaaGreatDoor
open Go.RowKit Go.Sort
open Go.Lib hiding intOf

theorem ver_same (w : World) (a : Vr) : (binOp .neq 49 (.agg (vrEnc a).toArray) (.agg (vrEnc a).toArray)).run Tryz.prog w = .ok (.bool false) w := by
  have h := verIn 9997 w a a
  rw [(verEq_iff _ _).2 rfl] at h
  rw [run_neq_struct, h]; rfl
theorem find_self {L : List Cel} (h : L.Pairwise (fun a b => kcK a.k b.k < 0)) {c : Cel} (hc : c ∈ L) : findC L c.k = some c.v := by
  obtain ⟨i, hi, rfl⟩ := List.getElem_of_mem hc
  refine findC_at hi (by simp) (fun x hx => ?_)
  obtain ⟨j, hj, rfl⟩ := List.getElem_of_mem hx
  rw [List.length_take] at hj
  rw [List.getElem_take]
  have := List.pairwise_iff_getElem.1 h j i (by omega) hi (by omega)
  rw [decide_eq_false_iff_not]
  intro e
  rw [e, kcK_ord.self] at this; omega
theorem OkT.pair {L : List Cel} (h : OkT L) : L.Pairwise (fun a b => kcK a.k b.k < 0) := inc_pair L h.inc
set_option maxHeartbeats 8000000 in
theorem TableBack_walk (v : Value) (L : List Cel) (w : World) (he : Env w) (hv : SlX eC w.heap.size w v L) (hl : Room L.length) (hin : ∀ c ∈ L, CelIn c) (hre : ∀ c ∈ L, CelRe c) :
    Calls Tryz.prog 9 #[v] w fun e w' => e = .returned (.bool true) ∧ Below w.heap.size w w' := by
  have HL0 := Lib.hid hl
  have ENDB := Lib.hid (fun (W : World) (h : Below w.heap.size w W) => h)
  obtain ⟨a, cap, rfl, hc, hx⟩ := hv.ex
  go_enter Tryz.func9, Tryz.ntmps9
  go_wp2_with fail
  have HE := Lib.hid he; have HV := Lib.hid hv; have HIN := Lib.hid hin; have HRE := Lib.hid hre
  have HX := Lib.hid hx
  have WG := Lib.hid (weigh_ex (.slice a L.length cap) L 300 w HV.out HL0.out hre (by decide))
  unfold Room at hl
  clear hx hv he hin hre
  refine WG.out.mono ?_
  rintro e w0 ⟨r, rfl, hr, hb0⟩
  have HB0 := Lib.hid hb0
  by_cases hgt : 300 < r
  · have hq : (300 : Int) < (r : Int) := by omega
    have LV := Lib.hid (lives_any w0 (HE.out.below hb0))
    clear hr hgt hb0 WG
    go_wp2_with fail
    refine LV.out.mono ?_
    rintro e w1 ⟨rfl, hb1⟩
    have HB1 := Lib.hid (below_tr HB0.out hb1)
    clear hb1 LV
    go_wp2_with fail
    go_ret
    exact ⟨rfl, ENDB.out _ HB1.out⟩
  · have hq : ¬ (300 : Int) < (r : Int) := by omega
    have HWT := Lib.hid (show wt L ≤ 400 by have := hr (by omega); omega)
    have HG0 := Lib.hid (show CoI w w0 (.slice none 0 0) ((L.take 0).filter goodC) from ⟨OwnX.nil _ _, hb0⟩)
    have HCT := Lib.hid (show ∀ c ∈ L, CelT c from fun c hc => by
      have h1 := wt_txt L
      have h2 := txt_mem hc
      have h3 := HWT.out
      unfold txtC at h2
      refine ⟨?_, ?_, ?_, ?_⟩ <;> simp only [maxLen] <;> omega)
    clear hr hgt hb0 WG
    go_wp2_with fail
    go_loopw [3, 5, 23] (fun vo _ vi wr => ∃ i : Nat, vi = .int .i64 (i : Int) ∧ i ≤ L.length ∧ Hid (CoI w wr vo ((L.take i).filter goodC))) (fun _ _ vi _ => L.length - (intOf vi).toNat)
    case atStart => exact ⟨0, rfl, Nat.zero_le _, HG0⟩
    case round =>
      clear HG0
      obtain ⟨i, rfl, hi, HC⟩ := hrel
      have HB := Lib.hid HC.out.bel
      by_cases hlt : i < L.length
      · have hz : (i : Int) < (L.length : Int) := by omega
        obtain ⟨gl, o, rfl, hgl2, _⟩ := HX.out (by omega)
        have ten := (Ten.of HV.out i hlt).keep HB.out
        have TI := Lib.hid (show L.take (i + 1) = L.take i ++ [L[i]] from List.take_succ_eq_append_getElem hlt)
        have GC := Lib.hid (fun W => goodC_any L[i] W (HCT.out _ (List.getElem_mem hlt)))
        have HO := Lib.hid HC.out.own
        obtain ⟨acc, hacc⟩ : ∃ acc, (L.take i).filter goodC = acc := ⟨_, rfl⟩
        rw [hacc] at HO
        have hal : acc.length ≤ 20000 := by
          rw [← hacc]
          have h1 := List.length_filter_le goodC (L.take i)
          rw [List.length_take] at h1
          have h2 := wt_len L
          have h3 := HWT.out
          omega
        generalize L[i] = x at *
        obtain ⟨g, hg⟩ : ∃ g, goodC x = g := ⟨_, rfl⟩
        rw [hg] at GC
        have NX := Lib.hid (show (L.take (i + 1)).filter goodC = if g = true then acc ++ [x] else acc by
          rw [TI.out, List.filter_append, hacc]
          cases g with
          | true => rw [List.filter_cons_of_pos hg]; rfl
          | false => rw [List.filter_cons_of_neg (by rw [hg]; simp)]; simp)
        clear hacc hg
        obtain ⟨c0, c1, c2, c3, c4, c5, c6, c7, c8, c9⟩ := ten
        have BK := Lib.hid (Blk.new wr 61 (celEnc x).toArray)
        have BX := Lib.hid (below_alloc (Below.refl _ wr) (.cells (celEnc x).toArray 61))
        obtain ⟨⟨t, p, rr, q⟩, ⟨tm, dd, lc, kd, nn, ss⟩⟩ := x
        simp only [celEnc] at *
        go_upto_region 7 with (fail)
        clear c0 c1 c2 c3 c4 c5 c6 c7 c8 c9
        generalize hW1 : wr.alloc (.cells #[.string t, .string p, .int .i64 rr, .string q, .int .i64 tm, .bool dd, .int .i64 lc, .int .i64 kd, .int .i64 nn, .string ss] 61) = W1 at *
        have HB4 := Lib.hid (below_tr HB.out BX.out)
        have O4 := Lib.hid (HO.out.below BX.out)
        obtain ⟨c0, c1, c2, c3, c4, c5, c6, c7, c8, c9⟩ := Blk.ten (x := (⟨⟨t, p, rr, q⟩, ⟨tm, dd, lc, kd, nn, ss⟩⟩ : Cel)) BK.out
        simp only [Nat.zero_add] at c0 c1 c2 c3 c4 c5 c6 c7 c8 c9
        clear hW1
        go_wp2_with fail
        refine (GC.out _).mono ?_
        rintro e w5 ⟨rfl, hb5⟩
        have HB5 := Lib.hid (below_tr HB4.out hb5)
        have O5 := Lib.hid (O4.out.below hb5)
        have bk := BK.out.below hb5
        clear c0 c1 c2 c3 c4 c5 c6 c7 c8 c9
        obtain ⟨c0, c1, c2, c3, c4, c5, c6, c7, c8, c9⟩ := Blk.ten (x := (⟨⟨t, p, rr, q⟩, ⟨tm, dd, lc, kd, nn, ss⟩⟩ : Cel)) bk
        simp only [Nat.zero_add] at c0 c1 c2 c3 c4 c5 c6 c7 c8 c9
        clear bk hb5
        cases g with
        | true =>
          have BX7 := Lib.hid (below_al HB5.out (.cells #[.string t, .string p, .int .i64 rr, .string q, .int .i64 tm, .bool dd, .int .i64 lc, .int .i64 kd, .int .i64 nn, .string ss] 61) HB5.out.size)
          have OX7 := Lib.hid (O5.out.alloc (.cells #[.string t, .string p, .int .i64 rr, .string q, .int .i64 tm, .bool dd, .int .i64 lc, .int .i64 kd, .int .i64 nn, .string ss] 61))
          have SX7 := Lib.hid (SlX.lit (E := eC) w5 #[.string t, .string p, .int .i64 rr, .string q, .int .i64 tm, .bool dd, .int .i64 lc, .int .i64 kd, .int .i64 nn, .string ss] [(⟨⟨t, p, rr, q⟩, ⟨tm, dd, lc, kd, nn, ss⟩⟩ : Cel)] 1 1 rfl (by simp) (by simp [El.cells, eC, celEnc]))
          go_wp2_with (at_builtin; go_must (refine ap_x (E := eC) rfl (.tmp 29) (.tmp 31) rfl w.heap.size _ acc _ _ [(⟨⟨t, p, rr, q⟩, ⟨tm, dd, lc, kd, nn, ss⟩⟩ : Cel)] rfl rfl SX7.out OX7.out BX7.out BX7.out.size (by simp; omega) (by simp [eC]; omega) ?_); intro v7 w7 hO7 hB7 hz7 hg7)
          have CI := Lib.hid (show CoI w w7 v7 ((L.take (i + 1)).filter goodC) from ⟨by rw [NX.out]; exact hO7, hB7⟩)
          clear hO7 hB7 hz7 hg7
          go_roundw
          case rel => exact ⟨i + 1, by first | rfl | go_num, by omega, CI⟩
          case measure => simp [intOf]; omega
        | false =>
          have CI := Lib.hid (show CoI w w5 _ ((L.take (i + 1)).filter goodC) from ⟨by rw [NX.out]; exact O5.out, HB5.out⟩)
          go_wp2_with fail
          go_roundw
          case rel => exact ⟨i + 1, by first | rfl | go_num, by omega, CI⟩
          case measure => simp [intOf]; omega
      · have hz : ¬ (i : Int) < (L.length : Int) := by omega
        have HG := Lib.hid (show CoI w wr _ (L.filter goodC) from by have := HC.out; rwa [List.take_of_length_le (by omega)] at this)
        have GTH := Lib.hid (fun h => goodT_of HIN.out HWT.out (L := L) h)
        have HGL := Lib.hid (show (L.filter goodC).length ≤ 400 from Nat.le_trans (List.length_filter_le _ _) (Nat.le_trans (wt_len L) HWT.out))
        clear HC HB
        have ND := Lib.hid (fun W (h : SlX eC W.heap.size W u3 (L.filter goodC)) => normC_any u3 (L.filter goodC) W h (by unfold Room; have := HGL.out; omega))
        obtain ⟨G, hG⟩ : ∃ G, L.filter goodC = G := ⟨_, rfl⟩
        rw [hG] at HG GTH HGL ND
        clear hG
        obtain ⟨ag, cg, eg, _, _⟩ := (OwnX.sl HG.out.own).ex
        subst eg
        have NR := Lib.hid (ND.out wr (OwnX.sl HG.out.own))
        have HBW := Lib.hid HG.out.bel
        go_wp2_with fail
        refine NR.out.mono ?_
        rintro e w1 ⟨v1, rfl, hO1, hb1⟩
        have HO1 := Lib.hid hO1; have HB1 := Lib.hid (below_tr HBW.out hb1)
        obtain ⟨a1, c1, e1, _, _⟩ := (OwnX.sl hO1).ex
        subst e1
        clear hO1 hb1 NR ND
        by_cases hg0 : G.length = 0
        · obtain rfl := List.length_eq_zero_iff.1 hg0
          have WB := Lib.hid (write_bad _ (normC []) w1 (OwnX.sl HO1.out) (by rw [norm_nil]; unfold Room; simp) (by rw [norm_nil]; simp) (fun h => by have := h.pos; rw [norm_nil] at this; simp at this))
          rw [norm_nil] at WB HO1
          have hz0 : (([] : List Cel).length : Int) = 0 := rfl
          simp only [norm_nil] at *
          go_wp2_with fail
          refine WB.out.mono ?_
          rintro e w2 ⟨rfl, hb2⟩
          have HB2 := Lib.hid (below_tr HB1.out hb2)
          have LV := Lib.hid (lives_any w2 (HE.out.below HB2.out))
          clear hb2 WB
          go_wp2_with fail
          refine LV.out.mono ?_
          rintro e w3 ⟨rfl, hb3⟩
          have HB3 := Lib.hid (below_tr HB2.out hb3)
          clear hb3 LV
          go_wp2_with fail
          go_ret
          exact ⟨rfl, HB3.out⟩
        · have GT := Lib.hid (GTH.out (by omega))
          generalize normC G = M at *
          have hmp := GT.out.ok.pos
          have hmz : ((M.length : Int) == 0) = false := by rw [beq_eq_false_iff_ne]; omega
          have HTL := Lib.hid (tab_light GT.out.cin GT.out.wt)
          have HOP := Lib.hid (openN_table M GT.out.ok GT.out.fit)
          have HFL := Lib.hid (chunk8_flat M.length M (Nat.le_refl _))
          have HML := Lib.hid GT.out.ok.most
          have WR := Lib.hid (write_ok _ M w1 (HE.out.below HB1.out) (OwnX.sl HO1.out) GT.out.ok GT.out.fit)
          have PAIR := Lib.hid GT.out.ok.pair
          generalize chunk8 M = bs at *
          generalize htb : tableL M = TB at *
          clear hg0 hmp
          go_wp2_with fail
          refine WR.out.mono ?_
          rintro e w2 ⟨v2, rfl, hO2, hb2⟩
          have HO2 := Lib.hid hO2; have HB2 := Lib.hid (below_tr HB1.out hb2); have SM2 := Lib.hid ((OwnX.sl HO1.out).keep hb2)
          have OP := Lib.hid (open_any v2 TB w2 (HE.out.below HB2.out) (OwnB.slB hO2) HTL.out)
          rw [HOP.out] at OP
          obtain ⟨a2, c2, e2, _, _⟩ := (OwnB.slB hO2).ex
          subst e2
          clear hO2 hb2 WR
          go_wp2_with fail
          refine OP.out.mono ?_
          rintro e w3 ⟨hb3, g, rfl, ht⟩
          have HB3 := Lib.hid (below_tr HB2.out hb3); have HT3 := Lib.hid ht; have SM3 := Lib.hid (SM2.out.keep hb3); have HO3 := Lib.hid (HO2.out.below hb3)
          have AL := Lib.hid (all_any g bs w3 ht)
          rw [HFL.out] at AL
          clear hb3 ht OP
          go_wp2_with fail
          refine AL.out.mono ?_
          rintro e w4 ⟨v4, rfl, hO4, hb4⟩
          have HB4 := Lib.hid (below_tr HB3.out hb4); have HT4 := Lib.hid (HT3.out.keep hb4); have SM4 := Lib.hid (SM3.out.keep hb4); have HO4 := Lib.hid (HO3.out.below hb4)
          have LK := Lib.hid (like_any v4 _ M w4 (OwnX.sl hO4) SM4.out (by unfold Room; have := HML.out; omega))
          clear hb4 hO4 AL
          go_wp2_with fail
          refine LK.out.mono ?_
          rintro e w5 ⟨rfl, hb5⟩
          have HB5 := Lib.hid (below_tr HB4.out hb5); have HT5 := Lib.hid (HT4.out.keep hb5); have SM5 := Lib.hid (SM4.out.keep hb5); have HO5 := Lib.hid (HO4.out.below hb5)
          clear hb5 LK
          go_wp2_with fail
          have HE5 := Lib.hid (HE.out.below HB5.out)
          have HKEY := Lib.hid GT.out.fit.keys
          go_loopw [12, 13, 14, 74] (fun _ _ _ vi wr => ∃ j : Nat, vi = .int .i64 (j : Int) ∧ j ≤ M.length ∧ Hid (Below w5.heap.size w5 wr)) (fun _ _ _ vi _ => M.length - (intOf vi).toNat)
          case atStart => exact ⟨0, rfl, Nat.zero_le _, Lib.hid (Below.refl _ _)⟩
          case round =>
            obtain ⟨j, rfl, hj, HBR⟩ := hrel
            by_cases hjl : j < M.length
            · have hz2 : (j : Int) < (M.length : Int) := by omega
              obtain ⟨gl, o, cx, ea1, _, _⟩ := (SM5.out.form (by omega))
              injection ea1 with ea2 _ ea3
              subst ea2 ea3
              have ten := (Ten.of SM5.out j hjl).keep HBR.out
              have KS := HKEY.out M[j] (List.getElem_mem hjl)
              have FS := find_self PAIR.out (List.getElem_mem hjl)
              have MS := may_has M M[j].k (by rw [FS]; rfl)
              generalize M[j] = x at *
              have hm20 := HML.out
              have GET := Lib.hid (fun W (hb : Below w5.heap.size w5 W) => show Calls Tryz.prog 18 #[.pointer (some ⟨g, 0, none⟩), kyVal x.k] W (fun e w' => e = .returned (.tuple #[.agg (vrEnc x.v).toArray, .bool true]) ∧ Below W.heap.size W w') from by
                have := get_any g bs x.k W (HT5.out.keep hb) (HE5.out.below hb) (by omega)
                rw [HFL.out, show findV M x.k = x.v by unfold findV; rw [FS]; rfl, FS] at this
                exact this)
              have MAY := Lib.hid (fun W (hb : Below w5.heap.size w5 W) => show Calls Tryz.prog 20 #[.pointer (some ⟨g, 0, none⟩), kyVal x.k] W (fun e w' => e = .returned (.bool true) ∧ Below W.heap.size W w') from by
                have := tmay_any g bs x.k W (HT5.out.keep hb) (HE5.out.below hb) (by omega)
                rw [HFL.out, MS] at this
                exact this)
              have NQ := fun W => ver_same W x.v
              clear KS FS MS
              obtain ⟨c0, c1, c2, c3, c4, c5, c6, c7, c8, c9⟩ := ten
              have BK := Lib.hid (Blk.new wr 61 (celEnc x).toArray)
              have BX := Lib.hid (below_alloc (Below.refl _ wr) (.cells (celEnc x).toArray 61))
              obtain ⟨⟨t, p, rr, q⟩, ⟨tm, dd, lc, kd, nn, ss⟩⟩ := x
              simp only [celEnc, kyVal, vrEnc] at *
              go_upto_region 20 with (fail)
              clear c0 c1 c2 c3 c4 c5 c6 c7 c8 c9
              generalize hW1 : wr.alloc (.cells #[.string t, .string p, .int .i64 rr, .string q, .int .i64 tm, .bool dd, .int .i64 lc, .int .i64 kd, .int .i64 nn, .string ss] 61) = W1 at *
              have HB6 := Lib.hid (below_tr HBR.out BX.out)
              obtain ⟨c0, c1, c2, c3, c4, c5, c6, c7, c8, c9⟩ := Blk.ten (x := (⟨⟨t, p, rr, q⟩, ⟨tm, dd, lc, kd, nn, ss⟩⟩ : Cel)) BK.out
              simp only [Nat.zero_add] at c0 c1 c2 c3 c4 c5 c6 c7 c8 c9
              clear hW1
              go_wp2_with fail
              refine (GET.out _ HB6.out).mono ?_
              rintro e w6 ⟨rfl, hb6⟩
              have HB7 := Lib.hid (below_tr HB6.out hb6)
              have BK6 := Lib.hid (BK.out.below hb6)
              clear c0 c1 c2 c3 c4 c5 c6 c7 c8 c9 hb6
              go_upto_region 21 with (fail)
              have HB8 := Lib.hid (below_alloc HB7.out (.cells #[.int .i64 tm, .bool dd, .int .i64 lc, .int .i64 kd, .int .i64 nn, .string ss] 49))
              have BV := Lib.hid (Blk.new w6 49 #[.int .i64 tm, .bool dd, .int .i64 lc, .int .i64 kd, .int .i64 nn, .string ss])
              have bk := BK6.out.below (below_alloc (Below.refl _ w6) (.cells #[.int .i64 tm, .bool dd, .int .i64 lc, .int .i64 kd, .int .i64 nn, .string ss] 49))
              generalize w6.alloc (.cells #[.int .i64 tm, .bool dd, .int .i64 lc, .int .i64 kd, .int .i64 nn, .string ss] 49) = W2 at *
              have BK7 := Lib.hid bk
              obtain ⟨c0, c1, c2, c3, c4, c5, c6, c7, c8, c9⟩ := Blk.ten (x := (⟨⟨t, p, rr, q⟩, ⟨tm, dd, lc, kd, nn, ss⟩⟩ : Cel)) bk
              simp only [Nat.zero_add] at c0 c1 c2 c3 c4 c5 c6 c7 c8 c9
              have v0 := BV.out.cell 0 rfl; have v1 := BV.out.cell 1 rfl; have v2 := BV.out.cell 2 rfl; have v3 := BV.out.cell 3 rfl; have v4 := BV.out.cell 4 rfl; have v5 := BV.out.cell 5 rfl
              clear bk
              go_wp2_with fail
              refine (MAY.out _ HB8.out).mono ?_
              rintro e w7 ⟨rfl, hb7⟩
              have HB9 := Lib.hid (below_tr HB8.out hb7)
              clear c0 c1 c2 c3 c4 c5 c6 c7 c8 c9 v0 v1 v2 v3 v4 v5 hb7
              go_wp2_with fail
              go_roundw
              case rel => exact ⟨j + 1, by first | rfl | go_num, by omega, HB9⟩
              case measure => simp [intOf]; omega
            · have hz2 : ¬ (j : Int) < (M.length : Int) := by omega
              have AL := Lib.hid (all_any g bs wr (HT5.out.keep HBR.out))
              rw [HFL.out] at AL
              go_wp2_with fail
              refine AL.out.mono ?_
              rintro e w6 ⟨v6, rfl, hO6, hb6⟩
              have HB6 := Lib.hid (below_tr HBR.out hb6)
              have WR := Lib.hid (write_ok v6 M w6 (HE5.out.below HB6.out) (OwnX.sl hO6) GT.out.ok GT.out.fit)
              rw [htb] at WR
              clear hO6 hb6 AL
              go_wp2_with fail
              refine WR.out.mono ?_
              rintro e w7 ⟨v7, rfl, hO7, hb7⟩
              have HB7 := Lib.hid (below_tr HB6.out hb7)
              have SA := Lib.hid (SameT v7 _ TB w7 (OwnB.reads hO7) (OwnB.reads (HO5.out.below HB7.out)))
              clear hO7 hb7 WR
              go_wp2_with fail
              refine SA.out.mono ?_
              rintro e w8 ⟨rfl, hb8⟩
              have HB8 := Lib.hid (below_tr HB7.out hb8)
              have LV := Lib.hid (lives_any w8 (HE5.out.below HB8.out))
              clear hb8 SA
              go_wp2_with fail
              refine LV.out.mono ?_
              rintro e w9 ⟨rfl, hb9⟩
              have HB9 := Lib.hid (below_tr HB5.out (below_tr HB8.out hb9))
              clear hb9 LV
              go_wp2_with fail
              go_ret
              exact ⟨rfl, HB9.out⟩
end Go.Proofs.YtplghaoflmaadaaGreatDoor
end

section
set_option linter.unusedVariables false
set_option linter.unusedSimpArgs false
set_option maxRecDepth 50000
namespace Go.Proofs.YtplghaoflmaadaaGreatDoor
open Go.RowKit Go.Sort
open Go.Lib hiding intOf

theorem pair_low {L : List Cel} (h : L.Pairwise (fun a b => kcK a.k b.k < 0)) {c : Cel} (hc : c ∈ L) : ¬ kcK c.k (L.getD 0 zCl).k < 0 := by
  cases L with
  | nil => simp at hc
  | cons a L =>
    show ¬ kcK c.k a.k < 0
    rcases List.mem_cons.1 hc with rfl | hc
    · rw [kcK_ord.self]; omega
    · have := List.rel_of_pairwise_cons h hc
      rw [kcK_ord.neg]; omega
theorem pair_high {L : List Cel} (h : L.Pairwise (fun a b => kcK a.k b.k < 0)) {c : Cel} (hc : c ∈ L) : ¬ 0 < kcK c.k (lastK L) := by
  have := lastK_top h c hc; omega
set_option maxHeartbeats 8000000 in
theorem TableEnds_walk (v : Value) (L : List Cel) (k : Ky) (w : World) (he : Env w) (hv : SlX eC w.heap.size w v L) (hl : Room L.length) (hin : ∀ c ∈ L, CelIn c) (hre : ∀ c ∈ L, CelRe c) (hkz : k.t.size + k.p.size + k.c.size ≤ 2000000) :
    Calls Tryz.prog 8 #[v, kyVal k] w fun e w' => e = .returned (.bool true) ∧ Below w.heap.size w w' := by
  have HL0 := Lib.hid hl
  have B0 := below_alloc (Below.refl _ w) (.cells #[.string k.t, .string k.p, .int .i64 k.r, .string k.c] 24)
  have KB0 := Lib.hid (Blk.new w 24 #[.string k.t, .string k.p, .int .i64 k.r, .string k.c])
  have ENDB := Lib.hid (fun (W : World) (h : Below (w.alloc (.cells #[.string k.t, .string k.p, .int .i64 k.r, .string k.c] 24)).heap.size (w.alloc (.cells #[.string k.t, .string k.p, .int .i64 k.r, .string k.c] 24)) W) => show Below w.heap.size w W from below_tr B0 h)
  have hv := hv.keep B0
  have he := he.below B0
  have HKZ := Lib.hid hkz
  obtain ⟨a, cap, rfl, hc, hx⟩ := hv.ex
  clear B0 hkz
  unfold kyVal
  go_enter Tryz.func8, Tryz.ntmps8
  go_wp2_with fail
  generalize w.alloc (.cells #[.string k.t, .string k.p, .int .i64 k.r, .string k.c] 24) = W0 at *
  have HE := Lib.hid he; have HV := Lib.hid hv; have HIN := Lib.hid hin; have HRE := Lib.hid hre
  have HX := Lib.hid hx
  have WG := Lib.hid (weigh_ex (.slice a L.length cap) L 200 W0 HV.out HL0.out hre (by decide))
  unfold Room at hl
  clear hx hv he hin hre
  refine WG.out.mono ?_
  rintro e w0 ⟨r, rfl, hr, hb0⟩
  have HB0 := Lib.hid hb0
  by_cases hgt : 200 < r
  · have hq : (200 : Int) < (r : Int) := by omega
    have LV := Lib.hid (lives_any w0 (HE.out.below hb0))
    clear hr hgt hb0 WG
    go_wp2_with fail
    refine LV.out.mono ?_
    rintro e w1 ⟨rfl, hb1⟩
    have HB1 := Lib.hid (below_tr HB0.out hb1)
    clear hb1 LV
    go_wp2_with fail
    go_ret
    exact ⟨rfl, ENDB.out _ HB1.out⟩
  · have hq : ¬ (200 : Int) < (r : Int) := by omega
    have HWT := Lib.hid (show wt L ≤ 400 by have := hr (by omega); omega)
    have HG0 := Lib.hid (show CoI W0 w0 (.slice none 0 0) ((L.take 0).filter goodC) from ⟨OwnX.nil _ _, hb0⟩)
    have HCT := Lib.hid (show ∀ c ∈ L, CelT c from fun c hc => by
      have h1 := wt_txt L
      have h2 := txt_mem hc
      have h3 := HWT.out
      unfold txtC at h2
      refine ⟨?_, ?_, ?_, ?_⟩ <;> simp only [maxLen] <;> omega)
    clear hr hgt hb0 WG
    go_wp2_with fail
    go_loopw [5, 7, 25] (fun vo _ vi wr => ∃ i : Nat, vi = .int .i64 (i : Int) ∧ i ≤ L.length ∧ Hid (CoI W0 wr vo ((L.take i).filter goodC))) (fun _ _ vi _ => L.length - (intOf vi).toNat)
    case atStart => exact ⟨0, rfl, Nat.zero_le _, HG0⟩
    case round =>
      clear HG0
      obtain ⟨i, rfl, hi, HC⟩ := hrel
      have HB := Lib.hid HC.out.bel
      by_cases hlt : i < L.length
      · have hz : (i : Int) < (L.length : Int) := by omega
        obtain ⟨gl, o, rfl, hgl2, _⟩ := HX.out (by omega)
        have ten := (Ten.of HV.out i hlt).keep HB.out
        have TI := Lib.hid (show L.take (i + 1) = L.take i ++ [L[i]] from List.take_succ_eq_append_getElem hlt)
        have GC := Lib.hid (fun W => goodC_any L[i] W (HCT.out _ (List.getElem_mem hlt)))
        have HO := Lib.hid HC.out.own
        obtain ⟨acc, hacc⟩ : ∃ acc, (L.take i).filter goodC = acc := ⟨_, rfl⟩
        rw [hacc] at HO
        have hal : acc.length ≤ 20000 := by
          rw [← hacc]
          have h1 := List.length_filter_le goodC (L.take i)
          rw [List.length_take] at h1
          have h2 := wt_len L
          have h3 := HWT.out
          omega
        generalize L[i] = x at *
        obtain ⟨g, hg⟩ : ∃ g, goodC x = g := ⟨_, rfl⟩
        rw [hg] at GC
        have NX := Lib.hid (show (L.take (i + 1)).filter goodC = if g = true then acc ++ [x] else acc by
          rw [TI.out, List.filter_append, hacc]
          cases g with
          | true => rw [List.filter_cons_of_pos hg]; rfl
          | false => rw [List.filter_cons_of_neg (by rw [hg]; simp)]; simp)
        clear hacc hg
        obtain ⟨c0, c1, c2, c3, c4, c5, c6, c7, c8, c9⟩ := ten
        have BK := Lib.hid (Blk.new wr 61 (celEnc x).toArray)
        have BX := Lib.hid (below_alloc (Below.refl _ wr) (.cells (celEnc x).toArray 61))
        obtain ⟨⟨t, p, rr, q⟩, ⟨tm, dd, lc, kd, nn, ss⟩⟩ := x
        simp only [celEnc] at *
        go_upto_region 7 with (fail)
        clear c0 c1 c2 c3 c4 c5 c6 c7 c8 c9
        generalize hW1 : wr.alloc (.cells #[.string t, .string p, .int .i64 rr, .string q, .int .i64 tm, .bool dd, .int .i64 lc, .int .i64 kd, .int .i64 nn, .string ss] 61) = W1 at *
        have HB4 := Lib.hid (below_tr HB.out BX.out)
        have O4 := Lib.hid (HO.out.below BX.out)
        obtain ⟨c0, c1, c2, c3, c4, c5, c6, c7, c8, c9⟩ := Blk.ten (x := (⟨⟨t, p, rr, q⟩, ⟨tm, dd, lc, kd, nn, ss⟩⟩ : Cel)) BK.out
        simp only [Nat.zero_add] at c0 c1 c2 c3 c4 c5 c6 c7 c8 c9
        clear hW1
        go_wp2_with fail
        refine (GC.out _).mono ?_
        rintro e w5 ⟨rfl, hb5⟩
        have HB5 := Lib.hid (below_tr HB4.out hb5)
        have O5 := Lib.hid (O4.out.below hb5)
        have bk := BK.out.below hb5
        clear c0 c1 c2 c3 c4 c5 c6 c7 c8 c9
        obtain ⟨c0, c1, c2, c3, c4, c5, c6, c7, c8, c9⟩ := Blk.ten (x := (⟨⟨t, p, rr, q⟩, ⟨tm, dd, lc, kd, nn, ss⟩⟩ : Cel)) bk
        simp only [Nat.zero_add] at c0 c1 c2 c3 c4 c5 c6 c7 c8 c9
        clear bk hb5
        cases g with
        | true =>
          have BX7 := Lib.hid (below_al HB5.out (.cells #[.string t, .string p, .int .i64 rr, .string q, .int .i64 tm, .bool dd, .int .i64 lc, .int .i64 kd, .int .i64 nn, .string ss] 61) HB5.out.size)
          have OX7 := Lib.hid (O5.out.alloc (.cells #[.string t, .string p, .int .i64 rr, .string q, .int .i64 tm, .bool dd, .int .i64 lc, .int .i64 kd, .int .i64 nn, .string ss] 61))
          have SX7 := Lib.hid (SlX.lit (E := eC) w5 #[.string t, .string p, .int .i64 rr, .string q, .int .i64 tm, .bool dd, .int .i64 lc, .int .i64 kd, .int .i64 nn, .string ss] [(⟨⟨t, p, rr, q⟩, ⟨tm, dd, lc, kd, nn, ss⟩⟩ : Cel)] 1 1 rfl (by simp) (by simp [El.cells, eC, celEnc]))
          go_wp2_with (at_builtin; go_must (refine ap_x (E := eC) rfl (.tmp 31) (.tmp 33) rfl W0.heap.size _ acc _ _ [(⟨⟨t, p, rr, q⟩, ⟨tm, dd, lc, kd, nn, ss⟩⟩ : Cel)] rfl rfl SX7.out OX7.out BX7.out BX7.out.size (by simp; omega) (by simp [eC]; omega) ?_); intro v7 w7 hO7 hB7 hz7 hg7)
          have CI := Lib.hid (show CoI W0 w7 v7 ((L.take (i + 1)).filter goodC) from ⟨by rw [NX.out]; exact hO7, hB7⟩)
          clear hO7 hB7 hz7 hg7
          go_roundw
          case rel => exact ⟨i + 1, by first | rfl | go_num, by omega, CI⟩
          case measure => simp [intOf]; omega
        | false =>
          have CI := Lib.hid (show CoI W0 w5 _ ((L.take (i + 1)).filter goodC) from ⟨by rw [NX.out]; exact O5.out, HB5.out⟩)
          go_wp2_with fail
          go_roundw
          case rel => exact ⟨i + 1, by first | rfl | go_num, by omega, CI⟩
          case measure => simp [intOf]; omega
      · have hz : ¬ (i : Int) < (L.length : Int) := by omega
        have HG := Lib.hid (show CoI W0 wr _ (L.filter goodC) from by have := HC.out; rwa [List.take_of_length_le (by omega)] at this)
        have GTH := Lib.hid (fun h => goodT_of HIN.out HWT.out (L := L) h)
        have HGL := Lib.hid (show (L.filter goodC).length ≤ 400 from Nat.le_trans (List.length_filter_le _ _) (Nat.le_trans (wt_len L) HWT.out))
        clear HC HB
        have ND := Lib.hid (fun W (h : SlX eC W.heap.size W u5 (L.filter goodC)) => normC_any u5 (L.filter goodC) W h (by unfold Room; have := HGL.out; omega))
        obtain ⟨G, hG⟩ : ∃ G, L.filter goodC = G := ⟨_, rfl⟩
        have HGG := Lib.hid (show ∀ c ∈ G, c ∈ L ∧ goodC c = true by rw [← hG]; exact fun c hc => List.mem_filter.1 hc)
        rw [hG] at HG GTH HGL ND
        clear hG
        obtain ⟨ag, cg, eg, _, _⟩ := (OwnX.sl HG.out.own).ex
        subst eg
        have NR := Lib.hid (ND.out wr (OwnX.sl HG.out.own))
        have HBW := Lib.hid HG.out.bel
        have SG := Lib.hid (OwnX.sl HG.out.own)
        go_wp2_with fail
        refine NR.out.mono ?_
        rintro e w1 ⟨v1, rfl, hO1, hb1⟩
        have HO1 := Lib.hid hO1; have HB1 := Lib.hid (below_tr HBW.out hb1); have SG1 := Lib.hid (SG.out.keep hb1)
        clear hO1 hb1 NR ND
        by_cases hg0 : G.length = 0
        · obtain rfl := List.length_eq_zero_iff.1 hg0
          have WB := Lib.hid (write_bad v1 (normC []) w1 (OwnX.sl HO1.out) (by rw [norm_nil]; unfold Room; simp) (by rw [norm_nil]; simp) (fun h => by have := h.pos; rw [norm_nil] at this; simp at this))
          have hb9 : ((2 : Int) != 0) = true := by decide
          go_wp2_with fail
          refine WB.out.mono ?_
          rintro e w2 ⟨rfl, hb2⟩
          have HB2 := Lib.hid (below_tr HB1.out hb2)
          have LV := Lib.hid (lives_any w2 (HE.out.below HB2.out))
          clear hb2 WB
          go_wp2_with fail
          refine LV.out.mono ?_
          rintro e w3 ⟨rfl, hb3⟩
          have HB3 := Lib.hid (below_tr HB2.out hb3)
          clear hb3 LV
          go_wp2_with fail
          go_ret
          exact ⟨rfl, ENDB.out _ HB3.out⟩
        · have GT := Lib.hid (GTH.out (by omega))
          have HTL := Lib.hid (tab_light GT.out.cin GT.out.wt)
          have HOP := Lib.hid (openN_table (normC G) GT.out.ok GT.out.fit)
          have HFL := Lib.hid (chunk8_flat (normC G).length (normC G) (Nat.le_refl _))
          have HCL := Lib.hid (chunk8_len (normC G))
          have HML := Lib.hid GT.out.ok.most
          have PAIR := Lib.hid GT.out.ok.pair
          have INN := Lib.hid (fun c (hc : c ∈ G) => show ¬ kcK c.k ((normC G).getD 0 zCl).k < 0 ∧ ¬ 0 < kcK c.k (lastK (normC G)) by
            obtain ⟨x, hx, e⟩ := GT.out.mem c (HGG.out c hc).1 (HGG.out c hc).2
            rw [← e]
            exact ⟨pair_low PAIR.out hx, pair_high PAIR.out hx⟩)
          have INM := Lib.hid (fun (h : (findC (normC G) k).isSome = true) => show ¬ kcK k ((normC G).getD 0 zCl).k < 0 ∧ ¬ 0 < kcK k (lastK (normC G)) by
            unfold findC at h
            rw [Option.isSome_map, List.find?_isSome] at h
            obtain ⟨c, hc, e⟩ := h
            rw [← of_decide_eq_true e]
            exact ⟨pair_low PAIR.out hc, pair_high PAIR.out hc⟩)
          have WR := Lib.hid (write_ok v1 (normC G) w1 (HE.out.below HB1.out) (OwnX.sl HO1.out) GT.out.ok GT.out.fit)
          generalize normC G = M at *
          generalize chunk8 M = bs at *
          generalize tableL M = TB at *
          have hb90 : ((0 : Int) != 0) = false := by decide
          clear hg0
          go_wp2_with fail
          refine WR.out.mono ?_
          rintro e w2 ⟨v2, rfl, hO2, hb2⟩
          have HB2 := Lib.hid (below_tr HB1.out hb2); have SG2 := Lib.hid (SG1.out.keep hb2)
          have OP := Lib.hid (open_any v2 TB w2 (HE.out.below HB2.out) (OwnB.slB hO2) HTL.out)
          rw [HOP.out] at OP
          clear hO2 hb2 WR
          go_wp2_with fail
          refine OP.out.mono ?_
          rintro e w3 ⟨hb3, g, rfl, ht⟩
          have HB3 := Lib.hid (below_tr HB2.out hb3); have HT3 := Lib.hid ht; have SG3 := Lib.hid (SG2.out.keep hb3)
          have EN := Lib.hid (ends_any g bs w3 ht)
          rw [HFL.out] at EN
          clear hb3 ht OP
          go_wp2_with fail
          refine EN.out.mono ?_
          rintro e w4 ⟨rfl, hb4⟩
          have HB4 := Lib.hid (below_tr HB3.out hb4); have HT4 := Lib.hid (HT3.out.keep hb4); have SG4 := Lib.hid (SG3.out.keep hb4)
          clear hb4 EN
          generalize hlo : (M.getD 0 zCl).k = lo at *
          clear hlo
          generalize hhi : lastK M = hi at *
          clear hhi
          obtain ⟨lt, lp, lr, lq⟩ := lo
          obtain ⟨ht, hp, hr, hq⟩ := hi
          unfold kyVal at *
          go_upto_region 15 with (fail)
          have BLo := Lib.hid ((Blk.new w4 24 #[.string lt, .string lp, .int .i64 lr, .string lq]).alloc (.cells #[.string ht, .string hp, .int .i64 hr, .string hq] 24))
          have bhi := Blk.new (w4.alloc (.cells #[.string lt, .string lp, .int .i64 lr, .string lq] 24)) 24 #[.string ht, .string hp, .int .i64 hr, .string hq]
          rw [show (w4.alloc (.cells #[.string lt, .string lp, .int .i64 lr, .string lq] 24)).heap.size = w4.heap.size + 1 by simp] at bhi
          have BHi := Lib.hid bhi
          have bx5 := below_alloc (below_alloc (Below.refl _ w4) (.cells #[.string lt, .string lp, .int .i64 lr, .string lq] 24)) (.cells #[.string ht, .string hp, .int .i64 hr, .string hq] 24)
          have HB5 := Lib.hid (below_tr HB4.out bx5)
          have HT5 := Lib.hid (HT4.out.keep bx5); have SG5 := Lib.hid (SG4.out.keep bx5)
          generalize (w4.alloc (.cells #[.string lt, .string lp, .int .i64 lr, .string lq] 24)).alloc (.cells #[.string ht, .string hp, .int .i64 hr, .string hq] 24) = W5 at *
          have KB5 := Lib.hid (KB0.out.below HB5.out)
          have HE5 := Lib.hid (HE.out.below HB5.out)
          clear bhi bx5
          go_wp2_with fail
          go_loopw [16, 69] (fun _ vi wr => ∃ j : Nat, vi = .int .i64 (j : Int) ∧ j ≤ G.length ∧ Hid (Below W5.heap.size W5 wr)) (fun _ vi _ => G.length - (intOf vi).toNat)
          case atStart => exact ⟨0, rfl, Nat.zero_le _, Lib.hid (Below.refl _ _)⟩
          case round =>
            obtain ⟨j, rfl, hj, HBR⟩ := hrel
            have hg4 := HGL.out
            by_cases hjl : j < G.length
            · have hz2 : (j : Int) < (G.length : Int) := by omega
              obtain ⟨gl, o, cx, ea1, _, _⟩ := (SG5.out.form (by omega))
              injection ea1 with ea2 _ ea3
              subst ea2 ea3
              have ten := (Ten.of SG5.out j hjl).keep HBR.out
              have IX := INN.out G[j] (List.getElem_mem hjl)
              generalize G[j] = x at *
              have C1 := Lib.hid (fun W => show Calls _ _ _ _ _ from rCmp_any x.k.t x.k.p x.k.c lt lp lq x.k.r lr W)
              have kE : kcK x.k ⟨lt, lp, lr, lq⟩ = cmpR x.k.t x.k.p x.k.c lt lp lq x.k.r lr := (kcmp_ref _ _ _ _ _ _ _ _).symm
              rw [← kE] at C1
              have C2 := Lib.hid (fun W => show Calls _ _ _ _ _ from rCmp_any x.k.t x.k.p x.k.c ht hp hq x.k.r hr W)
              have kE2 : kcK x.k ⟨ht, hp, hr, hq⟩ = cmpR x.k.t x.k.p x.k.c ht hp hq x.k.r hr := (kcmp_ref _ _ _ _ _ _ _ _).symm
              rw [← kE2] at C2
              clear kE kE2
              generalize kcK x.k ⟨lt, lp, lr, lq⟩ = r1 at *
              generalize kcK x.k ⟨ht, hp, hr, hq⟩ = r2 at *
              obtain ⟨n1, n2⟩ := IX
              obtain ⟨c0, c1, c2, c3, c4, c5, c6, c7, c8, c9⟩ := ten
              have BK := Lib.hid (Blk.new wr 61 (celEnc x).toArray)
              have BX := Lib.hid (below_alloc (Below.refl _ wr) (.cells (celEnc x).toArray 61))
              obtain ⟨⟨t, p, rr, q⟩, ⟨tm, dd, lc, kd, nn, ss⟩⟩ := x
              simp only [celEnc] at *
              go_upto_region 20 with (fail)
              clear c0 c1 c2 c3 c4 c5 c6 c7 c8 c9
              generalize hW1 : wr.alloc (.cells #[.string t, .string p, .int .i64 rr, .string q, .int .i64 tm, .bool dd, .int .i64 lc, .int .i64 kd, .int .i64 nn, .string ss] 61) = W1 at *
              have HB6 := Lib.hid (below_tr HBR.out BX.out)
              have bk := BK.out
              have c0 := bk.cell 0 rfl; have c1 := bk.cell 1 rfl; have c2 := bk.cell 2 rfl; have c3 := bk.cell 3 rfl
              have bl := BLo.out.below HB6.out
              have u0 := bl.cell 0 rfl; have u1 := bl.cell 1 rfl; have u2 := bl.cell 2 rfl; have u3 := bl.cell 3 rfl
              clear hW1 bk bl
              go_wp2_with fail
              refine (C1.out _).mono ?_
              rintro e w6 ⟨rfl, hb6⟩
              have HB7 := Lib.hid (below_tr HB6.out hb6)
              have bk := BK.out.below hb6
              have bl := BHi.out.below HB7.out
              clear c0 c1 c2 c3 u0 u1 u2 u3 hb6
              have c0 := bk.cell 0 rfl; have c1 := bk.cell 1 rfl; have c2 := bk.cell 2 rfl; have c3 := bk.cell 3 rfl
              have u0 := bl.cell 0 rfl; have u1 := bl.cell 1 rfl; have u2 := bl.cell 2 rfl; have u3 := bl.cell 3 rfl
              clear bk bl
              go_wp2_with fail
              refine (C2.out _).mono ?_
              rintro e w7 ⟨rfl, hb7⟩
              have HB8 := Lib.hid (below_tr HB7.out hb7)
              clear c0 c1 c2 c3 u0 u1 u2 u3 hb7
              go_wp2_with fail
              go_roundw
              case rel => exact ⟨j + 1, by first | rfl | go_num, by omega, HB8⟩
              case measure => simp [intOf]; omega
            · have hz2 : ¬ (j : Int) < (G.length : Int) := by omega
              have GE := Lib.hid (get_any g bs k wr (HT5.out.keep HBR.out) (HE5.out.below HBR.out) HKZ.out)
              rw [HFL.out] at GE
              obtain ⟨F, hF⟩ : ∃ F, (findC M k).isSome = F := ⟨_, rfl⟩
              rw [hF] at GE INM
              generalize findV M k = fv at *
              obtain ⟨vt, vd, vl, vk, vn, vs⟩ := fv
              have kb := KB5.out.below HBR.out
              have c0 := kb.cell 0 rfl; have c1 := kb.cell 1 rfl; have c2 := kb.cell 2 rfl; have c3 := kb.cell 3 rfl
              have hmm := HML.out
              have BLN := Lib.hid (fun W hb => blocks_any g bs W (HT5.out.keep hb))
              have LEN := Lib.hid (fun W hb => len_any g bs W (HT5.out.keep hb))
              rw [HCL.out] at BLN
              rw [HFL.out] at LEN
              obtain ⟨ml, hml⟩ : ∃ ml, M.length = ml := ⟨_, rfl⟩
              rw [hml] at BLN LEN hmm
              clear kb hF
              simp only [vrEnc, kyVal] at GE
              go_wp2_with fail
              refine GE.out.mono ?_
              rintro e w6 ⟨rfl, hb6⟩
              have HB6 := Lib.hid (below_tr HBR.out hb6)
              clear c0 c1 c2 c3 hb6 GE
              go_upto_region 24 with (fail)
              have HB7 := Lib.hid (below_alloc HB6.out (.cells #[.int .i64 vt, .bool vd, .int .i64 vl, .int .i64 vk, .int .i64 vn, .string vs] 49))
              generalize w6.alloc (.cells #[.int .i64 vt, .bool vd, .int .i64 vl, .int .i64 vk, .int .i64 vn, .string vs] 49) = W7 at *
              have kb := KB5.out.below HB7.out
              have c0 := kb.cell 0 rfl; have c1 := kb.cell 1 rfl; have c2 := kb.cell 2 rfl; have c3 := kb.cell 3 rfl
              have bl := BLo.out.below HB7.out
              have u0 := bl.cell 0 rfl; have u1 := bl.cell 1 rfl; have u2 := bl.cell 2 rfl; have u3 := bl.cell 3 rfl
              clear kb bl
              have FIN := Lib.hid (fun (W : World) (hb : Below W5.heap.size W5 W) => lives_any W (HE5.out.below hb))
              have q1 : wrap64 ((ml : Int) + 8) = ((ml + 8 : Nat) : Int) := by unfold wrap64; omega
              have q2 : wrap64 (((ml + 8 : Nat) : Int) - 1) = ((ml + 7 : Nat) : Int) := by unfold wrap64; omega
              have q3 : ((ml + 7 : Nat) : Int).tdiv 8 = (((ml + 7) / 8 : Nat) : Int) := by rw [Int.tdiv_eq_ediv_of_nonneg (by omega)]; omega
              cases F with
              | true =>
                obtain ⟨n1, n2⟩ := INM.out rfl
                have C1 := Lib.hid (fun W => show Calls _ _ _ _ _ from rCmp_any k.t k.p k.c lt lp lq k.r lr W)
                have kE : kcK k ⟨lt, lp, lr, lq⟩ = cmpR k.t k.p k.c lt lp lq k.r lr := (kcmp_ref _ _ _ _ _ _ _ _).symm
                rw [← kE] at C1
                have C2 := Lib.hid (fun W => show Calls _ _ _ _ _ from rCmp_any k.t k.p k.c ht hp hq k.r hr W)
                have kE2 : kcK k ⟨ht, hp, hr, hq⟩ = cmpR k.t k.p k.c ht hp hq k.r hr := (kcmp_ref _ _ _ _ _ _ _ _).symm
                rw [← kE2] at C2
                clear kE kE2
                generalize kcK k ⟨lt, lp, lr, lq⟩ = r1 at *
                generalize kcK k ⟨ht, hp, hr, hq⟩ = r2 at *
                go_wp2_with fail
                refine (C1.out _).mono ?_
                rintro e w8 ⟨rfl, hb8⟩
                have HB8 := Lib.hid (below_tr HB7.out hb8)
                clear c0 c1 c2 c3 u0 u1 u2 u3 hb8
                have kb := KB5.out.below HB8.out
                have c0 := kb.cell 0 rfl; have c1 := kb.cell 1 rfl; have c2 := kb.cell 2 rfl; have c3 := kb.cell 3 rfl
                have bl := BHi.out.below HB8.out
                have u0 := bl.cell 0 rfl; have u1 := bl.cell 1 rfl; have u2 := bl.cell 2 rfl; have u3 := bl.cell 3 rfl
                clear kb bl
                go_wp2_with fail
                refine (C2.out _).mono ?_
                rintro e w9 ⟨rfl, hb9⟩
                have HB9 := Lib.hid (below_tr HB8.out hb9)
                clear c0 c1 c2 c3 u0 u1 u2 u3 hb9
                go_wp2_with fail
                refine (BLN.out _ HB9.out).mono ?_
                rintro e wa ⟨rfl, hba⟩
                have HBA := Lib.hid (below_tr HB9.out hba)
                clear hba
                go_wp2_with fail
                refine (LEN.out _ HBA.out).mono ?_
                rintro e wb ⟨rfl, hbb⟩
                have HBB := Lib.hid (below_tr HBA.out hbb)
                clear hbb
                go_wp2_with fail
                refine (FIN.out _ HBB.out).mono ?_
                rintro e wc ⟨rfl, hbc⟩
                have HBC := Lib.hid (below_tr HB5.out (below_tr HBB.out hbc))
                clear hbc
                go_wp2_with fail
                go_ret
                exact ⟨rfl, ENDB.out _ HBC.out⟩
              | false =>
                have HB9 := Lib.hid (show Below W5.heap.size W5 W7 from HB7.out)
                clear c0 c1 c2 c3 u0 u1 u2 u3
                go_wp2_with fail
                refine (BLN.out _ HB9.out).mono ?_
                rintro e wa ⟨rfl, hba⟩
                have HBA := Lib.hid (below_tr HB9.out hba)
                clear hba
                go_wp2_with fail
                refine (LEN.out _ HBA.out).mono ?_
                rintro e wb ⟨rfl, hbb⟩
                have HBB := Lib.hid (below_tr HBA.out hbb)
                clear hbb
                go_wp2_with fail
                refine (FIN.out _ HBB.out).mono ?_
                rintro e wc ⟨rfl, hbc⟩
                have HBC := Lib.hid (below_tr HB5.out (below_tr HBB.out hbc))
                clear hbc
                go_wp2_with fail
                go_ret
                exact ⟨rfl, ENDB.out _ HBC.out⟩
end Go.Proofs.YtplghaoflmaadaaGreatDoor
end
