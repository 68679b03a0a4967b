/- Contract of the reference's Cells of layer 11. Condition: the row's own bounds. -/
import Derived.Test.YtmjeifbadjdnfaaDoorWm
set_option linter.unusedVariables false
set_option linter.unusedSimpArgs false
set_option maxRecDepth 50000
namespace Go.Proofs.YtmjeifbadjdnfaaDoor
open Go.RowKit Go.Sort
open Go.Lib hiding intOf

theorem filter_yes (p : Cel → Bool) (N : List Cel) (i : Nat) (h : i < N.length) (hp : p N[i] = true) : (N.take (i + 1)).filter p = (N.take i).filter p ++ [N[i]] := by
  rw [List.take_succ_eq_append_getElem h, List.filter_append, List.filter_cons_of_pos hp, List.filter_nil]
theorem filter_no (p : Cel → Bool) (N : List Cel) (i : Nat) (h : i < N.length) (hp : p N[i] = false) : (N.take (i + 1)).filter p = (N.take i).filter p := by
  rw [List.take_succ_eq_append_getElem h, List.filter_append, List.filter_cons_of_neg (by simp [hp]), List.filter_nil, List.append_nil]
theorem any_next (f : List Cel → Bool) (ls : List (List Cel)) (j : Nat) (h : j < ls.length) : (ls.take (j + 1)).any f = ((ls.take j).any f || f ls[j]) := by
  rw [List.take_succ_eq_append_getElem h, List.any_append]; simp
theorem one_room (acc : List Cel) (x : Cel) (n : Nat) (h : acc.length ≤ n) (hn : (n + 1) * 112 ≤ 140737488355328) : acc.length + [x].length ≤ 9223372036854775807 ∧ (acc.length + [x].length) * eC.bytes ≤ 140737488355328 := by
  refine ⟨by simp; omega, ?_⟩
  show (acc.length + 1) * 112 ≤ _
  omega

set_option maxHeartbeats 8000000 in
theorem rCells_any (v vo : Value) (L : List Cel) (hs : List Hd) (ls : List (List Cel)) (now gr : Int) (w : World) (HV : SlX eC w.heap.size w v L) (hl : Room L.length) (ok : ∀ c ∈ L, CelOk c) (hvo : SlX eH w.heap.size w vo hs) (hls : Lists w hs ls) (hn : hs.length ≤ 6000000000000) (i2 : In64 now) (i3 : In64 gr) :
    Calls Tryd.prog 17 #[v, vo, .int .i64 now, .int .i64 gr] w
      fun e w' => ∃ v', e = .returned v' ∧ SlX eC w'.heap.size w' v' ((normC L).filter fun c => anyK c.k ls || !oldV c.v now gr) ∧ Below w.heap.size w w' := by
  have NM := Lib.hid (rNormC_any v L w HV hl)
  have OLD := Lib.hid (fun x (hx : x ∈ normC L) W => rOld_any x.v now gr W (normC_all (Q := KyOk) (R := fun v => In64 v.loc) L ok x hx).2 i2 i3)
  have NL := Lib.hid (show (normC L).length * 112 ≤ 140737488355328 by have := normC_len L; unfold Room at hl; omega)
  have HVO := Lib.hid hvo; have LS := Lib.hid hls
  obtain ⟨ao, capo, rfl, _, hx⟩ := hvo.ex
  have HX := Lib.hid hx
  obtain ⟨N, hN⟩ : ∃ N, normC L = N := ⟨_, rfl⟩
  rw [hN] at NM OLD NL ⊢
  obtain ⟨pf, hpf⟩ : ∃ pf : Cel → Bool, (fun c => anyK c.k ls || !oldV c.v now gr) = pf := ⟨_, rfl⟩
  rw [hpf]
  have PF := Lib.hid (fun c => show pf c = (anyK c.k ls || !oldV c.v now gr) by rw [← hpf])
  clear HV hl ok hvo hls hx hN i2 i3 hpf
  go_enter Tryd.func17, Tryd.ntmps17
  go_wp2_with fail
  refine NM.out.mono ?_
  rintro e w1 ⟨v1, rfl, hO, hb⟩
  have HB1 := Lib.hid hb; have SN := Lib.hid hO.sl
  clear hb hO NM
  obtain ⟨a1, cap1, rfl, _, hx1⟩ := SN.out.ex
  have HX1 := Lib.hid hx1
  have nl : N.length * 112 ≤ 140737488355328 := NL.out
  clear hx1
  go_wp2_with fail
  go_loopw [9, 11, 12, 20] (fun v9 _ _ v20 wr => ∃ (i : Nat) (acc : List Cel), v20 = .int .i64 (i : Int) ∧ i ≤ N.length ∧ acc.length ≤ i ∧ Hid (acc = (N.take i).filter pf) ∧ OwnX eC wr w1.heap.size v9 acc ∧ Below w1.heap.size w1 wr) (fun _ _ _ v20 _ => N.length - (intOf v20).toNat)
  case atStart => exact ⟨0, [], rfl, by omega, by simp, Lib.hid (by simp), OwnX.nil _ _, Below.refl _ _⟩
  case round =>
    obtain ⟨i, acc, rfl, hi, hai, HF, hO, hb⟩ := hrel
    have HB := Lib.hid hb; have OW := Lib.hid hO
    clear hb hO
    by_cases hlt : i < N.length
    · have hz : (i : Int) < (N.length : Int) := by omega
      obtain ⟨gl, o, rfl, hgl2, _⟩ := HX1.out (by omega)
      have ten := (Ten.of SN.out i hlt).keep HB.out
      have YES := Lib.hid (fun (h : pf (N[i]'hlt) = true) => show acc ++ [N[i]'hlt] = (N.take (i + 1)).filter pf by rw [HF.out, filter_yes pf N i hlt h])
      have NO := Lib.hid (fun (h : pf (N[i]'hlt) = false) => show acc = (N.take (i + 1)).filter pf by rw [HF.out, filter_no pf N i hlt h])
      have PX := Lib.hid (PF.out N[i])
      have OX := Lib.hid (OLD.out N[i] (List.getElem_mem hlt))
      have FX := Lib.hid (fun (j : Nat) (h1 : j < hs.length) (h2 : j < ls.length) W (hW : Below w1.heap.size w1 W) => rFind_any hs[j].val ls[j] N[i].k W ((LS.out.at_ j h1 h2).1.keep (below_tr HB1.out hW)) (LS.out.at_ j h1 h2).2)
      have RM := Lib.hid (one_room acc N[i] i hai (by omega))
      generalize N[i] = x at *
      have B2 := Lib.hid (below_alloc HB.out (.cells (celEnc x).toArray 35))
      have O2 := Lib.hid (OW.out.alloc (.cells (celEnc x).toArray 35))
      have BK := Lib.hid (Blk.new wr 35 (celEnc x).toArray)
      have AK := Lib.hid (anyK_find x.k ls)
      have ANX := Lib.hid (fun j h => any_next (fun l => (findC l x.k).isSome) ls j h)
      obtain ⟨c0, c1, c2, c3, c4, c5, c6, c7, c8, c9⟩ := ten
      obtain ⟨oldb, hob⟩ : ∃ b, oldV x.v now gr = b := ⟨_, rfl⟩
      rw [hob] at PX OX
      have HOB := Lib.hid hob
      clear hob
      obtain ⟨ST, hST⟩ : ∃ S : Nat → Bool, S = fun j => (ls.take j).any fun l => (findC l x.k).isSome := ⟨_, rfl⟩
      have S0 := Lib.hid (show ST 0 = false by rw [hST]; simp)
      have SN' := Lib.hid (fun j (h : j < ls.length) => show ST (j + 1) = (ST j || (findC ls[j] x.k).isSome) by rw [hST]; exact ANX.out j h)
      have SE := Lib.hid (show ST hs.length = anyK x.k ls by rw [hST, LS.out.len]; simp only [List.take_length]; exact AK.out)
      clear hST ANX AK
      have SAV := Lib.hid (show ∃ x0 : Cel, x0 = x from ⟨_, rfl⟩)
      obtain ⟨x0, hx0⟩ := SAV.out
      rw [← hx0] at SE PX YES NO
      have HX0 := Lib.hid hx0
      clear hx0 SAV
      obtain ⟨⟨t, p, r, q⟩, ⟨tm, dd, lc, kd, nn, ss⟩⟩ := x
      simp only [celEnc, kyVal, vrEnc] at *
      go_wp2_with fail
      clear c0 c1 c2 c3 c4 c5 c6 c7 c8 c9
      generalize hW1 : wr.alloc (.cells #[.string t, .string p, .int .i64 r, .string q, .int .i64 tm, .bool dd, .int .i64 lc, .int .i64 kd, .int .i64 nn, .string ss] 35) = W1 at *
      have hgx : wr.heap.size < W1.heap.size := by rw [← hW1]; simp
      clear hW1
      generalize wr.heap.size = gx at *
      have s0 := S0.out
      go_loopw [12, 26] (fun v12 v26 wq => ∃ j : Nat, v26 = .int .i64 (j : Int) ∧ j ≤ hs.length ∧ v12 = .bool (ST j) ∧ Below W1.heap.size W1 wq) (fun _ v26 _ => hs.length - (intOf v26).toNat)
      case atStart => exact ⟨0, rfl, by omega, by rw [S0.out], Below.refl _ _⟩
      case round =>
        obtain ⟨j, rfl, hj, rfl, hb⟩ := hrel
        have HBq := Lib.hid hb
        have BKq := Lib.hid (BK.out.below hb)
        clear hb s0
        by_cases hjl : j < hs.length
        · have hzj : (j : Int) < (hs.length : Int) := by omega
          have hjl2 : j < ls.length := by rw [← LS.out.len]; exact hjl
          obtain ⟨go_, oo, rfl, hgo2, _⟩ := HX.out (by omega)
          have hcell := cell_keep (below_tr HB1.out (below_tr B2.out HBq.out)) (eH_cell HVO.out j hjl)
          have C := Lib.hid (FX.out j hjl hjl2 wr (below_tr B2.out HBq.out))
          have SJ := Lib.hid (SN'.out j hjl2)
          generalize findV ls[j] _ = fv at *
          generalize (findC ls[j] _).isSome = fb at *
          generalize hs[j] = hd at *
          obtain ⟨hda, hdn, hdc⟩ := hd
          simp only [Hd.val] at *
          obtain ⟨w1', w2', w3', w4', w5', w6'⟩ := fv
          obtain ⟨f0, f1, f2, f3, f4, f5, f6, f7, f8, f9⟩ := Blk.ten (x := (⟨⟨t, p, r, q⟩, ⟨tm, dd, lc, kd, nn, ss⟩⟩ : Cel)) BKq.out
          simp only [Nat.zero_add] at f0 f1 f2 f3 f4 f5 f6 f7 f8 f9
          clear hjl2
          generalize ST j = sj at *
          go_wp2_with fail
          refine C.out.mono ?_
          rintro e w3 ⟨rfl, hb⟩
          have HB3 := Lib.hid (below_alloc (below_tr HBq.out hb) (.cells #[.int .i64 w1', .bool w2', .int .i64 w3', .int .i64 w4', .int .i64 w5', .string w6'] 33))
          clear hb hcell f0 f1 f2 f3 f4 f5 f6 f7 f8 f9
          cases sj with
          | true =>
            have hs2 : ST (j + 1) = true := by rw [SJ.out]; rfl
            go_wp2_with fail
            exact ⟨⟨j + 1, by first | rfl | go_num, by omega, by rw [hs2], HB3.out⟩, by simp [intOf]; omega⟩
          | false =>
            have hs2 : ST (j + 1) = fb := by rw [SJ.out]; simp
            have HS2 := Lib.hid hs2
            clear hs2
            go_wp2_with fail
            exact ⟨⟨j + 1, by first | rfl | go_num, by omega, by rw [HS2.out], HB3.out⟩, by simp [intOf]; omega⟩
        · have hzj : ¬ (j : Int) < (hs.length : Int) := by omega
          obtain rfl : j = hs.length := by omega
          have B3 := Lib.hid (below_tr B2.out HBq.out)
          have O3 := Lib.hid (O2.out.below HBq.out)
          obtain ⟨f0, f1, f2, f3, f4, f5, f6, f7, f8, f9⟩ := Blk.ten (x := (⟨⟨t, p, r, q⟩, ⟨tm, dd, lc, kd, nn, ss⟩⟩ : Cel)) BKq.out
          simp only [Nat.zero_add] at f0 f1 f2 f3 f4 f5 f6 f7 f8 f9
          obtain ⟨th, hth⟩ : ∃ th, ST hs.length = th := ⟨_, rfl⟩
          rw [hth] at SE ⊢
          rw [← SE.out] at PX
          clear hth SN' FX
          cases th with
          | true =>
            have NX := Lib.hid (show acc ++ [(⟨⟨t, p, r, q⟩, ⟨tm, dd, lc, kd, nn, ss⟩⟩ : Cel)] = (N.take (i + 1)).filter pf by rw [← HX0.out]; exact YES.out (by rw [PX.out]; rfl))
            have B3' := Lib.hid B3.out; have O3' := Lib.hid O3.out
            have BX3 := Lib.hid (below_al B3'.out (.cells #[.string t, .string p, .int .i64 r, .string q, .int .i64 tm, .bool dd, .int .i64 lc, .int .i64 kd, .int .i64 nn, .string ss] 35) B3'.out.size)
            have OX3 := Lib.hid (O3'.out.alloc (.cells #[.string t, .string p, .int .i64 r, .string q, .int .i64 tm, .bool dd, .int .i64 lc, .int .i64 kd, .int .i64 nn, .string ss] 35))
            have SX3 := Lib.hid (SlX.lit (E := eC) wr #[.string t, .string p, .int .i64 r, .string q, .int .i64 tm, .bool dd, .int .i64 lc, .int .i64 kd, .int .i64 nn, .string ss] [(⟨⟨t, p, r, q⟩, ⟨tm, dd, lc, kd, nn, ss⟩⟩ : Cel)] 1 1 rfl (by simp) (by simp [El.cells, eC, celEnc]))
            go_wp2_with (at_builtin; go_must (refine ap_x (E := eC) rfl (.tmp 51) (.tmp 53) rfl w1.heap.size u9 acc _ _ [(⟨⟨t, p, r, q⟩, ⟨tm, dd, lc, kd, nn, ss⟩⟩ : Cel)] rfl rfl SX3.out OX3.out BX3.out BX3.out.size RM.out.1 RM.out.2 ?_); intro v5 w5 hO5 hB5 hz5 hg5)
            have O5 := Lib.hid hO5; have B5 := Lib.hid hB5
            have LE := Lib.hid (show (acc ++ [(⟨⟨t, p, r, q⟩, ⟨tm, dd, lc, kd, nn, ss⟩⟩ : Cel)]).length ≤ i + 1 by rw [List.length_append]; exact Nat.add_le_add_right hai 1)
            clear hO5 hB5 hz5 hg5
            exact ⟨⟨i + 1, _, by first | rfl | go_num, hlt, LE.out, NX, O5.out, B5.out⟩, by simp [intOf]; omega⟩
          | false =>
            go_wp2_with fail
            refine (OX.out _).mono ?_
            rintro e w3 ⟨rfl, hb⟩
            have B3' := Lib.hid (below_tr B3.out hb)
            have O3' := Lib.hid (O3.out.below hb)
            have BK3 := Lib.hid (BKq.out.below hb)
            clear hb f0 f1 f2 f3 f4 f5 f6 f7 f8 f9
            cases oldb with
            | true =>
              have NX := Lib.hid (show acc = (N.take (i + 1)).filter pf from NO.out (by rw [PX.out]; rfl))
              go_wp2_with fail
              exact ⟨⟨i + 1, _, by first | rfl | go_num, hlt, by omega, NX, O3'.out, B3'.out⟩, by simp [intOf]; omega⟩
            | false =>
              have NX := Lib.hid (show acc ++ [(⟨⟨t, p, r, q⟩, ⟨tm, dd, lc, kd, nn, ss⟩⟩ : Cel)] = (N.take (i + 1)).filter pf by rw [← HX0.out]; exact YES.out (by rw [PX.out]; rfl))
              obtain ⟨f0, f1, f2, f3, f4, f5, f6, f7, f8, f9⟩ := Blk.ten (x := (⟨⟨t, p, r, q⟩, ⟨tm, dd, lc, kd, nn, ss⟩⟩ : Cel)) BK3.out
              simp only [Nat.zero_add] at f0 f1 f2 f3 f4 f5 f6 f7 f8 f9
              have BX3 := Lib.hid (below_al B3'.out (.cells #[.string t, .string p, .int .i64 r, .string q, .int .i64 tm, .bool dd, .int .i64 lc, .int .i64 kd, .int .i64 nn, .string ss] 35) B3'.out.size)
              have OX3 := Lib.hid (O3'.out.alloc (.cells #[.string t, .string p, .int .i64 r, .string q, .int .i64 tm, .bool dd, .int .i64 lc, .int .i64 kd, .int .i64 nn, .string ss] 35))
              have SX3 := Lib.hid (SlX.lit (E := eC) w3 #[.string t, .string p, .int .i64 r, .string q, .int .i64 tm, .bool dd, .int .i64 lc, .int .i64 kd, .int .i64 nn, .string ss] [(⟨⟨t, p, r, q⟩, ⟨tm, dd, lc, kd, nn, ss⟩⟩ : Cel)] 1 1 rfl (by simp) (by simp [El.cells, eC, celEnc]))
              go_wp2_with (at_builtin; go_must (refine ap_x (E := eC) rfl (.tmp 51) (.tmp 53) rfl w1.heap.size u9 acc _ _ [(⟨⟨t, p, r, q⟩, ⟨tm, dd, lc, kd, nn, ss⟩⟩ : Cel)] rfl rfl SX3.out OX3.out BX3.out BX3.out.size RM.out.1 RM.out.2 ?_); intro v5 w5 hO5 hB5 hz5 hg5)
              have O5 := Lib.hid hO5; have B5 := Lib.hid hB5
              have LE := Lib.hid (show (acc ++ [(⟨⟨t, p, r, q⟩, ⟨tm, dd, lc, kd, nn, ss⟩⟩ : Cel)]).length ≤ i + 1 by rw [List.length_append]; exact Nat.add_le_add_right hai 1)
              clear hO5 hB5 hz5 hg5
              exact ⟨⟨i + 1, _, by first | rfl | go_num, hlt, LE.out, NX, O5.out, B5.out⟩, by simp [intOf]; omega⟩
    · have hz : ¬ (i : Int) < (N.length : Int) := by omega
      have e : N.take i = N := List.take_of_length_le (by omega)
      have hF := HF.out
      rw [e] at hF
      have FIN := Lib.hid hF
      clear hF e HF
      rcases OW.out.form with ⟨rfl, _⟩ | ⟨g7, cp7, rfl, _⟩
      all_goals
        go_wp2_with fail
        go_ret
        exact ⟨_, rfl, by rw [← FIN.out]; exact OW.out.sl, below_tr HB1.out HB.out⟩
end Go.Proofs.YtmjeifbadjdnfaaDoor
