/- The walk of the law TableScans: it returns true. Condition: the row's own bounds. -/
import Derived.Test.YtplghaoflmaadaaGreatDoorZ38
import Derived.Test.YtplghaoflmaadaaGreatDoorZ40
section
set_option linter.unusedVariables false
set_option linter.unusedSimpArgs false
set_option maxRecDepth 50000
namespace Go.Proofs.YtplghaoflmaadaaGreatDoor
open Go.RowKit Go.Sort
open Go.Lib hiding intOf

/-! Plain laws. -/
theorem scan_meet {f k u : Ky} (h1 : kcK f k ≤ 0) (h2 : kcK k u ≤ 0) : ∀ {L : List Cel}, L.Pairwise (fun a b => kcK a.k b.k < 0) → L.filter (inK f k) ++ L.filter (inK k u) = L.filter (inK f u)
  | [], _ => rfl
  | c :: L, h => by
    have hs := (List.pairwise_cons.1 h).1
    have ih := scan_meet h1 h2 (List.pairwise_cons.1 h).2
    have tr1 : kcK c.k k < 0 → kcK c.k u < 0 := fun a => by
      rcases Int.lt_or_eq_of_le h2 with b | b
      · exact kcK_ord.tr _ _ _ a b
      · rw [(kcK_ord.zero _ _).1 b] at a; exact a
    have tr2 : 0 ≤ kcK c.k k → 0 ≤ kcK c.k f := fun a => by
      rcases Int.lt_or_le (kcK c.k f) 0 with b | b
      · exfalso
        rcases Int.lt_or_eq_of_le h1 with d | d
        · have := kcK_ord.tr _ _ _ b d; omega
        · rw [(kcK_ord.zero _ _).1 d] at b; omega
      · exact b
    by_cases ha : kcK c.k k < 0
    · have e2 : inK k u c = false := by unfold inK; simp; omega
      have e3 : inK f k c = inK f u c := by
        have := tr1 ha
        unfold inK; rw [decide_eq_true ha, decide_eq_true this]
      rw [List.filter_cons, List.filter_cons, List.filter_cons, e2, e3]
      cases inK f u c
      · simpa using ih
      · simp [ih]
    · have hz : L.filter (inK f k) = [] := filter_none fun x hx => by
        have := hs x hx
        unfold inK
        have h5 : ¬ kcK x.k k < 0 := fun h6 => ha (kcK_ord.tr _ _ _ this h6)
        simp [h5]
      have e1 : inK f k c = false := by unfold inK; simp; omega
      have e3 : inK k u c = inK f u c := by
        have := tr2 (by omega)
        unfold inK; rw [decide_eq_true (show 0 ≤ kcK c.k k by omega), decide_eq_true this]
      rw [hz] at ih
      rw [List.filter_cons, List.filter_cons, List.filter_cons, e1, e3, hz]
      simp only [Bool.false_eq_true, if_false, List.nil_append] at *
      cases inK f u c
      · simpa using ih
      · simp [ih]
def zeroK : Ky := ⟨⟨#[]⟩, ⟨#[]⟩, 0, ⟨#[]⟩⟩
def lastZ : Ky := ⟨⟨#[122, 122, 122, 122, 122, 122, 122, 122, 122, 122, 122, 122, 122, 122, 122, 122, 122, 122]⟩, ⟨#[]⟩, 0, ⟨#[]⟩⟩
theorem lt_rep : ∀ (n : Nat) (l : List UInt8), (∀ x ∈ l, x.toNat ≤ 122) → l.length < n → l < List.replicate n 122
  | 0, l, _, h => absurd h (by omega)
  | n + 1, [], _, _ => by rw [List.replicate_succ]; exact List.nil_lt_cons _ _
  | n + 1, x :: l, hx, h => by
    rw [List.replicate_succ]
    have h1 := hx x (List.mem_cons_self ..)
    have ih := lt_rep n l (fun y hy => hx y (List.mem_cons_of_mem _ hy)) (by simpa using h)
    by_cases e : x = 122
    · subst e; exact List.cons_lt_cons_iff.2 (.inr ⟨rfl, ih⟩)
    · refine List.cons_lt_cons_iff.2 (.inl ?_)
      rw [UInt8.lt_iff_toNat_lt]
      have : x.toNat ≠ 122 := fun h => e (UInt8.toNat_inj.1 h)
      show x.toNat < 122
      omega
theorem lastZ_list : lastZ.t.toList = List.replicate 18 122 := toList_mk (List.replicate 18 122)
theorem zeroK_list : zeroK.t.toList = [] := toList_mk []
theorem good_in {c : Cel} (h : goodC c = true) : inK zeroK lastZ c = true := by
  obtain ⟨h1, h2, h3⟩ := name_all (good_name h)
  have e1 : cmpS c.k.t lastZ.t = -1 := by
    rw [cmpS_eq, if_pos]
    rw [lastZ_list]
    refine lt_rep 18 _ (fun x hx => ?_) (by rw [str_len]; omega)
    have := h1 x hx
    unfold okC at this
    simp only [Bool.or_eq_true, Bool.and_eq_true, decide_eq_true_eq, beq_iff_eq] at this
    omega
  have hne : c.k.t.toList ≠ [] := fun e => by have h9 : c.k.t.size = 0 := by rw [← str_len, e]; rfl
                                              omega
  have e2 : cmpS c.k.t zeroK.t = 1 := by
    rw [cmpS_eq, zeroK_list, if_neg (by simp), if_neg hne]
  unfold inK kcK kcmp
  rw [e1, e2, firstOf4, firstOf4]
  simp
theorem all_in {M : List Cel} (h : ∀ c ∈ M, goodC c = true) : M.filter (inK zeroK lastZ) = M := List.filter_eq_self.2 fun c hc => good_in (h c hc)
theorem st_y {α : Type} {E : El α} {ops : Array Oper} {o : Oper} {a : Act} {K : Act → World → Prop} {Q : Exit → Act → World → Prop} {W : World} {EE : Prop} (hgd : o.guard = none) (s x : Operand) (ho : o.op = .call { callee := .builtin .append, args := #[s, x], argTypes := #[E.st, E.st] })
    (w0 : World) (v : Value) (l : List α) (B : Nat) (v2 : Value) (l2 : List α) (hs : a.eval s = v) (hx : a.eval x = v2) (HV : SlX E B W v2 l2) (HO : OwnX E W w0.heap.size v l) (hin : InW w0 W) (h63 : l.length + l2.length ≤ 9223372036854775807) (hl : (l.length + l2.length) * E.bytes ≤ 140737488355328)
    (h : ∀ v1 w1, OwnX E w1 w0.heap.size v1 (l ++ l2) → InW w0 w1 → K (a.put o.dst v1) w1) : if Region.wanted o (yielded ops a.tmps) = true then Oper.wp Tryz.prog o a W K Q else EE :=
  st_x hgd s x ho w0.heap.size v l B v2 l2 hs hx HV HO (Below.size (show Below w0.heap.size w0 W from hin)) h63 hl (fun v1 w1 hO hg _ => h v1 w1 hO (InW.grown hin hg HO.base))
theorem st_new {α : Type} {E : El α} {ops : Array Oper} {o : Oper} {a : Act} {K : Act → World → Prop} {Q : Exit → Act → World → Prop} {W : World} {EE : Prop} (hgd : o.guard = none) (s x : Operand) (ho : o.op = .call { callee := .builtin .append, args := #[s, x], argTypes := #[E.st, E.st] })
    (base : Nat) (ad : Addr) (B : Nat) (v2 : Value) (l2 : List α) (hs : a.eval s = .slice (some ad) 0 0) (hx : a.eval x = v2) (HO : OwnX E W base (.slice (some ad) 0 0) ([] : List α)) (HV : SlX E B W v2 l2) (hbase : base ≤ W.heap.size) (h63 : l2.length ≤ 9223372036854775807) (hl : l2.length * E.bytes ≤ 140737488355328)
    (h : ∀ v1 w1, OwnX E w1 base v1 l2 → Below W.heap.size W w1 → K (a.put o.dst v1) w1) : if Region.wanted o (yielded ops a.tmps) = true then Oper.wp Tryz.prog o a W K Q else EE := by
  obtain ⟨i0, hi, hz0, hz1, hz2⟩ := info_parts E.info
  obtain ⟨ad2, c, rfl, hc, hcell⟩ := HV.ex
  rcases Nat.eq_zero_or_pos l2.length with h0 | h0
  · obtain rfl := List.length_eq_zero_iff.1 h0
    have hw : Region.wanted o (yielded ops a.tmps) = true := by simp [Region.wanted, hgd]
    rw [if_pos hw]
    unfold Oper.wp
    have hr : (Builtin.append_ #[E.st, E.st] o.type #[.slice (some ad) 0 0, .slice ad2 0 c]).run Tryz.prog W = .ok (.slice (some ad) 0 0) W := by
      rcases ad2 with _ | ad2
      · exact run_ap_nil W base _ _ HO c _
      · simp [Builtin.append_, run_underlying E.und, sizeOf, typeInfo, hi, Builtin.lenOf, Builtin.firstCells, storeCells, loadCells]
        rfl
    simp only [execOp, ho, resolve, invoke, builtin, Sem.run_bind, Sem.run_pure, Result.andThen_ok, List.map_toArray, List.map_cons, List.map_nil, hs, hx, List.length_nil, hr]
    exact h _ _ HO (Below.refl _ _)
  · obtain ⟨g, o', rfl, hg, hcc⟩ := hcell h0
    refine step_append_grows hgd s x E.st ho E.t i0 _ E.size E.bytes E.und hi hz0 hz1 hz2 E.zs E.pos (some ad) 0 0 [] hs (fun e => by cases e) (by simp) (fun b _ j u hj => by simp at hj)
      ⟨g, o', none⟩ l2.length c (E.cells l2) hx (E.cells_len l2) (fun j u hj => ?_) (E.cells_one l2) (by omega) (by unfold maxLen; omega) (by rw [Nat.zero_add]; exact hl) (fun v1 w1 hO hgr => ?_)
    · have e : (⟨g, o', none⟩ : Addr).add j = ⟨g, o' + j, none⟩ := by unfold Addr.add; split <;> simp_all
      rw [e]; exact hcc j u hj
    · refine h v1 w1 ?_ ⟨hgr.os, hgr.tape, hgr.output, hgr.size, fun k hk => hgr.block k hk (by simp)⟩
      rw [Nat.zero_add, List.nil_append] at hO
      exact OwnX.weaken hO hbase
set_option maxHeartbeats 8000000 in
theorem TableScans_walk (v : Value) (L : List Cel) (k1 k2 k3 : Ky) (w : World) (he : Env w) (hv : SlX eC w.heap.size w v L) (hl : Room L.length) (hin : ∀ c ∈ L, CelIn c) (hre : ∀ c ∈ L, CelRe c) :
    Calls Tryz.prog 7 #[v, askV k1 k2 k3] w fun e w' => e = .returned (.bool true) ∧ Below w.heap.size w w' := by
  have HL0 := Lib.hid hl
  have B0 := below_alloc (Below.refl _ w) (.cells #[.string k1.t, .string k1.p, .int .i64 k1.r, .string k1.c, .string k2.t, .string k2.p, .int .i64 k2.r, .string k2.c, .string k3.t, .string k3.p, .int .i64 k3.r, .string k3.c] 26)
  have KB0 := Lib.hid (Blk.new w 26 #[.string k1.t, .string k1.p, .int .i64 k1.r, .string k1.c, .string k2.t, .string k2.p, .int .i64 k2.r, .string k2.c, .string k3.t, .string k3.p, .int .i64 k3.r, .string k3.c])
  have ENDB := Lib.hid (fun (W : World) (h : Below (w.alloc (.cells #[.string k1.t, .string k1.p, .int .i64 k1.r, .string k1.c, .string k2.t, .string k2.p, .int .i64 k2.r, .string k2.c, .string k3.t, .string k3.p, .int .i64 k3.r, .string k3.c] 26)).heap.size (w.alloc (.cells #[.string k1.t, .string k1.p, .int .i64 k1.r, .string k1.c, .string k2.t, .string k2.p, .int .i64 k2.r, .string k2.c, .string k3.t, .string k3.p, .int .i64 k3.r, .string k3.c] 26)) W) => show Below w.heap.size w W from below_tr B0 h)
  have hv := hv.keep B0
  have he := he.below B0
  obtain ⟨a, cap, rfl, hc, hx⟩ := hv.ex
  clear B0
  unfold askV
  go_enter Tryz.func7, Tryz.ntmps7
  go_wp2_with fail
  generalize w.alloc (.cells #[.string k1.t, .string k1.p, .int .i64 k1.r, .string k1.c, .string k2.t, .string k2.p, .int .i64 k2.r, .string k2.c, .string k3.t, .string k3.p, .int .i64 k3.r, .string k3.c] 26) = W0 at *
  have HE := Lib.hid he; have HV := Lib.hid hv; have HIN := Lib.hid hin; have HRE := Lib.hid hre
  have HX := Lib.hid hx
  have WG := Lib.hid (weigh_ex (.slice a L.length cap) L 200 W0 HV.out HL0.out hre (by decide))
  unfold Room at hl
  clear hx hv he hin hre
  refine WG.out.mono ?_
  rintro e w0 ⟨r, rfl, hr, hb0⟩
  have HB0 := Lib.hid hb0
  by_cases hgt : 200 < r
  · have hq : (200 : Int) < (r : Int) := by omega
    have LV := Lib.hid (lives_any w0 (HE.out.below hb0))
    clear hr hgt hb0 WG
    go_wp2_with fail
    refine LV.out.mono ?_
    rintro e w1 ⟨rfl, hb1⟩
    have HB1 := Lib.hid (below_tr HB0.out hb1)
    clear hb1 LV
    go_wp2_with fail
    go_ret
    exact ⟨rfl, ENDB.out _ HB1.out⟩
  · have hq : ¬ (200 : Int) < (r : Int) := by omega
    have HWT := Lib.hid (show wt L ≤ 400 by have := hr (by omega); omega)
    have HG0 := Lib.hid (show CoI W0 w0 (.slice none 0 0) ((L.take 0).filter goodC) from ⟨OwnX.nil _ _, hb0⟩)
    have HCT := Lib.hid (show ∀ c ∈ L, CelT c from fun c hc => by
      have h1 := wt_txt L
      have h2 := txt_mem hc
      have h3 := HWT.out
      unfold txtC at h2
      refine ⟨?_, ?_, ?_, ?_⟩ <;> simp only [maxLen] <;> omega)
    clear hr hgt hb0 WG
    go_wp2_with fail
    go_loopw [5, 7, 20] (fun vo _ vi wr => ∃ i : Nat, vi = .int .i64 (i : Int) ∧ i ≤ L.length ∧ Hid (CoI W0 wr vo ((L.take i).filter goodC))) (fun _ _ vi _ => L.length - (intOf vi).toNat)
    case atStart => exact ⟨0, rfl, Nat.zero_le _, HG0⟩
    case round =>
      clear HG0
      obtain ⟨i, rfl, hi, HC⟩ := hrel
      have HB := Lib.hid HC.out.bel
      by_cases hlt : i < L.length
      · have hz : (i : Int) < (L.length : Int) := by omega
        obtain ⟨gl, o, rfl, hgl2, _⟩ := HX.out (by omega)
        have ten := (Ten.of HV.out i hlt).keep HB.out
        have TI := Lib.hid (show L.take (i + 1) = L.take i ++ [L[i]] from List.take_succ_eq_append_getElem hlt)
        have GC := Lib.hid (fun W => goodC_any L[i] W (HCT.out _ (List.getElem_mem hlt)))
        have HO := Lib.hid HC.out.own
        obtain ⟨acc, hacc⟩ : ∃ acc, (L.take i).filter goodC = acc := ⟨_, rfl⟩
        rw [hacc] at HO
        have hal : acc.length ≤ 20000 := by
          rw [← hacc]
          have h1 := List.length_filter_le goodC (L.take i)
          rw [List.length_take] at h1
          have h2 := wt_len L
          have h3 := HWT.out
          omega
        generalize L[i] = x at *
        obtain ⟨g, hg⟩ : ∃ g, goodC x = g := ⟨_, rfl⟩
        rw [hg] at GC
        have NX := Lib.hid (show (L.take (i + 1)).filter goodC = if g = true then acc ++ [x] else acc by
          rw [TI.out, List.filter_append, hacc]
          cases g with
          | true => rw [List.filter_cons_of_pos hg]; rfl
          | false => rw [List.filter_cons_of_neg (by rw [hg]; simp)]; simp)
        clear hacc hg
        obtain ⟨c0, c1, c2, c3, c4, c5, c6, c7, c8, c9⟩ := ten
        have BK := Lib.hid (Blk.new wr 61 (celEnc x).toArray)
        have BX := Lib.hid (below_alloc (Below.refl _ wr) (.cells (celEnc x).toArray 61))
        obtain ⟨⟨t, p, rr, q⟩, ⟨tm, dd, lc, kd, nn, ss⟩⟩ := x
        simp only [celEnc] at *
        go_upto_region 7 with (fail)
        clear c0 c1 c2 c3 c4 c5 c6 c7 c8 c9
        generalize hW1 : wr.alloc (.cells #[.string t, .string p, .int .i64 rr, .string q, .int .i64 tm, .bool dd, .int .i64 lc, .int .i64 kd, .int .i64 nn, .string ss] 61) = W1 at *
        have HB4 := Lib.hid (below_tr HB.out BX.out)
        have O4 := Lib.hid (HO.out.below BX.out)
        obtain ⟨c0, c1, c2, c3, c4, c5, c6, c7, c8, c9⟩ := Blk.ten (x := (⟨⟨t, p, rr, q⟩, ⟨tm, dd, lc, kd, nn, ss⟩⟩ : Cel)) BK.out
        simp only [Nat.zero_add] at c0 c1 c2 c3 c4 c5 c6 c7 c8 c9
        clear hW1
        go_wp2_with fail
        refine (GC.out _).mono ?_
        rintro e w5 ⟨rfl, hb5⟩
        have HB5 := Lib.hid (below_tr HB4.out hb5)
        have O5 := Lib.hid (O4.out.below hb5)
        have bk := BK.out.below hb5
        clear c0 c1 c2 c3 c4 c5 c6 c7 c8 c9
        obtain ⟨c0, c1, c2, c3, c4, c5, c6, c7, c8, c9⟩ := Blk.ten (x := (⟨⟨t, p, rr, q⟩, ⟨tm, dd, lc, kd, nn, ss⟩⟩ : Cel)) bk
        simp only [Nat.zero_add] at c0 c1 c2 c3 c4 c5 c6 c7 c8 c9
        clear bk hb5
        cases g with
        | true =>
          have BX7 := Lib.hid (below_al HB5.out (.cells #[.string t, .string p, .int .i64 rr, .string q, .int .i64 tm, .bool dd, .int .i64 lc, .int .i64 kd, .int .i64 nn, .string ss] 61) HB5.out.size)
          have OX7 := Lib.hid (O5.out.alloc (.cells #[.string t, .string p, .int .i64 rr, .string q, .int .i64 tm, .bool dd, .int .i64 lc, .int .i64 kd, .int .i64 nn, .string ss] 61))
          have SX7 := Lib.hid (SlX.lit (E := eC) w5 #[.string t, .string p, .int .i64 rr, .string q, .int .i64 tm, .bool dd, .int .i64 lc, .int .i64 kd, .int .i64 nn, .string ss] [(⟨⟨t, p, rr, q⟩, ⟨tm, dd, lc, kd, nn, ss⟩⟩ : Cel)] 1 1 rfl (by simp) (by simp [El.cells, eC, celEnc]))
          go_wp2_with (at_builtin; go_must (refine ap_x (E := eC) rfl (.tmp 26) (.tmp 28) rfl W0.heap.size _ acc _ _ [(⟨⟨t, p, rr, q⟩, ⟨tm, dd, lc, kd, nn, ss⟩⟩ : Cel)] rfl rfl SX7.out OX7.out BX7.out BX7.out.size (by simp; omega) (by simp [eC]; omega) ?_); intro v7 w7 hO7 hB7 hz7 hg7)
          have CI := Lib.hid (show CoI W0 w7 v7 ((L.take (i + 1)).filter goodC) from ⟨by rw [NX.out]; exact hO7, hB7⟩)
          clear hO7 hB7 hz7 hg7
          go_roundw
          case rel => exact ⟨i + 1, by first | rfl | go_num, by omega, CI⟩
          case measure => simp [intOf]; omega
        | false =>
          have CI := Lib.hid (show CoI W0 w5 _ ((L.take (i + 1)).filter goodC) from ⟨by rw [NX.out]; exact O5.out, HB5.out⟩)
          go_wp2_with fail
          go_roundw
          case rel => exact ⟨i + 1, by first | rfl | go_num, by omega, CI⟩
          case measure => simp [intOf]; omega
      · have hz : ¬ (i : Int) < (L.length : Int) := by omega
        have HG := Lib.hid (show CoI W0 wr _ (L.filter goodC) from by have := HC.out; rwa [List.take_of_length_le (by omega)] at this)
        have GTH := Lib.hid (fun h => goodT_of HIN.out HWT.out (L := L) h)
        have HGL := Lib.hid (show (L.filter goodC).length ≤ 400 from Nat.le_trans (List.length_filter_le _ _) (Nat.le_trans (wt_len L) HWT.out))
        clear HC HB
        have ND := Lib.hid (fun W (h : SlX eC W.heap.size W u5 (L.filter goodC)) => normC_any u5 (L.filter goodC) W h (by unfold Room; have := HGL.out; omega))
        obtain ⟨G, hG⟩ : ∃ G, L.filter goodC = G := ⟨_, rfl⟩
        rw [hG] at HG GTH HGL ND
        clear hG
        obtain ⟨ag, cg, eg, _, _⟩ := (OwnX.sl HG.out.own).ex
        subst eg
        have NR := Lib.hid (ND.out wr (OwnX.sl HG.out.own))
        have HBW := Lib.hid HG.out.bel
        go_wp2_with fail
        refine NR.out.mono ?_
        rintro e w1 ⟨v1, rfl, hO1, hb1⟩
        have HO1 := Lib.hid hO1; have HB1 := Lib.hid (below_tr HBW.out hb1)
        clear hO1 hb1 NR ND
        by_cases hg0 : G.length = 0
        · obtain rfl := List.length_eq_zero_iff.1 hg0
          have WB := Lib.hid (write_bad v1 (normC []) w1 (OwnX.sl HO1.out) (by rw [norm_nil]; unfold Room; simp) (by rw [norm_nil]; simp) (fun h => by have := h.pos; rw [norm_nil] at this; simp at this))
          have hb9 : ((2 : Int) != 0) = true := by decide
          go_wp2_with fail
          refine WB.out.mono ?_
          rintro e w2 ⟨rfl, hb2⟩
          have HB2 := Lib.hid (below_tr HB1.out hb2)
          have LV := Lib.hid (lives_any w2 (HE.out.below HB2.out))
          clear hb2 WB
          go_wp2_with fail
          refine LV.out.mono ?_
          rintro e w3 ⟨rfl, hb3⟩
          have HB3 := Lib.hid (below_tr HB2.out hb3)
          clear hb3 LV
          go_wp2_with fail
          go_ret
          exact ⟨rfl, ENDB.out _ HB3.out⟩
        · have GT := Lib.hid (GTH.out (by omega))
          have HTL := Lib.hid (tab_light GT.out.cin GT.out.wt)
          have HOP := Lib.hid (openN_table (normC G) GT.out.ok GT.out.fit)
          have HFL := Lib.hid (chunk8_flat (normC G).length (normC G) (Nat.le_refl _))
          have HML := Lib.hid GT.out.ok.most
          have PAIR := Lib.hid GT.out.ok.pair
          have HGD := Lib.hid GT.out.ok.good
          have WR := Lib.hid (write_ok v1 (normC G) w1 (HE.out.below HB1.out) (OwnX.sl HO1.out) GT.out.ok GT.out.fit)
          generalize normC G = M at *
          generalize chunk8 M = bs at *
          generalize tableL M = TB at *
          have hb90 : ((0 : Int) != 0) = false := by decide
          clear hg0
          go_wp2_with fail
          refine WR.out.mono ?_
          rintro e w2 ⟨v2, rfl, hO2, hb2⟩
          have HB2 := Lib.hid (below_tr HB1.out hb2)
          have OP := Lib.hid (open_any v2 TB w2 (HE.out.below HB2.out) (OwnB.slB hO2) HTL.out)
          rw [HOP.out] at OP
          clear hO2 hb2 WR
          go_wp2_with fail
          refine OP.out.mono ?_
          rintro e w3 ⟨hb3, g, rfl, ht⟩
          have HB3 := Lib.hid (below_tr HB2.out hb3); have HT3 := Lib.hid ht
          have kb := KB0.out.below HB3.out
          have a0 := kb.cell 4 rfl; have a1 := kb.cell 5 rfl; have a2 := kb.cell 6 rfl; have a3 := kb.cell 7 rfl
          have b0 := kb.cell 0 rfl; have b1 := kb.cell 1 rfl; have b2 := kb.cell 2 rfl; have b3 := kb.cell 3 rfl
          have C1 := Lib.hid (fun W => show Calls _ _ _ _ _ from rCmp_any k2.t k2.p k2.c k1.t k1.p k1.c k2.r k1.r W)
          have kE : kcK k2 k1 = cmpR k2.t k2.p k2.c k1.t k1.p k1.c k2.r k1.r := (kcmp_ref _ _ _ _ _ _ _ _).symm
          rw [← kE] at C1
          have C2 := Lib.hid (fun W => show Calls _ _ _ _ _ from rCmp_any k1.t k1.p k1.c k3.t k3.p k3.c k1.r k3.r W)
          have kE2 : kcK k1 k3 = cmpR k1.t k1.p k1.c k3.t k3.p k3.c k1.r k3.r := (kcmp_ref _ _ _ _ _ _ _ _).symm
          rw [← kE2] at C2
          have MEET := Lib.hid (fun (h1 : ¬ 0 < kcK k2 k1) (h2 : ¬ 0 < kcK k1 k3) => scan_meet (f := k2) (k := k1) (u := k3) (by omega) (by omega) PAIR.out)
          clear kE kE2 kb hb3 ht OP
          generalize kcK k2 k1 = r1 at *
          generalize kcK k1 k3 = r2 at *
          go_wp2_with fail
          refine (C1.out _).mono ?_
          rintro e w4 ⟨rfl, hb4⟩
          have HB4 := Lib.hid (below_tr HB3.out hb4); have HT4 := Lib.hid (HT3.out.keep hb4)
          have LV4 := Lib.hid (fun W (hb : Below W0.heap.size W0 W) => lives_any W (HE.out.below hb))
          clear a0 a1 a2 a3 b0 b1 b2 b3 hb4
          by_cases hr1 : 0 < r1
          · have hq1 : (0 : Int) < r1 := hr1
            go_wp2_with fail
            refine (LV4.out _ HB4.out).mono ?_
            rintro e wz ⟨rfl, hbz⟩
            have HBZ := Lib.hid (below_tr HB4.out hbz)
            clear hbz
            go_wp2_with fail
            go_ret
            exact ⟨rfl, ENDB.out _ HBZ.out⟩
          · have kb := KB0.out.below HB4.out
            have a0 := kb.cell 0 rfl; have a1 := kb.cell 1 rfl; have a2 := kb.cell 2 rfl; have a3 := kb.cell 3 rfl
            have b0 := kb.cell 8 rfl; have b1 := kb.cell 9 rfl; have b2 := kb.cell 10 rfl; have b3 := kb.cell 11 rfl
            clear kb
            go_wp2_with fail
            refine (C2.out _).mono ?_
            rintro e w5 ⟨rfl, hb5⟩
            have HB5 := Lib.hid (below_tr HB4.out hb5); have HT5 := Lib.hid (HT4.out.keep hb5)
            clear a0 a1 a2 a3 b0 b1 b2 b3 hb5
            by_cases hr2 : 0 < r2
            · have hq2 : (0 : Int) < r2 := hr2
              go_wp2_with fail
              refine (LV4.out _ HB5.out).mono ?_
              rintro e wz ⟨rfl, hbz⟩
              have HBZ := Lib.hid (below_tr HB5.out hbz)
              clear hbz
              go_wp2_with fail
              go_ret
              exact ⟨rfl, ENDB.out _ HBZ.out⟩
            · have MT := Lib.hid (MEET.out (by omega) (by omega))
              have kb := KB0.out.below HB5.out
              have a0 := kb.cell 4 rfl; have a1 := kb.cell 5 rfl; have a2 := kb.cell 6 rfl; have a3 := kb.cell 7 rfl
              have b0 := kb.cell 8 rfl; have b1 := kb.cell 9 rfl; have b2 := kb.cell 10 rfl; have b3 := kb.cell 11 rfl
              clear kb MEET
              have SC := Lib.hid (scan_any g bs k2 k3 w5 HT5.out)
              rw [HFL.out] at SC
              simp only [kyVal] at SC
              go_wp2_with fail
              refine SC.out.mono ?_
              rintro e w6 ⟨v6, rfl, hO6, hb6⟩
              have HO6 := Lib.hid hO6
              have HB6 := Lib.hid (below_tr HB5.out hb6); have HT6 := Lib.hid (HT5.out.keep hb6)
              clear a0 a1 a2 a3 b0 b1 b2 b3 hO6 hb6 SC
              have KB6 := Lib.hid (KB0.out.below HB6.out)
              have HS := Lib.hid (fun W' (h : InW w6 W') => show InW w6 W' ∧ W'.cell? ⟨w.heap.size, 0, none⟩ = some (.string k1.t) ∧ W'.cell? ⟨w.heap.size, 1, none⟩ = some (.string k1.p) ∧ W'.cell? ⟨w.heap.size, 2, none⟩ = some (.int .i64 k1.r) ∧ W'.cell? ⟨w.heap.size, 3, none⟩ = some (.string k1.c) ∧ W'.cell? ⟨w.heap.size, 4, none⟩ = some (.string k2.t) ∧ W'.cell? ⟨w.heap.size, 5, none⟩ = some (.string k2.p) ∧ W'.cell? ⟨w.heap.size, 6, none⟩ = some (.int .i64 k2.r) ∧ W'.cell? ⟨w.heap.size, 7, none⟩ = some (.string k2.c) ∧ W'.cell? ⟨w.heap.size, 8, none⟩ = some (.string k3.t) ∧ W'.cell? ⟨w.heap.size, 9, none⟩ = some (.string k3.p) ∧ W'.cell? ⟨w.heap.size, 10, none⟩ = some (.int .i64 k3.r) ∧ W'.cell? ⟨w.heap.size, 11, none⟩ = some (.string k3.c) from ⟨h, (KB6.out.below h).cell 0 rfl, (KB6.out.below h).cell 1 rfl, (KB6.out.below h).cell 2 rfl, (KB6.out.below h).cell 3 rfl, (KB6.out.below h).cell 4 rfl, (KB6.out.below h).cell 5 rfl, (KB6.out.below h).cell 6 rfl, (KB6.out.below h).cell 7 rfl, (KB6.out.below h).cell 8 rfl, (KB6.out.below h).cell 9 rfl, (KB6.out.below h).cell 10 rfl, (KB6.out.below h).cell 11 rfl⟩)
              obtain ⟨A, hA⟩ : ∃ A, M.filter (inK k2 k1) = A := ⟨_, rfl⟩
              obtain ⟨C, hC⟩ : ∃ C, M.filter (inK k1 k3) = C := ⟨_, rfl⟩
              have HAL := Lib.hid (show A.length ≤ 20000 from by rw [← hA]; exact Nat.le_trans (List.length_filter_le _ _) HML.out)
              have HCL := Lib.hid (show C.length ≤ 20000 from by rw [← hC]; exact Nat.le_trans (List.length_filter_le _ _) HML.out)
              have S1 := Lib.hid (fun W' (h : InW w6 W') => show Calls Tryz.prog 21 #[.pointer (some ⟨g, 0, none⟩), .agg #[.string k2.t, .string k2.p, .int .i64 k2.r, .string k2.c], .agg #[.string k1.t, .string k1.p, .int .i64 k1.r, .string k1.c]] W' (fun e w' => ∃ v, e = .returned v ∧ OwnX eC w' W'.heap.size v A ∧ Below W'.heap.size W' w') from by have := scan_any g bs k2 k1 W' (HT6.out.keep h); rwa [HFL.out, hA] at this)
              have S2 := Lib.hid (fun W' (h : InW w6 W') => show Calls Tryz.prog 21 #[.pointer (some ⟨g, 0, none⟩), .agg #[.string k1.t, .string k1.p, .int .i64 k1.r, .string k1.c], .agg #[.string k3.t, .string k3.p, .int .i64 k3.r, .string k3.c]] W' (fun e w' => ∃ v, e = .returned v ∧ OwnX eC w' W'.heap.size v C ∧ Below W'.heap.size W' w') from by have := scan_any g bs k1 k3 W' (HT6.out.keep h); rwa [HFL.out, hC] at this)
              rw [hA, hC] at MT
              clear hA hC
              have G1 := Lib.hid (show A.length ≤ 9223372036854775807 from by have := HAL.out; omega)
              have G2 := Lib.hid (show A.length * eC.bytes ≤ 140737488355328 from by have := HAL.out; show A.length * 112 ≤ _; omega)
              have G3 := Lib.hid (show A.length + C.length ≤ 9223372036854775807 from by have := HAL.out; have := HCL.out; omega)
              have G4 := Lib.hid (show (A.length + C.length) * eC.bytes ≤ 140737488355328 from by have := HAL.out; have := HCL.out; show (A.length + C.length) * 112 ≤ _; omega)
              have LIT := Lib.hid (fun W (h : InW w6 W) => show OwnX eC (W.alloc (.cells #[] 61)) w6.heap.size (.slice (some ⟨W.heap.size, 0, none⟩) 0 0) [] from OwnX.lit (E := eC) W _ #[] [] 0 (Below.size (show Below w6.heap.size w6 W from h)) rfl (by simp) rfl)
              have SZ := Lib.hid (fun W (h : InW w6 W) => Below.size (show Below w6.heap.size w6 W from h))
              go_upto_region 17 with (fail)
              go_region_held3 (fun W' => InW w6 W' ∧ W'.cell? ⟨w.heap.size, 0, none⟩ = some (.string k1.t) ∧ W'.cell? ⟨w.heap.size, 1, none⟩ = some (.string k1.p) ∧ W'.cell? ⟨w.heap.size, 2, none⟩ = some (.int .i64 k1.r) ∧ W'.cell? ⟨w.heap.size, 3, none⟩ = some (.string k1.c) ∧ W'.cell? ⟨w.heap.size, 4, none⟩ = some (.string k2.t) ∧ W'.cell? ⟨w.heap.size, 5, none⟩ = some (.string k2.p) ∧ W'.cell? ⟨w.heap.size, 6, none⟩ = some (.int .i64 k2.r) ∧ W'.cell? ⟨w.heap.size, 7, none⟩ = some (.string k2.c) ∧ W'.cell? ⟨w.heap.size, 8, none⟩ = some (.string k3.t) ∧ W'.cell? ⟨w.heap.size, 9, none⟩ = some (.string k3.p) ∧ W'.cell? ⟨w.heap.size, 10, none⟩ = some (.int .i64 k3.r) ∧ W'.cell? ⟨w.heap.size, 11, none⟩ = some (.string k3.c))
                (first
                  | with_reducible assumption
                  | with_reducible exact HS.out _ (InW.drew (InW.refl _))
                  | with_reducible exact HS.out _ (InW.drew (InW.al (InW.refl _) _))
                  | with_reducible exact HS.out _ (InW.al (InW.drew (InW.refl _)) _)
                  | (with_reducible refine HS.out _ ?_; with_reducible assumption)
                  | with_reducible exact HS.out _ (InW.al (by with_reducible assumption) _)
                  | with_reducible exact HS.out _ (InW.tr (And.left (by with_reducible assumption)) (by with_reducible assumption)))
                (first
                  | (go_at_call_of 21 k2.t; have iw := (by with_reducible exact And.left (by with_reducible assumption : InW w6 _ ∧ _)); with_reducible refine (S1.out _ iw).mono ?_; rintro e wA ⟨v1, rfl, hA1, hbA⟩; have iwA := InW.tr iw hbA; clear iw)
                  | (go_at_call_of 21 k3.t; have iw := (by with_reducible exact And.left (by with_reducible assumption : InW w6 _ ∧ _)); with_reducible refine (S2.out _ iw).mono ?_; rintro e wC ⟨v2, rfl, hC1, hbC⟩; have iwC := InW.tr iw hbC; clear iw)
                  | (have t2 := (by with_reducible exact OwnX.below (OwnX.drew (LIT.out w6 (InW.refl _))) hbA); have t3 := OwnX.sl hA1; have t4 := SZ.out wA iwA; refine st_new (E := eC) (by rfl) (.tmp 79) (.tmp 85) (by rfl) w6.heap.size _ _ _ A (by rfl) (by rfl) t2 t3 t4 G1.out G2.out ?_; intro vB wB hB1 hbB; have iwB := InW.tr iwA hbB; obtain ⟨aB, cB, rfl, _, _⟩ := (OwnX.sl hB1).ex)
                  | (have t2 := LIT.out wA iwA; have t3 := OwnX.sl (hA1.alloc (.cells #[] 61)); have t4 := SZ.out _ (iwA.al (.cells #[] 61)); refine st_new (E := eC) (by rfl) (.tmp 79) (.tmp 85) (by rfl) w6.heap.size _ _ _ A (by rfl) (by rfl) t2 t3 t4 G1.out G2.out ?_; intro vB wB hB1 hbB; have iwB := InW.tr (iwA.al (.cells #[] 61)) hbB; obtain ⟨aB, cB, rfl, _, _⟩ := (OwnX.sl hB1).ex)
                  | (have t2 := (by with_reducible exact OwnX.below hB1 hbC); have t3 := OwnX.sl hC1; refine st_y (E := eC) (by rfl) (.tmp 86) (.tmp 92) (by rfl) w6 _ A _ _ C (by rfl) (by rfl) t3 t2 iwC G3.out G4.out ?_; intro vD wD hD1 iwD; obtain ⟨aD, cD, rfl, _, _⟩ := (OwnX.sl hD1).ex)
                  | fail)
              all_goals (
                have KB7 := Lib.hid (KB6.out)
                have HT7 := Lib.hid (HT6.out.keep (show Below w6.heap.size w6 wD from iwD))
                have HB7 := Lib.hid (below_tr HB6.out (show Below w6.heap.size w6 wD from iwD))
                have SW7 := Lib.hid ((OwnX.sl HO6.out).keep (show Below w6.heap.size w6 wD from iwD))
                have SP7 := OwnX.sl hD1
                generalize hvp : Value.slice aD (A ++ C).length cD = vp at SP7
                rw [MT.out] at SP7
                subst hvp
                have LK := Lib.hid (like_any v6 _ _ wD SW7.out SP7 (by have := List.length_filter_le (inK k2 k3) M; have := HML.out; unfold Room; omega))
                rw [List.length_append] at LK
                have SZZ := Lib.hid (fun W' (h : Below w6.heap.size w6 W') => scan_any g bs zeroK lastZ W' (HT6.out.keep h))
                rw [HFL.out, all_in HGD.out] at SZZ
                have LENM := Lib.hid (fun W' (h : Below w6.heap.size w6 W') => len_any g bs W' (HT6.out.keep h))
                rw [HFL.out] at LENM
                have LVM := Lib.hid (fun W' (h : Below w6.heap.size w6 W') => lives_any W' (HE.out.below (below_tr HB6.out h)))
                obtain ⟨ml, hml⟩ : ∃ n, M.length = n := ⟨_, rfl⟩
                have HML2 := Lib.hid hml
                rw [hml] at LENM
                clear hml SP7
                simp only [kyVal, zeroK, lastZ] at SZZ
                have IWD := Lib.hid (show Below w6.heap.size w6 wD from iwD)
                go_wp2_with fail
                refine LK.out.mono ?_
                rintro e wL ⟨rfl, hbL⟩
                have IWL := Lib.hid (below_tr IWD.out hbL)
                clear hbL LK
                go_wp2_with fail
                refine (SZZ.out _ IWL.out).mono ?_
                rintro e wS ⟨vS, rfl, hOS, hbS⟩
                obtain ⟨aS, cS, rfl, _, _⟩ := (OwnX.sl hOS).ex
                have IWS := Lib.hid (below_tr IWL.out hbS)
                rw [HML2.out]
                clear hbS hOS
                go_wp2_with fail
                refine (LENM.out _ IWS.out).mono ?_
                rintro e wN ⟨rfl, hbN⟩
                have IWN := Lib.hid (below_tr IWS.out hbN)
                clear hbN
                go_wp2_with fail
                refine (LVM.out _ IWN.out).mono ?_
                rintro e wV ⟨rfl, hbV⟩
                have IWV := Lib.hid (below_tr HB6.out (below_tr IWN.out hbV))
                clear hbV
                go_wp2_with fail
                go_ret
                exact ⟨rfl, ENDB.out _ IWV.out⟩)
end Go.Proofs.YtplghaoflmaadaaGreatDoor
end
