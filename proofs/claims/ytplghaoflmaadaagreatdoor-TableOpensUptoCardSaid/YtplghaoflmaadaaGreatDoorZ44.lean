/- The contract of the law's own function tells: of bytes, what a table of them tells is the document's. Conditions: room. -/
import Derived.Test.YtplghaoflmaadaaGreatDoorZ38
section
set_option linter.unusedVariables false
set_option linter.unusedSimpArgs false
set_option maxRecDepth 50000
namespace Go.Proofs.YtplghaoflmaadaaGreatDoor
open Go.RowKit Go.Sort
open Go.Lib hiding intOf

theorem InW.set {W w : World} (h : InW W w) {k : Nat} (hk : W.heap.size ≤ k) (i : Nat) (u : Value) : InW W (w.setCell ⟨k, i, none⟩ u) := Below.setCell (p := ⟨k, i, none⟩) h hk u
theorem InW.set6 {W w : World} (h : InW W w) {k : Nat} (hk : W.heap.size ≤ k) (u0 u1 u2 u3 u4 u5 : Value) : InW W ((((((w.setCell ⟨k, 0, none⟩ u0).setCell ⟨k, 1, none⟩ u1).setCell ⟨k, 2, none⟩ u2).setCell ⟨k, 3, none⟩ u3).setCell ⟨k, 4, none⟩ u4).setCell ⟨k, 5, none⟩ u5) :=
  (((((h.set hk 0 u0).set hk 1 u1).set hk 2 u2).set hk 3 u3).set hk 4 u4).set hk 5 u5
theorem InW.setCells {W : World} {k : Nat} (hk : W.heap.size ≤ k) : ∀ (vs : List Value) (o : Nat) (w : World), InW W w → InW W (w.setCells k o vs)
  | [], _, _, h => h
  | u :: vs, o, w, h => InW.setCells hk vs _ _ (h.set hk o u)
theorem Blk.setCells {g : Nat} {t : TypeId} : ∀ (vs : List Value) (o : Nat) (w : World) (cs : Array Value), Blk w g t cs → ∃ cs', Blk (w.setCells g o vs) g t cs' ∧ cs'.size = cs.size ∧ (∀ j, j < o → cs'[j]? = cs[j]?) ∧ ∀ j, j < vs.length → o + vs.length ≤ cs.size → cs'[o + j]? = vs[j]?
  | [], o, w, cs, h => ⟨cs, h, rfl, fun _ _ => rfl, fun j hj => absurd hj (by simp)⟩
  | u :: vs, o, w, cs, h => by
    obtain ⟨cs', h1, h2, h3, h4⟩ := Blk.setCells vs (o + 1) (w.setCell ⟨g, o, none⟩ u) (cs.setIfInBounds o u) (h.put o u)
    refine ⟨cs', h1, by rw [h2]; simp, fun j hj => ?_, fun j hj hle => ?_⟩
    · rw [h3 j (by omega)]; exact Array.getElem?_setIfInBounds_ne (by omega)
    · simp only [List.length_cons] at hj hle
      rcases j with _ | j
      · rw [h3 (o + 0) (by omega), Nat.add_zero, Array.getElem?_setIfInBounds_self_of_lt (by omega)]; rfl
      · rw [show o + (j + 1) = o + 1 + j by omega, h4 j (by omega) (by simp; omega)]; rfl
theorem Blk.all {w : World} {g : Nat} {t : TypeId} {cs : Array Value} (h : Blk w g t cs) (vs : Array Value) (hs : cs.size = vs.size) : Blk (w.setCells g 0 vs.toList) g t vs := by
  obtain ⟨cs', h1, h2, _, h4⟩ := Blk.setCells vs.toList 0 w cs h
  have e : cs' = vs := by
    refine Array.ext_getElem? fun j => ?_
    rcases Nat.lt_or_ge j vs.size with hj | hj
    · have := h4 j (by simpa using hj) (by simp; omega)
      rw [Nat.zero_add] at this
      rw [this]; simp
    · rw [Array.getElem?_eq_none (by omega), Array.getElem?_eq_none hj]
  rw [← e]; rwa [e] at h1 ⊢
theorem infoVer : (Tryz.prog.info? 49).map (·.size) = some 6 := by kernel_rfl
section
variable {W : World} {g : Nat} {t : TypeId} {cs cells : Array Value}
theorem sto_ver (hb : Blk W g t cs) (h6 : cs.size = 6) (hs : cells.size = 6) (h1 : cells.all (·.oneCell') = true) :
    (Instr.storeAt 49 (.pointer (some ⟨g, 0, none⟩)) (.agg cells)).run Tryz.prog W = .ok () (W.setCells g 0 cells.toList) := by
  refine run_storeAt_mid W g 0 _ cells (fun j hj => ?_) (by rw [hs]; exact infoVer) h1
  rw [Nat.zero_add]
  exact ⟨by rw [hb.cell j (Array.getElem?_eq_getElem (by omega))]; rfl, hb.frozen j⟩
theorem sto_ver2 (hb : Blk W g t cs) (h6 : cs.size = 6) (hs : cells.size = 6) (h1 : cells.all (·.oneCell') = true) :
    (storeVar 49 ⟨g, 0, none⟩ (.agg cells)).run Tryz.prog W = .ok () (W.setCells g 0 cells.toList) := by
  refine run_storeVar_mid W g 0 _ cells (fun j hj => ?_) (by rw [hs]; exact infoVer) h1
  rw [Nat.zero_add]
  exact ⟨by rw [hb.cell j (Array.getElem?_eq_getElem (by omega))]; rfl, hb.frozen j⟩
theorem sto_ver3 (hb : Blk W g t cs) (h6 : cs.size = 6) (hs : cells.size = 6) (h1 : cells.all (·.oneCell') = true) :
    (storeCells ⟨g, 0, none⟩ cells.toList 0).run Tryz.prog W = .ok () (W.setCells g 0 cells.toList) := by
  refine run_storeCells_cells g 0 cells.toList 0 W (fun j hj => ?_) (fun j hj => hb.frozen _) (fun v hv => (Array.all_eq_true_iff_forall_mem.1 h1) v (by simpa using hv))
  rw [Nat.zero_add, hb.cell j (Array.getElem?_eq_getElem (by simp at hj; omega))]; rfl
end
theorem key_same (w : World) (t p c : ByteArray) (r : Int) : (binOp .neq 24 (.agg #[.string t, .string p, .int .i64 r, .string c]) (.agg #[.string t, .string p, .int .i64 r, .string c])).run Tryz.prog w = .ok (.bool false) w := by
  have h := keyIn 9998 w t p c t p c r r
  rw [keyEq_dec ⟨t, p, r, c⟩ ⟨t, p, r, c⟩, decide_eq_true rfl] at h
  rw [run_neq_struct, h]; rfl
theorem first_at {L : List Cel} (h : 0 < L.length) : (L.getD 0 zCl).k = L[0].k := by
  cases L with
  | nil => simp at h
  | cons x L => rfl
set_option maxHeartbeats 8000000 in
theorem tells_any (v : Value) (b : List UInt8) (k1 k2 k3 : Ky) (w : World) (he : Env w) (hv : SlB w.heap.size w v b) (hl : b.length ≤ 120000) (hk : k1.t.size + k1.p.size + k1.c.size ≤ 2000000) :
    Calls Tryz.prog 15 #[v, askV k1 k2 k3] w fun e w' => e = .returned (.bool true) ∧ Below w.heap.size w w' := by
  have B0 := below_alloc (Below.refl _ w) (.cells #[.string k1.t, .string k1.p, .int .i64 k1.r, .string k1.c, .string k2.t, .string k2.p, .int .i64 k2.r, .string k2.c, .string k3.t, .string k3.p, .int .i64 k3.r, .string k3.c] 26)
  have KB0 := Lib.hid (Blk.new w 26 #[.string k1.t, .string k1.p, .int .i64 k1.r, .string k1.c, .string k2.t, .string k2.p, .int .i64 k2.r, .string k2.c, .string k3.t, .string k3.p, .int .i64 k3.r, .string k3.c])
  have ENDB := Lib.hid (fun (W : World) (h : Below (w.alloc (.cells #[.string k1.t, .string k1.p, .int .i64 k1.r, .string k1.c, .string k2.t, .string k2.p, .int .i64 k2.r, .string k2.c, .string k3.t, .string k3.p, .int .i64 k3.r, .string k3.c] 26)).heap.size (w.alloc (.cells #[.string k1.t, .string k1.p, .int .i64 k1.r, .string k1.c, .string k2.t, .string k2.p, .int .i64 k2.r, .string k2.c, .string k3.t, .string k3.p, .int .i64 k3.r, .string k3.c] 26)) W) => show Below w.heap.size w W from below_tr B0 h)
  have hv := hv.keep B0
  have he := he.below B0
  have HKZ := Lib.hid hk; have HBL := Lib.hid hl; have HE := Lib.hid he; have HV := Lib.hid hv
  obtain ⟨a, cap, rfl, hc, hx⟩ := hv.ex
  clear B0 hk hl he hx
  unfold askV
  go_enter Tryz.func15, Tryz.ntmps15
  go_wp2_with fail
  generalize w.alloc (.cells #[.string k1.t, .string k1.p, .int .i64 k1.r, .string k1.c, .string k2.t, .string k2.p, .int .i64 k2.r, .string k2.c, .string k3.t, .string k3.p, .int .i64 k3.r, .string k3.c] 26) = W0 at *
  have OP := Lib.hid (open_any _ b W0 HE.out HV.out HBL.out)
  have ROP := Lib.hid (fun W (hb : Below W0.heap.size W0 W) => ropen_any _ b W (HE.out.below hb) (HV.out.keep hb) HBL.out)
  have HOK := Lib.hid (fun bs h => openN_all (bs := bs) HBL.out h)
  obtain ⟨O, hO⟩ : ∃ O, openN b = O := ⟨_, rfl⟩
  rw [hO] at OP ROP HOK
  clear hO hv
  rcases O with _ | bs
  · go_wp2_with fail
    refine OP.out.mono ?_
    rintro e w1 ⟨hb1, rfl⟩
    have HB1 := Lib.hid hb1
    have RO := Lib.hid (ROP.out _ hb1)
    clear hb1 OP
    go_wp2_with fail
    refine RO.out.mono ?_
    rintro e w2 ⟨hb2, rfl⟩
    have HB2 := Lib.hid (below_tr HB1.out hb2)
    clear hb2 RO
    go_wp2_with fail
    go_ret
    exact ⟨rfl, ENDB.out _ HB2.out⟩
  · have OK := Lib.hid (HOK.out bs rfl)
    go_wp2_with fail
    refine OP.out.mono ?_
    rintro e w1 ⟨hb1, g, rfl, ht⟩
    have HB1 := Lib.hid hb1
    have HT1 := Lib.hid ht
    have RO := Lib.hid (ROP.out _ hb1)
    clear hb1 OP ht
    go_wp2_with fail
    refine RO.out.mono ?_
    rintro e w2 ⟨hb2, g', rfl, hr⟩
    have HB2 := Lib.hid (below_tr HB1.out hb2)
    have HT2 := Lib.hid (HT1.out.keep hb2)
    have HR2 := Lib.hid hr
    clear hb2 RO hr
    have kb := KB0.out.below HB2.out
    have a0 := kb.cell 0 rfl; have a1 := kb.cell 1 rfl; have a2 := kb.cell 2 rfl; have a3 := kb.cell 3 rfl
    clear kb
    have GE := Lib.hid (get_any g bs k1 w2 HT2.out (HE.out.below HB2.out) HKZ.out)
    simp only [kyVal] at GE
    have FD := Lib.hid (fun lv W (h : SlX eC W.heap.size W lv bs.flatten) => rFind_any lv bs.flatten k1 W h (by unfold Room; have := OK.out.ok.most; omega))
    simp only [kyVal] at FD
    generalize findV bs.flatten k1 = fv at *
    generalize (findC bs.flatten k1).isSome = fb at *
    obtain ⟨vt, vd, vl, vk, vn, vs⟩ := fv
    simp only [vrEnc] at GE FD
    go_wp2_with fail
    refine GE.out.mono ?_
    rintro e w3 ⟨rfl, hb3⟩
    have HB3 := Lib.hid (below_tr HB2.out hb3); have HT3 := Lib.hid (HT2.out.keep hb3); have HR3 := Lib.hid (HR2.out.keep hb3)
    clear hb3 a0 a1 a2 a3 GE
    go_upto_region 8 with (fail)
    have BX4 := below_alloc (Below.refl _ w3) (.cells #[.int .i64 vt, .bool vd, .int .i64 vl, .int .i64 vk, .int .i64 vn, .string vs] 49)
    have V4 := Lib.hid (Blk.new w3 49 #[.int .i64 vt, .bool vd, .int .i64 vl, .int .i64 vk, .int .i64 vn, .string vs])
    have HB4 := Lib.hid (below_tr HB3.out BX4); have HT4 := Lib.hid (HT3.out.keep BX4); have HR4 := Lib.hid (HR3.out.keep BX4)
    clear BX4
    generalize w3.alloc (.cells #[.int .i64 vt, .bool vd, .int .i64 vl, .int .i64 vk, .int .i64 vn, .string vs] 49) = w4 at *
    generalize w3.heap.size = g9 at *
    obtain ⟨lv, gf, hr4, hs4, -⟩ := HR4.out.ex
    obtain ⟨gl, ol, cl, rfl, hcl, hgl⟩ := hs4.form OK.out.ok.pos
    obtain ⟨m, hm⟩ : ∃ m, bs.flatten.length = m + 1 := ⟨bs.flatten.length - 1, by have := OK.out.ok.pos; omega⟩
    have HM20 := Lib.hid (show m + 1 ≤ 20000 by have := OK.out.ok.most; omega)
    have HCL := Lib.hid (show m + 1 ≤ cl by omega)
    have T0 := Lib.hid (Ten.of hs4 0 (by omega)); have TM := Lib.hid (Ten.of hs4 m (by omega))
    have K0 := Lib.hid (first_at (L := bs.flatten) (by omega)); have KM := Lib.hid (lastK_at hm)
    generalize bs.flatten[0]'(by omega) = x0 at *
    generalize bs.flatten[m]'(by omega) = xm at *
    have KB4 := Lib.hid (KB0.out.below HB4.out)
    have RB4 := Lib.hid hr4; have SR4 := Lib.hid hs4
    have HS := Lib.hid (fun W' (h : InW w4 W') => show InW w4 W' ∧ W'.cell? ⟨g', 0, none⟩ = some (.slice (some ⟨gl, ol, none⟩) bs.flatten.length cl) ∧ W'.cell? ⟨w.heap.size, 0, none⟩ = some (.string k1.t) ∧ W'.cell? ⟨w.heap.size, 1, none⟩ = some (.string k1.p) ∧ W'.cell? ⟨w.heap.size, 2, none⟩ = some (.int .i64 k1.r) ∧ W'.cell? ⟨w.heap.size, 3, none⟩ = some (.string k1.c) from ⟨h, (RB4.out.below h).cell 0 rfl, (KB4.out.below h).cell 0 rfl, (KB4.out.below h).cell 1 rfl, (KB4.out.below h).cell 2 rfl, (KB4.out.below h).cell 3 rfl⟩)
    obtain ⟨csv, hcsv⟩ : ∃ c, (#[.int .i64 vt, .bool vd, .int .i64 vl, .int .i64 vk, .int .i64 vn, .string vs] : Array Value) = c := ⟨_, rfl⟩
    have h6 : csv.size = 6 := by rw [← hcsv]; rfl
    have h61 : csv.all (·.oneCell') = true := by rw [← hcsv]; simp [Value.oneCell']
    have SA := Lib.hid (fun W' => sto_ver3 (W := W'.alloc (.cells #[.int .i64 0, .bool false, .int .i64 0, .int .i64 0, .int .i64 0, .string ⟨#[]⟩] 49)) (Blk.new W' _ _) rfl h6 h61)
    have SB := Lib.hid (fun W' (hb : Below (w4.alloc (.cells #[.int .i64 0, .bool false, .int .i64 0, .int .i64 0, .int .i64 0, .string ⟨#[]⟩] 49)).drew.heap.size (w4.alloc (.cells #[.int .i64 0, .bool false, .int .i64 0, .int .i64 0, .int .i64 0, .string ⟨#[]⟩] 49)).drew W') => sto_ver3 (W := W') ((Blk.new w4 49 #[.int .i64 0, .bool false, .int .i64 0, .int .i64 0, .int .i64 0, .string ⟨#[]⟩]).drew.below hb) rfl h6 h61)
    rw [hcsv] at FD
    have HCSV := Lib.hid hcsv; have H6 := Lib.hid h6
    clear hcsv h6 h61
    have FW := Lib.hid (fun W' (h : InW w4 W') => FD.out _ W' (SR4.out.keep h))
    clear hr4 hs4 hcl hgl FD
    have ZB := Lib.hid (Blk.new w4 49 #[.int .i64 0, .bool false, .int .i64 0, .int .i64 0, .int .i64 0, .string ⟨#[]⟩]).drew
    rw [hm] at HS FW SR4 RB4
    have HNL := Lib.hid hm
    clear hm
    go_region_held3 (fun W' => InW w4 W' ∧ W'.cell? ⟨g', 0, none⟩ = some (.slice (some ⟨gl, ol, none⟩) (m + 1) cl) ∧ W'.cell? ⟨w.heap.size, 0, none⟩ = some (.string k1.t) ∧ W'.cell? ⟨w.heap.size, 1, none⟩ = some (.string k1.p) ∧ W'.cell? ⟨w.heap.size, 2, none⟩ = some (.int .i64 k1.r) ∧ W'.cell? ⟨w.heap.size, 3, none⟩ = some (.string k1.c))
      (first
        | with_reducible assumption
        | with_reducible exact HS.out _ (InW.drew (InW.refl _))
        | with_reducible exact HS.out _ (InW.drew (InW.al (InW.refl _) _))
        | with_reducible exact HS.out _ (InW.al (InW.drew (InW.refl _)) _)
        | with_reducible exact HS.out _ (InW.al (InW.refl _) _)
        | (with_reducible refine HS.out _ ?_; with_reducible assumption)
        | with_reducible exact HS.out _ (InW.tr (And.left (by with_reducible assumption)) (by with_reducible assumption))
        | with_reducible exact HS.out _ (InW.al (And.left (by with_reducible assumption)) _)
        | with_reducible exact HS.out _ (InW.al (InW.tr (InW.drew (InW.refl _)) (by with_reducible assumption)) _)
        | (with_reducible refine HS.out _ ?_; with_reducible refine InW.setCells ?_ _ _ _ ?_; · first | with_reducible exact Nat.le_refl _ | exact (have h9 : Below w4.drew.heap.size w4.drew w' := (by with_reducible assumption); Nat.le_trans (Nat.le_of_eq (rfl : w4.heap.size = w4.drew.heap.size)) h9.size)
           · first | with_reducible exact And.left (by with_reducible assumption) | with_reducible exact InW.tr (And.left (by with_reducible assumption)) (by with_reducible assumption)))
      (first
        | (go_at_call 55; refine (FW.out _ (‹InW w4 _ ∧ _›).1).mono ?_; rintro e w' ⟨rfl, hb⟩; have hs1 := SA.out w'; try (have hs2 := by with_reducible exact SB.out w' hb))
        | fail)
    all_goals (
      first
        | (have V5 := Lib.hid (show Blk ((w'.alloc (.cells #[.int .i64 0, .bool false, .int .i64 0, .int .i64 0, .int .i64 0, .string ⟨#[]⟩] 49)).setCells w'.heap.size 0 csv.toList) w'.heap.size 49 csv from Blk.all (Blk.new w' _ _) csv H6.out.symm)
           have I5 := Lib.hid (show InW w4 ((w'.alloc (.cells #[.int .i64 0, .bool false, .int .i64 0, .int .i64 0, .int .i64 0, .string ⟨#[]⟩] 49)).setCells w'.heap.size 0 csv.toList) from And.left (by with_reducible assumption))
           clear hs1
           generalize (w'.alloc (.cells #[.int .i64 0, .bool false, .int .i64 0, .int .i64 0, .int .i64 0, .string ⟨#[]⟩] 49)).setCells w'.heap.size 0 csv.toList = w5 at *
           generalize w'.heap.size = g11 at *)
        | (have V5 := Lib.hid (show Blk (w'.setCells w4.heap.size 0 csv.toList) w4.heap.size 49 csv from Blk.all ((Blk.new w4 49 #[.int .i64 0, .bool false, .int .i64 0, .int .i64 0, .int .i64 0, .string ⟨#[]⟩]).drew.below hb) csv H6.out.symm)
           have I5 := Lib.hid (show InW w4 (w'.setCells w4.heap.size 0 csv.toList) from And.left (by with_reducible assumption))
           clear hs1 hs2
           generalize w'.setCells w4.heap.size 0 csv.toList = w5 at *
           obtain ⟨g11, hg11⟩ : ∃ g, w4.heap.size = g := ⟨_, rfl⟩
           rw [hg11] at V5 ⊢
           clear hg11))
    all_goals (
      clear hb
      clear ‹csv.size = 6›
      clear ‹InW w4 w5 ∧ _›
      have HB5 := Lib.hid (below_tr HB4.out (show Below w4.heap.size w4 w5 from I5.out))
      have HT5 := Lib.hid (HT4.out.keep (show Below w4.heap.size w4 w5 from I5.out)); have HR5 := Lib.hid (HR4.out.keep (show Below w4.heap.size w4 w5 from I5.out))
      have V45 := Lib.hid (V4.out.below (show Below w4.heap.size w4 w5 from I5.out))
      have EN := Lib.hid (ends_any g bs w5 HT5.out)
      rw [K0.out, KM.out] at EN
      obtain ⟨⟨lt, lp, lr, lq⟩, vlo⟩ := x0
      obtain ⟨⟨ht, hp, hr, hq⟩, vhi⟩ := xm
      unfold kyVal at EN
      go_wp2_with fail
      refine EN.out.mono ?_
      rintro e w6 ⟨rfl, hb6⟩
      have hb6' := hb6
      have HB6 := Lib.hid (below_tr HB5.out hb6); have HT6 := Lib.hid (HT5.out.keep hb6); have HR6 := Lib.hid (HR5.out.keep hb6)
      have V46 := Lib.hid (V45.out.below hb6); have V56 := Lib.hid (V5.out.below hb6)
      clear hb6 EN
      go_upto_region 10 with (fail))
    all_goals (
      have L1 := (Blk.new w6 24 #[.string lt, .string lp, .int .i64 lr, .string lq]).alloc (.cells #[.string ht, .string hp, .int .i64 hr, .string hq] 24)
      have L2 := Blk.new (w6.alloc (.cells #[.string lt, .string lp, .int .i64 lr, .string lq] 24)) 24 #[.string ht, .string hp, .int .i64 hr, .string hq]
      rw [show (w6.alloc (.cells #[.string lt, .string lp, .int .i64 lr, .string lq] 24)).heap.size = w6.heap.size + 1 by simp] at L2
      have BX7 := below_alloc (below_alloc (Below.refl _ w6) (.cells #[.string lt, .string lp, .int .i64 lr, .string lq] 24)) (.cells #[.string ht, .string hp, .int .i64 hr, .string hq] 24)
      have HB7 := Lib.hid (below_tr HB6.out BX7); have HT7 := Lib.hid (HT6.out.keep BX7)
      have V47 := V46.out.below BX7; have V57 := V56.out.below BX7
      have B47 := Lib.hid (below_tr (show Below w4.heap.size w4 w6 from below_tr (show Below w4.heap.size w4 w5 from I5.out) hb6') BX7)
      generalize (w6.alloc (.cells #[.string lt, .string lp, .int .i64 lr, .string lq] 24)).alloc (.cells #[.string ht, .string hp, .int .i64 hr, .string hq] 24) = w7 at *
      have t0 := T0.out.keep B47.out
      have tm := TM.out.keep B47.out
      have rl := (RB4.out.below B47.out).cell 0 rfl
      have cc := HCSV.out
      subst cc
      have q1 : wrap64 (((m + 1 : Nat) : Int) - 1) = ((m : Nat) : Int) := by have := HM20.out; unfold wrap64; omega
      have hcl := HCL.out
      have i0 : (0 : Int) < ((m + 1 : Nat) : Int) := by omega
      have i1 : (m : Int) < ((m + 1 : Nat) : Int) := by omega
      have i2 : 0 < m + 1 := by omega
      have i3 : m < m + 1 := by omega
      have q1a : IntKind.i64.wrap (m : Int) = (m : Int) := by have := HM20.out; rw [IntKind.wrap_i64]; omega
      have q1b : IntKind.i64.wrap (((m + 1 : Nat) : Int) - 1) = (m : Int) := by have := HM20.out; rw [IntKind.wrap_i64]; omega
      have q1c : wrap64 (m : Int) = (m : Int) := by have := HM20.out; unfold wrap64; omega
      have q1d : IntKind.i64.wrap ((m : Int) + 1 - 1) = (m : Int) := by have := HM20.out; rw [IntKind.wrap_i64]; omega
      have ln0 : ¬ (m : Int) < 0 := by omega
      have NV := fun W => ver_same W ⟨vt, vd, vl, vk, vn, vs⟩
      have NK1 := fun W => key_same W lt lp lq lr
      have NK2 := fun W => key_same W ht hp hq hr
      simp only [vrEnc] at NV
      have x0 := t0.c0; have x1 := t0.c1; have x2 := t0.c2; have x3 := t0.c3
      have y0 := tm.c0; have y1 := tm.c1; have y2 := tm.c2; have y3 := tm.c3
      simp only [Nat.zero_mul, Nat.add_zero] at x0 x1 x2 x3
      have v0 := V47.cell 0 rfl; have v1 := V47.cell 1 rfl; have v2 := V47.cell 2 rfl; have v3 := V47.cell 3 rfl; have v4 := V47.cell 4 rfl; have v5 := V47.cell 5 rfl
      have u0 := V57.cell 0 rfl; have u1 := V57.cell 1 rfl; have u2 := V57.cell 2 rfl; have u3 := V57.cell 3 rfl; have u4 := V57.cell 4 rfl; have u5 := V57.cell 5 rfl
      have p0 := L1.cell 0 rfl; have p1 := L1.cell 1 rfl; have p2 := L1.cell 2 rfl; have p3 := L1.cell 3 rfl
      have q0 := L2.cell 0 rfl; have q1' := L2.cell 1 rfl; have q2 := L2.cell 2 rfl; have q3 := L2.cell 3 rfl
      generalize w6.heap.size = g13 at *
      generalize g13 + 1 = g14 at *
      clear t0 tm V47 V57 L1 L2 BX7 hb6'
      go_quiet (fail)
      clear v0 v1 v2 v3 v4 v5 u0 u1 u2 u3 u4 u5 p0 p1 p2 p3 q0 q1' q2 q3 x0 x1 x2 x3 y0 y1 y2 y3 NV NK1 NK2 rl
      have HB8 := Lib.hid (below_drewN HB7.out nq)
      have B48 := Lib.hid (below_drewN B47.out nq)
      have HT8 := Lib.hid (HT7.out.keep (below_drewN (Below.refl _ w7) nq))
      clear HB7 B47 HT7
      generalize w7.drewN nq = w8 at *
      have HR8 := Lib.hid (HR4.out.keep B48.out)
      have RB8 := Lib.hid (RB4.out.below B48.out); have SR8 := Lib.hid (SR4.out.keep B48.out); have KB8 := Lib.hid (KB0.out.below HB8.out)
      have HE8 := Lib.hid (HE.out.below HB8.out)
      have HS := Lib.hid (fun W' (h : InW w8 W') => show InW w8 W' ∧ W'.cell? ⟨g', 0, none⟩ = some (.slice (some ⟨gl, ol, none⟩) (m + 1) cl) ∧ W'.cell? ⟨w.heap.size, 0, none⟩ = some (.string k1.t) ∧ W'.cell? ⟨w.heap.size, 1, none⟩ = some (.string k1.p) ∧ W'.cell? ⟨w.heap.size, 2, none⟩ = some (.int .i64 k1.r) ∧ W'.cell? ⟨w.heap.size, 3, none⟩ = some (.string k1.c) ∧ W'.cell? ⟨w.heap.size, 4, none⟩ = some (.string k2.t) ∧ W'.cell? ⟨w.heap.size, 5, none⟩ = some (.string k2.p) ∧ W'.cell? ⟨w.heap.size, 6, none⟩ = some (.int .i64 k2.r) ∧ W'.cell? ⟨w.heap.size, 7, none⟩ = some (.string k2.c) ∧ W'.cell? ⟨w.heap.size, 8, none⟩ = some (.string k3.t) ∧ W'.cell? ⟨w.heap.size, 9, none⟩ = some (.string k3.p) ∧ W'.cell? ⟨w.heap.size, 10, none⟩ = some (.int .i64 k3.r) ∧ W'.cell? ⟨w.heap.size, 11, none⟩ = some (.string k3.c) from ⟨h, (RB8.out.below h).cell 0 rfl, (KB8.out.below h).cell 0 rfl, (KB8.out.below h).cell 1 rfl, (KB8.out.below h).cell 2 rfl, (KB8.out.below h).cell 3 rfl, (KB8.out.below h).cell 4 rfl, (KB8.out.below h).cell 5 rfl, (KB8.out.below h).cell 6 rfl, (KB8.out.below h).cell 7 rfl, (KB8.out.below h).cell 8 rfl, (KB8.out.below h).cell 9 rfl, (KB8.out.below h).cell 10 rfl, (KB8.out.below h).cell 11 rfl⟩)
      obtain ⟨F, hF⟩ : ∃ F, bs.flatten.filter (inK k2 k3) = F := ⟨_, rfl⟩
      obtain ⟨MB, hMB⟩ : ∃ M, mayF 7 (bitsL bs.flatten) (kyL k1) = M := ⟨_, rfl⟩
      have HFL := Lib.hid (show F.length ≤ 20000 by rw [← hF]; have := List.length_filter_le (inK k2 k3) bs.flatten; have := OK.out.ok.most; omega)
      have HBS := Lib.hid (show bs.length = (m + 1 + 7) / 8 by have h1 := congrArg List.length OK.out.ch; rw [chunk8_len, HNL.out] at h1; exact h1)
      have SC1 := Lib.hid (fun W' (h : InW w8 W') => scan_any g bs k2 k3 W' (HT8.out.keep h))
      have SC2 := Lib.hid (fun W' (h : InW w8 W') => rscan_any g' bs.flatten k2 k3 W' (HR8.out.keep h) OK.out.ok.most)
      have MY1 := Lib.hid (fun W' (h : InW w8 W') => tmay_any g bs k1 W' (HT8.out.keep h) (HE8.out.below h) HKZ.out)
      have MY2 := Lib.hid (fun W' (h : InW w8 W') => rtmay_any g' bs.flatten k1 W' (HR8.out.keep h) (HE8.out.below h) HKZ.out)
      rw [hF] at SC1 SC2
      rw [hMB] at MY1 MY2
      simp only [kyVal] at SC1 SC2 MY1 MY2
      have ALL := Lib.hid (fun W' (h : InW w8 W') => all_any g bs W' (HT8.out.keep h))
      have LEN := Lib.hid (fun W' (h : InW w8 W') => len_any g bs W' (HT8.out.keep h))
      have BLN := Lib.hid (fun W' (h : InW w8 W') => blocks_any g bs W' (HT8.out.keep h))
      rw [HNL.out] at LEN
      rw [HBS.out] at BLN
      have LK1 := Lib.hid (fun W' v1 v2 (h1 : SlX eC W'.heap.size W' v1 F) (h2 : SlX eC W'.heap.size W' v2 F) => like_any v1 v2 F W' h1 h2 (by unfold Room; have := HFL.out; omega))
      have LK2 := Lib.hid (fun W' v1 v2 (h1 : SlX eC W'.heap.size W' v1 bs.flatten) (h2 : SlX eC W'.heap.size W' v2 bs.flatten) => like_any v1 v2 bs.flatten W' h1 h2 (by unfold Room; have := OK.out.ok.most; omega))
      have RLW := Lib.hid (fun W' (h : InW w8 W') => SR8.out.keep h)
      have z1 : wrap64 (((m + 1 : Nat) : Int) + 7) = ((m + 8 : Nat) : Int) := by have := HM20.out; unfold wrap64; omega
      have z2 : ((m + 8 : Nat) : Int).tdiv 8 = (((m + 1 + 7) / 8 : Nat) : Int) := by rw [Int.tdiv_eq_ediv_of_nonneg (by omega)]; omega
      have z3 : ((m : Int) + 1 + 7) / 8 = IntKind.i64.wrap ((IntKind.i64.wrap ((m : Int) + 1 + 7)).tdiv 8) := by
        have h1 : IntKind.i64.wrap ((m : Int) + 1 + 7) = (m : Int) + 8 := by have := HM20.out; rw [IntKind.wrap_i64]; omega
        have h2 : ((m : Int) + 8).tdiv 8 = ((m : Int) + 8) / 8 := Int.tdiv_eq_ediv_of_nonneg (by omega)
        have := HM20.out
        rw [h1, h2, IntKind.wrap_i64]; omega
      have Z1 := Lib.hid z1; have Z2 := Lib.hid z2; have Z3 := Lib.hid z3
      clear z3
      clear hF hMB z1 z2 i0 i1 i2 i3 q1 q1a q1b q1c q1d ln0 hcl
      go_upto_region 12 with (fail)
      go_region_held3 (fun W' => InW w8 W' ∧ W'.cell? ⟨g', 0, none⟩ = some (.slice (some ⟨gl, ol, none⟩) (m + 1) cl) ∧ W'.cell? ⟨w.heap.size, 0, none⟩ = some (.string k1.t) ∧ W'.cell? ⟨w.heap.size, 1, none⟩ = some (.string k1.p) ∧ W'.cell? ⟨w.heap.size, 2, none⟩ = some (.int .i64 k1.r) ∧ W'.cell? ⟨w.heap.size, 3, none⟩ = some (.string k1.c) ∧ W'.cell? ⟨w.heap.size, 4, none⟩ = some (.string k2.t) ∧ W'.cell? ⟨w.heap.size, 5, none⟩ = some (.string k2.p) ∧ W'.cell? ⟨w.heap.size, 6, none⟩ = some (.int .i64 k2.r) ∧ W'.cell? ⟨w.heap.size, 7, none⟩ = some (.string k2.c) ∧ W'.cell? ⟨w.heap.size, 8, none⟩ = some (.string k3.t) ∧ W'.cell? ⟨w.heap.size, 9, none⟩ = some (.string k3.p) ∧ W'.cell? ⟨w.heap.size, 10, none⟩ = some (.int .i64 k3.r) ∧ W'.cell? ⟨w.heap.size, 11, none⟩ = some (.string k3.c))
        (first
          | with_reducible assumption
          | with_reducible exact HS.out _ (InW.drew (InW.refl _))
          | (with_reducible refine HS.out _ ?_; with_reducible assumption)
          | with_reducible exact HS.out _ (InW.tr (And.left (by with_reducible assumption)) (by with_reducible assumption)))
        (first
          | (go_at_call 21; with_reducible refine (SC1.out _ (And.left (by with_reducible assumption))).mono ?_; rintro e wA ⟨vA, rfl, hA1, hbA⟩)
          | (go_at_call 56; with_reducible refine (SC2.out _ (And.left (by with_reducible assumption))).mono ?_; rintro e wC ⟨vC, rfl, hC1, hbC⟩)
          | (go_at_call 29; have kk1 := (by with_reducible exact OwnX.sl (hA1.below hbC)); have kk2 := (by with_reducible exact OwnX.sl hC1); with_reducible refine (LK1.out _ _ _ kk1 kk2).mono ?_; rintro e wL ⟨rfl, hbL⟩)
          | (go_at_call 29; have kk1 := (by with_reducible exact OwnX.sl hA1); have kk2 := (by with_reducible exact OwnX.sl (hC1.below hbA)); with_reducible refine (LK1.out _ _ _ kk1 kk2).mono ?_; rintro e wL ⟨rfl, hbL⟩)
          | (go_at_call 22; with_reducible refine (ALL.out _ (And.left (by with_reducible assumption))).mono ?_; rintro e wD ⟨vD, rfl, hD1, hbD⟩)
          | (go_at_call 29; have kk3 := (by with_reducible exact OwnX.sl hD1); with_reducible refine (LK2.out _ _ _ kk3 (RLW.out _ (And.left (by with_reducible assumption)))).mono ?_; rintro e wM ⟨rfl, hbM⟩)
          | (go_at_call 23; with_reducible refine (LEN.out _ (And.left (by with_reducible assumption))).mono ?_; rintro e wN ⟨rfl, hbN⟩)
          | (go_at_call 20; with_reducible refine (MY1.out _ (And.left (by with_reducible assumption))).mono ?_; rintro e wP ⟨rfl, hbP⟩)
          | (go_at_call 57; with_reducible refine (MY2.out _ (And.left (by with_reducible assumption))).mono ?_; rintro e wQ ⟨rfl, hbQ⟩)
          | (go_at_call 24; with_reducible refine (BLN.out _ (And.left (by with_reducible assumption))).mono ?_; rintro e wR ⟨rfl, hbR⟩)
          | fail)
      all_goals (
        have z1 := Z1.out
        have z2 := Z2.out
        have iw := (by with_reducible exact And.left (by with_reducible assumption : InW w8 _ ∧ _))
        have hbF := Lib.hid (ENDB.out _ (below_tr HB8.out iw))
        go_wp2_with fail
        go_ret
        first
          | exact ⟨ret_b (by simp; exact Z3.out), hbF.out⟩
          | exact ⟨ret_b (by simp; rw [← Z3.out]), hbF.out⟩
          | exact ⟨rfl, hbF.out⟩
          | exact ⟨ret_b (by rw [z1, z2]; simp), hbF.out⟩
          | exact ⟨ret_b (by simp [z1, z2]), hbF.out⟩
          | exact ⟨ret_b (by rw [z1, z2, beq_self_eq_true]), hbF.out⟩))
end Go.Proofs.YtplghaoflmaadaaGreatDoor
end
