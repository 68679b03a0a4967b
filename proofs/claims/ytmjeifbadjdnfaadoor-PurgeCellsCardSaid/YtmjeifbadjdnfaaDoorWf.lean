/- Contracts of the reference's Add and Norm of cells. Condition: room (the row's own bound). -/
import Derived.Test.YtmjeifbadjdnfaaDoorWe
import Derived.Test.YtmjeifbadjdnfaaDoorKr
set_option linter.unusedVariables false
set_option linter.unusedSimpArgs false
set_option maxRecDepth 50000
namespace Go.Proofs.YtmjeifbadjdnfaaDoor
open Go.RowKit Go.Sort
open Go.Lib hiding intOf

def addC (c : Cel) (l : List Cel) : List Cel := (addR kcK joinP (toP c) false (l.map toP)).map ofP
theorem addR_len (c : Ky × Vr) : ∀ (l : List (Ky × Vr)) (d : Bool), (addR kcK joinP c d l).length ≤ l.length + 1
  | [], d => by cases d <;> simp [addR]
  | x :: r, d => by
    have h1 := addR_len c r true; have h2 := addR_len c r d
    have h3 : ∀ l : List (Ky × Vr), (addR kcK joinP c true l).length ≤ l.length := by
      intro l
      induction l with
      | nil => simp [addR]
      | cons y l ih =>
        rw [addR]
        split
        · simpa using ih
        · rw [if_neg (by simp)]; simpa using ih
    have h4 := h3 r
    rw [addR]
    split
    · simp only [List.length_cons]; omega
    · split <;> (simp only [List.length_cons]; omega)
theorem Blk.put46 {w : World} {g : Nat} {t : TypeId} {a0 a1 a2 a3 a4 a5 a6 a7 a8 a9 : Value} (h : Blk w g t #[a0, a1, a2, a3, a4, a5, a6, a7, a8, a9]) (u4 u5 u6 u7 u8 u9 : Value) :
    Blk ((((((w.setCell ⟨g, 4, none⟩ u4).setCell ⟨g, 5, none⟩ u5).setCell ⟨g, 6, none⟩ u6).setCell ⟨g, 7, none⟩ u7).setCell ⟨g, 8, none⟩ u8).setCell ⟨g, 9, none⟩ u9) g t #[a0, a1, a2, a3, u4, u5, u6, u7, u8, u9] := by
  have h4 : Blk (w.setCell ⟨g, 4, none⟩ u4) g t #[a0, a1, a2, a3, u4, a5, a6, a7, a8, a9] := h.put 4 u4
  have h5 : Blk ((w.setCell ⟨g, 4, none⟩ u4).setCell ⟨g, 5, none⟩ u5) g t #[a0, a1, a2, a3, u4, u5, a6, a7, a8, a9] := h4.put 5 u5
  have h6 : Blk (((w.setCell ⟨g, 4, none⟩ u4).setCell ⟨g, 5, none⟩ u5).setCell ⟨g, 6, none⟩ u6) g t #[a0, a1, a2, a3, u4, u5, u6, a7, a8, a9] := h5.put 6 u6
  have h7 : Blk ((((w.setCell ⟨g, 4, none⟩ u4).setCell ⟨g, 5, none⟩ u5).setCell ⟨g, 6, none⟩ u6).setCell ⟨g, 7, none⟩ u7) g t #[a0, a1, a2, a3, u4, u5, u6, u7, a8, a9] := h6.put 7 u7
  have h8 : Blk (((((w.setCell ⟨g, 4, none⟩ u4).setCell ⟨g, 5, none⟩ u5).setCell ⟨g, 6, none⟩ u6).setCell ⟨g, 7, none⟩ u7).setCell ⟨g, 8, none⟩ u8) g t #[a0, a1, a2, a3, u4, u5, u6, u7, u8, a9] := h7.put 8 u8
  have h9 : Blk ((((((w.setCell ⟨g, 4, none⟩ u4).setCell ⟨g, 5, none⟩ u5).setCell ⟨g, 6, none⟩ u6).setCell ⟨g, 7, none⟩ u7).setCell ⟨g, 8, none⟩ u8).setCell ⟨g, 9, none⟩ u9) g t #[a0, a1, a2, a3, u4, u5, u6, u7, u8, u9] := h8.put 9 u9
  exact h9
/-- At a statement's end the world is forgotten but for what is said of it. -/
theorem wp_gen {K : Act → World → Prop} {a : Act} {W : World} (R : World → Prop) (hR : R W) (h : ∀ w2, R w2 → K a w2) : K a W := h W hR

theorem gb_set {w w1 : World} {g : Nat} (h : w.grownBy w1 (some g)) (i : Nat) (u : Value) : w.grownBy (w1.setCell ⟨g, i, none⟩ u) (some g) :=
  ⟨h.os, h.tape, h.output, by simpa [World.setCell] using h.size, fun k hk hne => (Below.heap_setCell w1 ⟨g, i, none⟩ u k (fun e => hne (by rw [e]))).trans (h.block k hk hne)⟩
theorem two_room (acc : List Cel) (x y : Cel) (n : Nat) (h : acc.length + 2 ≤ n + 1) (hl : (n + 1) * 112 ≤ 140737488355328) :
    (acc ++ [x]).length + [y].length ≤ 9223372036854775807 ∧ ((acc ++ [x]).length + [y].length) * eC.bytes ≤ 140737488355328 ∧ (acc ++ [x] ++ [y]).length = acc.length + 2 := by
  have e : (acc ++ [x]).length + [y].length = acc.length + 2 := by simp
  rw [e]
  refine ⟨by omega, ?_, by simp⟩
  show (acc.length + 2) * 112 ≤ _
  omega
theorem addR_eq (c x : Ky × Vr) (r : List (Ky × Vr)) (d : Bool) (h : kcK x.1 c.1 = 0) : addR kcK joinP c d (x :: r) = (x.1, joinP x.2 c.2) :: addR kcK joinP c true r := by rw [addR, if_pos h]
theorem addR_gt (c x : Ky × Vr) (r : List (Ky × Vr)) (h : 0 < kcK x.1 c.1) : addR kcK joinP c false (x :: r) = c :: x :: addR kcK joinP c true r := by rw [addR, if_neg (by omega), if_pos ⟨h, rfl⟩]
theorem addR_gt' (c x : Ky × Vr) (r : List (Ky × Vr)) (h : 0 < kcK x.1 c.1) : addR kcK joinP c true (x :: r) = x :: addR kcK joinP c true r := by rw [addR, if_neg (by omega), if_neg (by simp)]
theorem addR_lt (c x : Ky × Vr) (r : List (Ky × Vr)) (d : Bool) (h : kcK x.1 c.1 < 0) : addR kcK joinP c d (x :: r) = x :: addR kcK joinP c d r := by rw [addR, if_neg (by omega), if_neg (by omega)]

set_option maxHeartbeats 8000000 in
theorem addC_any (v : Value) (L : List Cel) (c : Cel) (w : World) (hv : SlX eC w.heap.size w v L) (hl : Room (L.length + 1)) :
    Calls Tryd.prog 66 #[v, .agg (celEnc c).toArray] w fun e w' => ∃ v', e = .returned v' ∧ OwnX eC w' w.heap.size v' (addC c L) ∧ Below w.heap.size w w' := by
  have HV := Lib.hid hv
  obtain ⟨a, cap, rfl, hc, hx⟩ := hv.ex
  have HX := Lib.hid hx; clear hx hv
  unfold Room at hl
  have TC := Lib.hid (Blk.new w 35 (celEnc c).toArray)
  have B0 := Lib.hid (below_alloc (Below.refl _ w) (.cells (celEnc c).toArray 35))
  have CK := Lib.hid (fun (x : Cel) W => show Calls Tryd.prog 87 #[.agg #[.string x.k.t, .string x.k.p, .int .i64 x.k.r, .string x.k.c], .agg #[.string c.k.t, .string c.k.p, .int .i64 c.k.r, .string c.k.c]] W
      fun e w' => e = .returned (.int .i64 (kcK x.k c.k)) ∧ Below W.heap.size W w' by
    have := rCmp_any x.k.t x.k.p x.k.c c.k.t c.k.p c.k.c x.k.r c.k.r W
    rwa [kcmp_ref] at this)
  have JN := Lib.hid (fun (x : Cel) W => show Calls Tryd.prog 88 #[.agg (vrEnc x.v).toArray, .agg (vrEnc c.v).toArray] W fun e w' => e = .returned (.agg (vrEnc (joinP x.v c.v)).toArray) ∧ Below W.heap.size W w' by
    have := rJoin_any x.v c.v W
    rwa [join_eq] at this)
  have A1 := Lib.hid (fun (x : Cel) r d (h : kcK x.k c.k = 0) => addR_eq (toP c) (toP x) r d h)
  have A2 := Lib.hid (fun (x : Cel) r (h : 0 < kcK x.k c.k) => addR_gt (toP c) (toP x) r h)
  have A3 := Lib.hid (fun (x : Cel) r (h : 0 < kcK x.k c.k) => addR_gt' (toP c) (toP x) r h)
  have A4 := Lib.hid (fun (x : Cel) r d (h : kcK x.k c.k < 0) => addR_lt (toP c) (toP x) r d h)
  have A5 := Lib.hid (show addR kcK joinP (toP c) false [] = [c].map toP from rfl)
  have A6 := Lib.hid (show addR kcK joinP (toP c) true [] = ([] : List Cel).map toP from rfl)
  obtain ⟨FULL, hF⟩ : ∃ F, addR kcK joinP (toP c) false (L.map toP) = F := ⟨_, rfl⟩
  have DEF := Lib.hid (show addC c L = FULL.map ofP by unfold addC; rw [hF])
  have ST0 := Lib.hid hF
  obtain ⟨R, hR⟩ : ∃ R, addC c L = R := ⟨_, rfl⟩
  rw [hR] at DEF ⊢
  clear hR hF
  generalize addR kcK joinP (toP c) = AD at *
  obtain ⟨⟨t', p', r', q'⟩, ⟨tm', dd', lc', kd', nn', ss'⟩⟩ := c
  simp only [celEnc, vrEnc] at *
  go_enter Tryd.func66, Tryd.ntmps66
  go_wp2_with fail
  have HVW := Lib.hid (HV.out.keep B0.out)
  generalize hW0 : w.alloc (.cells #[.string t', .string p', .int .i64 r', .string q', .int .i64 tm', .bool dd', .int .i64 lc', .int .i64 kd', .int .i64 nn', .string ss'] 35) = W0 at *
  have HW0 := Lib.hid hW0
  clear hW0
  go_loopw [5, 6, 8, 9, 12] (fun v5 v6 _ _ v12 wr => ∃ (i : Nat) (acc : List Cel) (dn : Bool), v12 = .int .i64 (i : Int) ∧ v6 = .bool dn ∧ i ≤ L.length ∧ acc.length ≤ i + 1 ∧ Hid (FULL = acc.map toP ++ AD dn ((L.drop i).map toP) ∧ (dn = false → acc.length ≤ i)) ∧ OwnX eC wr W0.heap.size v5 acc ∧ Below W0.heap.size W0 wr) (fun _ _ _ _ v12 _ => L.length - (intOf v12).toNat)
  case atStart => exact ⟨0, [], false, rfl, rfl, by omega, by simp, Lib.hid ⟨ST0.out.symm, fun _ => by simp⟩, OwnX.nil _ _, Below.refl _ _⟩
  case round =>
    obtain ⟨i, acc, dn, rfl, rfl, hi, hai, HF, hO, hB⟩ := hrel
    have OW := Lib.hid hO; have HB := Lib.hid hB
    obtain ⟨e0, e1, e2, e3, e4, e5, e6, e7, e8, e9⟩ := Blk.ten (x := (⟨⟨t', p', r', q'⟩, ⟨tm', dd', lc', kd', nn', ss'⟩⟩ : Cel)) (TC.out.below hB)
    simp only [Nat.zero_add] at e0 e1 e2 e3 e4 e5 e6 e7 e8 e9
    clear hO hB
    by_cases hlt : i < L.length
    · have hz : (i : Int) < (L.length : Int) := by omega
      obtain ⟨gl, o, rfl, hgl2, _⟩ := HX.out (by omega)
      have ten := (Ten.of HVW.out i hlt).keep HB.out
      have hdrop : (L.drop i).map toP = toP L[i] :: (L.drop (i + 1)).map toP := by rw [List.drop_eq_getElem_cons hlt]; rfl
      have HF2 := Lib.hid (show FULL = acc.map toP ++ AD dn (toP L[i] :: (L.drop (i + 1)).map toP) by rw [← hdrop]; exact HF.out.1)
      have HD := Lib.hid HF.out.2
      clear hdrop HF
      generalize L[i] = x at *
      have CKX := Lib.hid (CK.out x); have JNX := Lib.hid (JN.out x)
      have N1 := Lib.hid (fun h => show FULL = (acc ++ [(⟨x.k, joinP x.v ⟨tm', dd', lc', kd', nn', ss'⟩⟩ : Cel)]).map toP ++ AD true ((L.drop (i + 1)).map toP) by rw [HF2.out, A1.out x _ dn h]; simp [toP])
      have N2 := Lib.hid (fun h (hd : dn = false) => show FULL = (acc ++ [(⟨⟨t', p', r', q'⟩, ⟨tm', dd', lc', kd', nn', ss'⟩⟩ : Cel)] ++ [x]).map toP ++ AD true ((L.drop (i + 1)).map toP) by rw [HF2.out, hd, A2.out x _ h]; simp)
      have N3 := Lib.hid (fun h (hd : dn = true) => show FULL = (acc ++ [x]).map toP ++ AD true ((L.drop (i + 1)).map toP) by rw [HF2.out, hd, A3.out x _ h]; simp)
      have N4 := Lib.hid (fun h => show FULL = (acc ++ [x]).map toP ++ AD dn ((L.drop (i + 1)).map toP) by rw [HF2.out, A4.out x _ dn h]; simp)
      generalize joinP x.v _ = jv at *
      generalize kcK x.k _ = kc at *
      obtain ⟨c0, c1, c2, c3, c4, c5, c6, c7, c8, c9⟩ := ten
      have hbk : Blk (wr.alloc (.cells (celEnc x).toArray 35)) wr.heap.size 35 (celEnc x).toArray := Blk.new wr _ _
      have BK := Lib.hid hbk
      have B1 := Lib.hid (below_al HB.out (.cells (celEnc x).toArray 35) HB.out.size)
      have O1 := Lib.hid (OW.out.alloc (.cells (celEnc x).toArray 35))
      have GLE := Lib.hid (show W0.heap.size ≤ wr.heap.size from HB.out.size)
      have NEX := Lib.hid (show u5.ownBlock = none ∨ u5.ownBlock ≠ some wr.heap.size from .inr fun e => Nat.lt_irrefl _ (World.ownsRow.lt OW.out _ e).2)
      have wlt : w.heap.size < wr.heap.size := (TC.out.below HB.out).lt
      clear hbk HF2
      obtain ⟨⟨t, p, r, q⟩, ⟨tm, dd, lc, kd, nn, ss⟩⟩ := x
      obtain ⟨j1, j2, j3, j4, j5, j6⟩ := jv
      simp only [celEnc, vrEnc] at *
      go_wp2_with fail
      clear c0 c1 c2 c3 c4 c5 c6 c7 c8 c9
      generalize hW1 : wr.alloc (.cells #[.string t, .string p, .int .i64 r, .string q, .int .i64 tm, .bool dd, .int .i64 lc, .int .i64 kd, .int .i64 nn, .string ss] 35) = W1 at *
      clear hW1
      generalize wr.heap.size = gx at *
      refine (CKX.out _).mono ?_
      rintro e w1 ⟨rfl, hb⟩
      have B2 := Lib.hid (Below.trans B1.out (Below.mono hb B1.out.size))
      have O2 := Lib.hid (O1.out.below hb)
      have BX2 := Lib.hid (BK.out.below hb)
      clear hb e0 e1 e2 e3 e4 e5 e6 e7 e8 e9
      obtain ⟨e0, e1, e2, e3, e4, e5, e6, e7, e8, e9⟩ := Blk.ten (x := (⟨⟨t', p', r', q'⟩, ⟨tm', dd', lc', kd', nn', ss'⟩⟩ : Cel)) (TC.out.below B2.out)
      obtain ⟨f0, f1, f2, f3, f4, f5, f6, f7, f8, f9⟩ := Blk.ten (x := (⟨⟨t, p, r, q⟩, ⟨tm, dd, lc, kd, nn, ss⟩⟩ : Cel)) BX2.out
      simp only [Nat.zero_add] at e0 e1 e2 e3 e4 e5 e6 e7 e8 e9
      simp only [Nat.zero_add] at f0 f1 f2 f3 f4 f5 f6 f7 f8 f9
      rcases Int.lt_trichotomy kc 0 with hk | hk | hk
      · have k1 : (kc == 0) = false := by simp; omega
        have k2 : ¬ 0 < kc := by omega
        have NX := Lib.hid (N4.out hk)
        clear N1 N2 N3 N4
        have BX3 := Lib.hid (below_al B2.out (.cells #[.string t, .string p, .int .i64 r, .string q, .int .i64 tm, .bool dd, .int .i64 lc, .int .i64 kd, .int .i64 nn, .string ss] 35) B2.out.size)
        have OX3 := Lib.hid (O2.out.alloc (.cells #[.string t, .string p, .int .i64 r, .string q, .int .i64 tm, .bool dd, .int .i64 lc, .int .i64 kd, .int .i64 nn, .string ss] 35))
        have SX3 := Lib.hid (SlX.lit (E := eC) w1 #[.string t, .string p, .int .i64 r, .string q, .int .i64 tm, .bool dd, .int .i64 lc, .int .i64 kd, .int .i64 nn, .string ss] [(⟨⟨t, p, r, q⟩, ⟨tm, dd, lc, kd, nn, ss⟩⟩ : Cel)] 1 1 rfl (by simp) (by simp [El.cells, eC, celEnc]))
        go_wp2_with (at_builtin; go_must (refine ap_x (E := eC) rfl (.tmp 39) (.tmp 41) rfl W0.heap.size u5 acc _ _ [(⟨⟨t, p, r, q⟩, ⟨tm, dd, lc, kd, nn, ss⟩⟩ : Cel)] rfl rfl SX3.out OX3.out BX3.out BX3.out.size (by simp; omega) (by simp [eC]; omega) ?_); intro v3 w3 hO3 hB3 hz3 hg3)
        have O3 := Lib.hid hO3; have B3 := Lib.hid hB3
        have G3 := Lib.hid hg3
        clear hO3 hB3 hz3 hg3
        exact ⟨⟨i + 1, _, dn, by first | rfl | go_num, rfl, by omega, by simp; omega, Lib.hid ⟨NX.out, fun h => by have := HD.out h; simp; omega⟩, O3.out, B3.out⟩, by simp [intOf]; omega⟩
      · subst hk
        have NX := Lib.hid (N1.out rfl)
        clear N1 N2 N3 N4
        go_wp2_with fail
        refine (JNX.out _).mono ?_
        rintro e w2 ⟨rfl, hb⟩
        have B3 := Lib.hid (Below.trans B2.out (Below.mono hb B2.out.size))
        have O3 := Lib.hid (O2.out.below hb)
        have BX3 := Lib.hid (BX2.out.below hb)
        have fz := BX3.out.frozen
        clear hb e0 e1 e2 e3 e4 e5 e6 e7 e8 e9 f0 f1 f2 f3 f4 f5 f6 f7 f8 f9
        obtain ⟨f0, f1, f2, f3, f4, f5, f6, f7, f8, f9⟩ := Blk.ten (x := (⟨⟨t, p, r, q⟩, ⟨tm, dd, lc, kd, nn, ss⟩⟩ : Cel)) BX3.out
        simp only [Nat.zero_add] at f0 f1 f2 f3 f4 f5 f6 f7 f8 f9
        go_upto_region 9 with (fail)
        refine wp_gen (fun w3 => Blk w3 gx 35 #[.string t, .string p, .int .i64 r, .string q, .int .i64 j1, .bool j2, .int .i64 j3, .int .i64 j4, .int .i64 j5, .string j6] ∧ w2.grownBy w3 (some gx)) ⟨BX3.out.put46 _ _ _ _ _ _, ?_⟩ ?_
        · exact gb_set (gb_set (gb_set (gb_set (gb_set (gb_set (World.grownBy.refl _ _) 4 _) 5 _) 6 _) 7 _) 8 _) 9 _
        · rintro w3 ⟨bx, hg⟩
          have B4 := Lib.hid (Below.grown B3.out hg B3.out.size (fun k hk => by injection hk with hk; subst hk; exact GLE.out))
          have O4 := Lib.hid (O3.out.grown hg NEX.out)
          clear f0 f1 f2 f3 f4 f5 f6 f7 f8 f9 hg fz
          obtain ⟨f0, f1, f2, f3, f4, f5, f6, f7, f8, f9⟩ := Blk.ten (x := (⟨⟨t, p, r, q⟩, ⟨j1, j2, j3, j4, j5, j6⟩⟩ : Cel)) bx
          simp only [Nat.zero_add] at f0 f1 f2 f3 f4 f5 f6 f7 f8 f9
          clear bx
          have BX5 := Lib.hid (below_al B4.out (.cells #[.string t, .string p, .int .i64 r, .string q, .int .i64 j1, .bool j2, .int .i64 j3, .int .i64 j4, .int .i64 j5, .string j6] 35) B4.out.size)
          have OX5 := Lib.hid (O4.out.alloc (.cells #[.string t, .string p, .int .i64 r, .string q, .int .i64 j1, .bool j2, .int .i64 j3, .int .i64 j4, .int .i64 j5, .string j6] 35))
          have SX5 := Lib.hid (SlX.lit (E := eC) w3 #[.string t, .string p, .int .i64 r, .string q, .int .i64 j1, .bool j2, .int .i64 j3, .int .i64 j4, .int .i64 j5, .string j6] [(⟨⟨t, p, r, q⟩, ⟨j1, j2, j3, j4, j5, j6⟩⟩ : Cel)] 1 1 rfl (by simp) (by simp [El.cells, eC, celEnc]))
          go_wp2_with (at_builtin; go_must (refine ap_x (E := eC) rfl (.tmp 39) (.tmp 41) rfl W0.heap.size u5 acc _ _ [(⟨⟨t, p, r, q⟩, ⟨j1, j2, j3, j4, j5, j6⟩⟩ : Cel)] rfl rfl SX5.out OX5.out BX5.out BX5.out.size (by simp; omega) (by simp [eC]; omega) ?_); intro v5 w5 hO5 hB5 hz5 hg5)
          have O5 := Lib.hid hO5; have B5 := Lib.hid hB5
          have G5 := Lib.hid hg5
          clear hO5 hB5 hz5 hg5
          exact ⟨⟨i + 1, _, true, by first | rfl | go_num, rfl, by omega, by simp; omega, Lib.hid ⟨NX.out, fun h => by cases h⟩, O5.out, B5.out⟩, by simp [intOf]; omega⟩
      · have k1 : (kc == 0) = false := by simp; omega
        cases dn with
        | true =>
          have NX := Lib.hid (N3.out hk rfl)
          clear N1 N2 N3 N4
          have BX3 := Lib.hid (below_al B2.out (.cells #[.string t, .string p, .int .i64 r, .string q, .int .i64 tm, .bool dd, .int .i64 lc, .int .i64 kd, .int .i64 nn, .string ss] 35) B2.out.size)
          have OX3 := Lib.hid (O2.out.alloc (.cells #[.string t, .string p, .int .i64 r, .string q, .int .i64 tm, .bool dd, .int .i64 lc, .int .i64 kd, .int .i64 nn, .string ss] 35))
          have SX3 := Lib.hid (SlX.lit (E := eC) w1 #[.string t, .string p, .int .i64 r, .string q, .int .i64 tm, .bool dd, .int .i64 lc, .int .i64 kd, .int .i64 nn, .string ss] [(⟨⟨t, p, r, q⟩, ⟨tm, dd, lc, kd, nn, ss⟩⟩ : Cel)] 1 1 rfl (by simp) (by simp [El.cells, eC, celEnc]))
          go_wp2_with (at_builtin; go_must (refine ap_x (E := eC) rfl (.tmp 39) (.tmp 41) rfl W0.heap.size u5 acc _ _ [(⟨⟨t, p, r, q⟩, ⟨tm, dd, lc, kd, nn, ss⟩⟩ : Cel)] rfl rfl SX3.out OX3.out BX3.out BX3.out.size (by simp; omega) (by simp [eC]; omega) ?_); intro v3 w3 hO3 hB3 hz3 hg3)
          have O3 := Lib.hid hO3; have B3 := Lib.hid hB3
          have G3 := Lib.hid hg3
          clear hO3 hB3 hz3 hg3
          exact ⟨⟨i + 1, _, true, by first | rfl | go_num, rfl, by omega, by simp; omega, Lib.hid ⟨NX.out, fun h => by cases h⟩, O3.out, B3.out⟩, by simp [intOf]; omega⟩
        | false =>
          have NX := Lib.hid (N2.out hk rfl)
          have hal : acc.length ≤ i := HD.out rfl
          have LL := Lib.hid (two_room acc (⟨⟨t', p', r', q'⟩, ⟨tm', dd', lc', kd', nn', ss'⟩⟩ : Cel) (⟨⟨t, p, r, q⟩, ⟨tm, dd, lc, kd, nn, ss⟩⟩ : Cel) L.length (by omega) hl)
          clear N1 N2 N3 N4
          have BX3 := Lib.hid (below_al B2.out (.cells #[.string t', .string p', .int .i64 r', .string q', .int .i64 tm', .bool dd', .int .i64 lc', .int .i64 kd', .int .i64 nn', .string ss'] 35) B2.out.size)
          have OX3 := Lib.hid (O2.out.alloc (.cells #[.string t', .string p', .int .i64 r', .string q', .int .i64 tm', .bool dd', .int .i64 lc', .int .i64 kd', .int .i64 nn', .string ss'] 35))
          have SX3 := Lib.hid (SlX.lit (E := eC) w1 #[.string t', .string p', .int .i64 r', .string q', .int .i64 tm', .bool dd', .int .i64 lc', .int .i64 kd', .int .i64 nn', .string ss'] [(⟨⟨t', p', r', q'⟩, ⟨tm', dd', lc', kd', nn', ss'⟩⟩ : Cel)] 1 1 rfl (by simp) (by simp [El.cells, eC, celEnc]))
          go_upto_region 12 with (at_builtin; go_must (refine ap_x (E := eC) rfl (.tmp 35) (.tmp 37) rfl W0.heap.size u5 acc _ _ [(⟨⟨t', p', r', q'⟩, ⟨tm', dd', lc', kd', nn', ss'⟩⟩ : Cel)] rfl rfl SX3.out OX3.out BX3.out BX3.out.size (by simp; omega) (by simp [eC]; omega) ?_); intro v3 w3 hO3 hB3 hz3 hg3)
          have O3 := Lib.hid hO3; have B3 := Lib.hid hB3
          have G3 := Lib.hid hg3
          clear hO3 hB3 hz3 hg3
          have BX6 := Lib.hid ((BX2.out.alloc (.cells #[.string t', .string p', .int .i64 r', .string q', .int .i64 tm', .bool dd', .int .i64 lc', .int .i64 kd', .int .i64 nn', .string ss'] 35)).grown G3.out (fun e => by rcases NEX.out with h | h <;> simp_all))
          clear e0 e1 e2 e3 e4 e5 e6 e7 e8 e9 f0 f1 f2 f3 f4 f5 f6 f7 f8 f9
          obtain ⟨f0, f1, f2, f3, f4, f5, f6, f7, f8, f9⟩ := Blk.ten (x := (⟨⟨t, p, r, q⟩, ⟨tm, dd, lc, kd, nn, ss⟩⟩ : Cel)) BX6.out
          simp only [Nat.zero_add] at f0 f1 f2 f3 f4 f5 f6 f7 f8 f9
          clear G3
          have BX5 := Lib.hid (below_al B3.out (.cells #[.string t, .string p, .int .i64 r, .string q, .int .i64 tm, .bool dd, .int .i64 lc, .int .i64 kd, .int .i64 nn, .string ss] 35) B3.out.size)
          have OX5 := Lib.hid (O3.out.alloc (.cells #[.string t, .string p, .int .i64 r, .string q, .int .i64 tm, .bool dd, .int .i64 lc, .int .i64 kd, .int .i64 nn, .string ss] 35))
          have SX5 := Lib.hid (SlX.lit (E := eC) w3 #[.string t, .string p, .int .i64 r, .string q, .int .i64 tm, .bool dd, .int .i64 lc, .int .i64 kd, .int .i64 nn, .string ss] [(⟨⟨t, p, r, q⟩, ⟨tm, dd, lc, kd, nn, ss⟩⟩ : Cel)] 1 1 rfl (by simp) (by simp [El.cells, eC, celEnc]))
          go_wp2_with (at_builtin; go_must (refine ap_x (E := eC) rfl (.tmp 39) (.tmp 41) rfl W0.heap.size v3 _ _ _ [(⟨⟨t, p, r, q⟩, ⟨tm, dd, lc, kd, nn, ss⟩⟩ : Cel)] rfl rfl SX5.out OX5.out BX5.out BX5.out.size LL.out.1 LL.out.2.1 ?_); intro v5 w5 hO5 hB5 hz5 hg5)
          have O5 := Lib.hid hO5; have B5 := Lib.hid hB5
          have LE := Lib.hid (show (acc ++ [(⟨⟨t', p', r', q'⟩, ⟨tm', dd', lc', kd', nn', ss'⟩⟩ : Cel)] ++ [(⟨⟨t, p, r, q⟩, ⟨tm, dd, lc, kd, nn, ss⟩⟩ : Cel)]).length ≤ i + 1 + 1 from by rw [LL.out.2.2]; exact Nat.add_le_add_right hal 2)
          clear hO5 hB5 hz5 hg5
          exact ⟨⟨i + 1, _, true, by first | rfl | go_num, rfl, hlt, LE.out, Lib.hid ⟨NX.out, fun h => by cases h⟩, O5.out, B5.out⟩, by simp [intOf]; omega⟩
    · have hz : ¬ (i : Int) < (L.length : Int) := by omega
      have e : L.drop i = [] := List.drop_eq_nil_of_le (by omega)
      have hF := HF.out.1
      rw [e] at hF
      cases dn with
      | true =>
        have FIN := Lib.hid (show R = acc by rw [DEF.out, hF, show AD true (([] : List Cel).map toP) = _ from A6.out]; simp only [List.map_nil, List.append_nil, map_of_toP])
        clear hF e HF
        rcases OW.out.form with ⟨rfl, _⟩ | ⟨g7, cp7, rfl, _⟩
        all_goals
          go_wp2_with fail
          go_ret
          exact ⟨_, rfl, by rw [FIN.out]; exact OwnX.weaken OW.out B0.out.size, Below.trans B0.out (Below.mono HB.out B0.out.size)⟩
      | false =>
        have hal : acc.length ≤ i := HF.out.2 rfl
        have FIN := Lib.hid (show R = acc ++ [(⟨⟨t', p', r', q'⟩, ⟨tm', dd', lc', kd', nn', ss'⟩⟩ : Cel)] by rw [DEF.out, hF, show AD false (([] : List Cel).map toP) = _ from A5.out]; rw [List.map_append, map_of_toP, map_of_toP])
        clear hF e HF
        rcases OW.out.form with ⟨rfl, _⟩ | ⟨g7, cp7, rfl, _⟩
        all_goals
          have BX3 := Lib.hid (below_al HB.out (.cells #[.string t', .string p', .int .i64 r', .string q', .int .i64 tm', .bool dd', .int .i64 lc', .int .i64 kd', .int .i64 nn', .string ss'] 35) HB.out.size)
          have OX3 := Lib.hid (OW.out.alloc (.cells #[.string t', .string p', .int .i64 r', .string q', .int .i64 tm', .bool dd', .int .i64 lc', .int .i64 kd', .int .i64 nn', .string ss'] 35))
          have SX3 := Lib.hid (SlX.lit (E := eC) wr #[.string t', .string p', .int .i64 r', .string q', .int .i64 tm', .bool dd', .int .i64 lc', .int .i64 kd', .int .i64 nn', .string ss'] [(⟨⟨t', p', r', q'⟩, ⟨tm', dd', lc', kd', nn', ss'⟩⟩ : Cel)] 1 1 rfl (by simp) (by simp [El.cells, eC, celEnc]))
          go_wp2_with (at_builtin; go_must (refine ap_x (E := eC) rfl (.tmp 46) (.tmp 48) rfl W0.heap.size _ acc _ _ [(⟨⟨t', p', r', q'⟩, ⟨tm', dd', lc', kd', nn', ss'⟩⟩ : Cel)] rfl rfl SX3.out OX3.out BX3.out BX3.out.size (by simp; omega) (by simp [eC]; omega) ?_); intro v3 w3 hO3 hB3 hz3 hg3)
          have O3 := Lib.hid hO3; have B3 := Lib.hid hB3
          have G3 := Lib.hid hg3
          clear hO3 hB3 hz3 hg3
          go_ret
          exact ⟨_, rfl, by rw [FIN.out]; exact OwnX.weaken O3.out B0.out.size, Below.trans B0.out (Below.mono B3.out B0.out.size)⟩
end Go.Proofs.YtmjeifbadjdnfaaDoor
