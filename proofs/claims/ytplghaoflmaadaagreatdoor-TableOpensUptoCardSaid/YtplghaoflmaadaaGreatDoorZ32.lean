/- Contract of the reference's Cells. Conditions: the row's own bounds. Plain laws: which texts are names (the program's way and the reference's are one). No program in sight; no condition. The contract of the reference's Write of tables at good cells. Conditions: sizes; room. -/
import Derived.Test.YtplghaoflmaadaaGreatDoorZ21
import Derived.Test.YtplghaoflmaadaaGreatDoorZ20
import Derived.Test.YtplghaoflmaadaaGreatDoorZ23
import Derived.Test.YtplghaoflmaadaaGreatDoorZ09
section
set_option linter.unusedVariables false
set_option linter.unusedSimpArgs false
set_option maxRecDepth 50000
namespace Go.Proofs.YtplghaoflmaadaaGreatDoor
open Go.RowKit

/-- What is written, beside a cell's variable. -/
structure CR (w0 : World) (g5 : Nat) (x : Cel) (W : World) (v : Value) (l : List UInt8) : Prop where
  own : OwnB W w0.heap.size v l
  k5 : Blk W g5 61 (celEnc x).toArray
  bel : Below w0.heap.size w0 W
/-- .. and its version's -/
structure CS (w0 : World) (g6 : Nat) (x : Cel) (W : World) (v : Value) (l : List UInt8) : Prop where
  own : OwnB W w0.heap.size v l
  k6 : Blk W g6 49 (vrEnc x.v).toArray
  bel : Below w0.heap.size w0 W
section
variable {w0 W W1 : World} {g5 g6 : Nat} {x : Cel} {v v1 : Value} {l l1 : List UInt8}
theorem CR.drew (h : CR w0 g5 x W v l) : CR w0 g5 x W.drew v l := ⟨h.own.drew, h.k5.drew, h.bel.drew⟩
theorem CS.drew (h : CS w0 g6 x W v l) : CS w0 g6 x W.drew v l := ⟨h.own.drew, h.k6.drew, h.bel.drew⟩
theorem CS.alloc (h : CS w0 g6 x W v l) (o : Obj) : CS w0 g6 x (W.alloc o) v l := ⟨h.own.alloc o, h.k6.alloc o, below_al h.bel o h.bel.size⟩
theorem CS.grow (h : CS w0 g6 x W v l) (ho : OwnB W1 w0.heap.size v1 l1) (hg : GrowV W W1 v v1) : CS w0 g6 x W1 v1 l1 :=
  ⟨ho, h.k6.growV (own_eB.2 h.own) hg (by decide), h.bel.trans (hg.below h.bel.size h.own.base)⟩
def RetR (w0 : World) (g5 : Nat) (x : Cel) (l : List UInt8) (e : Ending) (w' : World) : Prop := ∃ v, e = .returned v ∧ CR w0 g5 x w' v l
def RetS (w0 : World) (g6 : Nat) (x : Cel) (l : List UInt8) (e : Ending) (w' : World) : Prop := ∃ v, e = .returned v ∧ CS w0 g6 x w' v l
theorem CR.put (h : CR w0 g5 x W v l) (u : Nat) (hu : u < 18446744073709551616) (hl : l.length ≤ 10000000) : Calls Tryz.prog 50 #[v, .int .u64 (u : Int)] W (RetR w0 g5 x (l ++ putL u)) :=
  (rPut_any w0.heap.size v l u W h.own hu (by omega)).mono fun e w' ⟨v', he, ho, hb⟩ => ⟨v', he, ho.weaken h.bel.size, h.k5.below hb, h.bel.trans (hb.mono h.bel.size)⟩
theorem CR.text (h : CR w0 g5 x W v l) (s : ByteArray) (hs : s.size ≤ 1000000) (hl : l.length ≤ 10000000) : Calls Tryz.prog 48 #[v, .string s] W (RetR w0 g5 x (l ++ textL s.toList)) :=
  (rPutText_any w0.heap.size v l s W h.own hs hl).mono fun e w' ⟨v', he, ho, hb⟩ => ⟨v', he, ho.weaken h.bel.size, h.k5.below hb, h.bel.trans (hb.mono h.bel.size)⟩
theorem CS.put (h : CS w0 g6 x W v l) (u : Nat) (hu : u < 18446744073709551616) (hl : l.length ≤ 10000000) : Calls Tryz.prog 50 #[v, .int .u64 (u : Int)] W (RetS w0 g6 x (l ++ putL u)) :=
  (rPut_any w0.heap.size v l u W h.own hu (by omega)).mono fun e w' ⟨v', he, ho, hb⟩ => ⟨v', he, ho.weaken h.bel.size, h.k6.below hb, h.bel.trans (hb.mono h.bel.size)⟩
theorem CS.text (h : CS w0 g6 x W v l) (s : ByteArray) (hs : s.size ≤ 1000000) (hl : l.length ≤ 10000000) : Calls Tryz.prog 48 #[v, .string s] W (RetS w0 g6 x (l ++ textL s.toList)) :=
  (rPutText_any w0.heap.size v l s W h.own hs hl).mono fun e w' ⟨v', he, ho, hb⟩ => ⟨v', he, ho.weaken h.bel.size, h.k6.below hb, h.bel.trans (hb.mono h.bel.size)⟩
end
set_option maxHeartbeats 4000000 in
theorem rCells_any (v : Value) (L : List Cel) (w : World) (hv : SlX eC w.heap.size w v L) (hin : ∀ c ∈ L, CelIn c) (hl : (L.flatMap cellL).length ≤ 1000000) (hn : L.length ≤ 1000000) :
    Calls Tryz.prog 46 #[v] w (RetB w.heap.size w (cellsL L)) := by
  have HV := Lib.hid hv
  obtain ⟨a, cap, rfl, hc, hx⟩ := hv.ex
  have HX := Lib.hid hx; clear hx hv
  have C0 := Lib.hid (rPut_any w.heap.size (.slice none 0 0) [] L.length w (OwnB.nil _ _) (by omega) (by simp))
  have hW : IntKind.u64.wrap (L.length : Int) = (L.length : Int) := by rw [wu64]; omega
  have hpl := putL_len 9 L.length (by omega)
  unfold cellsL
  have HIN := Lib.hid hin; have HL := Lib.hid hl; have HPL := Lib.hid hpl
  clear hin hl hpl
  go_enter Tryz.func46, Tryz.ntmps46
  go_wp2_with fail
  refine C0.out.mono ?_
  rintro e w1 ⟨v1, rfl, hO1, hB1⟩
  rw [List.nil_append] at hO1
  have HO1 := Lib.hid hO1; have HB1 := Lib.hid hB1
  clear hO1 hB1 C0 hW
  generalize putL L.length = pl at *
  go_wp2_with fail
  go_loopw [3, 13] (fun v3 v14 wr => ∃ i : Nat, v14 = .int .i64 (i : Int) ∧ i ≤ L.length ∧ OwnB wr w.heap.size v3 (pl ++ (L.take i).flatMap cellL) ∧ Below w.heap.size w wr) (fun _ v14 _ => L.length - (intOf v14).toNat)
  case atStart => exact ⟨0, rfl, by omega, by simpa using HO1.out, HB1.out⟩
  case round =>
    clear HO1 HB1
    obtain ⟨i, rfl, hi, hO, hB⟩ := hrel
    have HO := Lib.hid hO; have HB := Lib.hid hB; clear hO hB
    by_cases hlt : i < L.length
    · have hz : (i : Int) < (L.length : Int) := by omega
      obtain ⟨gl, o, rfl, hgl2, _⟩ := HX.out (by omega)
      have ten := (Ten.of HV.out i hlt)
      have ten := Ten.keep ten HB.out
      have hxin := HIN.out L[i] (List.getElem_mem hlt)
      have htk : (L.take (i + 1)).flatMap cellL = (L.take i).flatMap cellL ++ cellL L[i] := by rw [List.take_succ_eq_append_getElem hlt, List.flatMap_append, List.flatMap_singleton]
      have hlen : ((L.take i).flatMap cellL).length + (cellL L[i]).length ≤ 1000000 := by
        have h1 : (L.flatMap cellL) = (L.take (i + 1)).flatMap cellL ++ (L.drop (i + 1)).flatMap cellL := by rw [← List.flatMap_append, List.take_append_drop]
        have h2 := HL.out
        rw [h1, htk, List.length_append, List.length_append] at h2
        omega
      generalize L[i] = x at *
      have HTK := Lib.hid htk; clear htk
      generalize hpre : pl ++ (L.take i).flatMap cellL = pre at *
      have hprel : pre.length ≤ 1000010 - (cellL x).length := by rw [← hpre, List.length_append]; have := HPL.out; omega
      have HPRE := Lib.hid hpre; clear hpre
      obtain ⟨⟨t, p, r, q⟩, ⟨tm, dd, lc, kd, nn, ss⟩⟩ := x
      obtain ⟨i1, i2, i3, i4, i5⟩ := hxin
      simp only at i1 i2 i3 i4 i5
      obtain ⟨c0, c1, c2, c3, c4, c5, c6, c7, c8, c9⟩ := ten
      simp only at c0 c1 c2 c3 c4 c5 c6 c7 c8 c9
      have hcl : cellL ⟨⟨t, p, r, q⟩, ⟨tm, dd, lc, kd, nn, ss⟩⟩ = textL t.toList ++ textL p.toList ++ putL (zigN r) ++ textL q.toList ++ verL ⟨tm, dd, lc, kd, nn, ss⟩ := rfl
      have hvl : verL ⟨tm, dd, lc, kd, nn, ss⟩ = putL (zigN tm) ++ (if dd = true then 1 :: putL (zigN lc) else 0 :: (putL (u64N kd) ++ putL (zigN nn) ++ textL ss.toList)) := rfl
      rw [hcl] at hprel hlen
      rw [hvl] at hprel hlen
      have z1 := zigN_lt r i1; have z2 := zigN_lt tm i2; have z3 := zigN_lt lc i3; have z4 := u64N_lt kd; have z5 := zigN_lt nn i5
      have y1 := putL_len 9 _ (show zigN r < 128 ^ 10 by omega); have y2 := putL_len 9 _ (show zigN tm < 128 ^ 10 by omega); have y3 := putL_len 9 _ (show zigN lc < 128 ^ 10 by omega); have y4 := putL_len 9 _ (show u64N kd < 128 ^ 10 by omega); have y5 := putL_len 9 _ (show zigN nn < 128 ^ 10 by omega)
      have ts : ∀ s : ByteArray, (textL s.toList).length ≤ 1000000 → s.size ≤ 1000000 := fun s h => by unfold textL at h; rw [List.length_append, str_len] at h; omega
      simp only [List.length_append] at hprel hlen
      have s1 := ts t (by omega); have s2 := ts p (by omega); have s3 := ts q (by omega)
      have s4 : dd = false → ss.size ≤ 1000000 := fun h => ts ss (by rw [h] at hlen; simp at hlen; omega)
      have b0 : pre.length ≤ 1000010 := by omega
      have b1 : (pre ++ textL t.toList).length ≤ 2000010 := by rw [List.length_append]; omega
      have b2 : (pre ++ textL t.toList ++ textL p.toList).length ≤ 3000010 := by rw [List.length_append]; omega
      have b3 : (pre ++ textL t.toList ++ textL p.toList ++ putL (zigN r)).length ≤ 4000010 := by rw [List.length_append]; omega
      have b4 : (pre ++ textL t.toList ++ textL p.toList ++ putL (zigN r) ++ textL q.toList).length ≤ 5000010 := by rw [List.length_append]; omega
      have b5 : (pre ++ textL t.toList ++ textL p.toList ++ putL (zigN r) ++ textL q.toList ++ putL (zigN tm)).length ≤ 6000010 := by rw [List.length_append]; omega
      clear ts hcl hvl hprel hlen ten y1 y2
      generalize hx : (⟨⟨t, p, r, q⟩, ⟨tm, dd, lc, kd, nn, ss⟩⟩ : Cel) = x at *
      have hk : (celEnc x).toArray = #[.string t, .string p, .int .i64 r, .string q, .int .i64 tm, .bool dd, .int .i64 lc, .int .i64 kd, .int .i64 nn, .string ss] := by subst hx; rfl
      have hvv : (vrEnc x.v).toArray = #[.int .i64 tm, .bool dd, .int .i64 lc, .int .i64 kd, .int .i64 nn, .string ss] := by subst hx; rfl
      have HX2 := Lib.hid hx; clear hx
      have HK := Lib.hid hk; have HVV := Lib.hid hvv; clear hk hvv
      have T1 := Lib.hid (fun g5 W v (h : CR w g5 x W v pre) => h.text t s1 (by omega))
      have T2 := Lib.hid (fun g5 W v (h : CR w g5 x W v (pre ++ textL t.toList)) => h.text p s2 (by omega))
      have T3 := Lib.hid (fun g5 W v (h : CR w g5 x W v (pre ++ textL t.toList ++ textL p.toList)) => h.put (zigN r) z1 (by omega))
      have T4 := Lib.hid (fun g5 W v (h : CR w g5 x W v (pre ++ textL t.toList ++ textL p.toList ++ putL (zigN r))) => h.text q s3 (by omega))
      have T5 := Lib.hid (fun g6 W v (h : CS w g6 x W v (pre ++ textL t.toList ++ textL p.toList ++ putL (zigN r) ++ textL q.toList)) => h.put (zigN tm) z2 (by omega))
      have Z1 := Lib.hid (fun W => rZig_any r i1 W); have Z2 := Lib.hid (fun W => rZig_any tm i2 W)
      have B5 := Lib.hid b5
      clear b0 b1 b2 b3 b4 b5 s1 s2 s3 z1 z2 i1 i2
      have cr : CR w wr.heap.size x (wr.alloc (.cells #[.string t, .string p, .int .i64 r, .string q, .int .i64 tm, .bool dd, .int .i64 lc, .int .i64 kd, .int .i64 nn, .string ss] 61)) u3 pre := by
        rw [← HK.out]
        exact ⟨HO.out.alloc _, Blk.new _ _ _, below_al HB.out _ HB.out.size⟩
      have CR0 := Lib.hid cr; clear cr
      have K5 : ∀ W v l, CR w wr.heap.size x W v l → (W.cell? ⟨wr.heap.size, 0, none⟩ = some (.string t) ∧ W.cell? ⟨wr.heap.size, 1, none⟩ = some (.string p) ∧ W.cell? ⟨wr.heap.size, 2, none⟩ = some (.int .i64 r) ∧ W.cell? ⟨wr.heap.size, 3, none⟩ = some (.string q)) := fun W v l h => by
        have := h.k5; rw [HK.out] at this
        exact ⟨this.cell 0 rfl, this.cell 1 rfl, this.cell 2 rfl, this.cell 3 rfl⟩
      have S5 := Lib.hid K5; clear K5
      go_wp2_with fail
      generalize hW2 : wr.alloc (.cells #[.string t, .string p, .int .i64 r, .string q, .int .i64 tm, .bool dd, .int .i64 lc, .int .i64 kd, .int .i64 nn, .string ss] 61) = W2 at *
      clear hW2 c0 c1 c2 c3 c4 c5 c6 c7 c8 c9
      generalize wr.heap.size = g5 at *
      obtain ⟨e0, e1, e2, e3⟩ := S5.out _ _ _ CR0.out
      go_cut [3] (fun s3 wx => CR w g5 x wx s3 (pre ++ textL t.toList ++ textL p.toList))
      case first =>
        go_region_held3 (fun w' => w'.cell? ⟨g5, 0, none⟩ = some (.string t) ∧ w'.cell? ⟨g5, 1, none⟩ = some (.string p))
          (first | with_reducible assumption | exact ⟨(S5.out _ _ _ (CR.drew CR0.out)).1, (S5.out _ _ _ (CR.drew CR0.out)).2.1⟩ | exact ⟨(S5.out _ _ _ (by with_reducible assumption)).1, (S5.out _ _ _ (by with_reducible assumption)).2.1⟩)
          (first
            | (go_at_call_of 48 t; refine (T1.out g5 _ _ (CR.drew CR0.out)).mono ?_; rintro e w' ⟨v, rfl, ck1⟩)
            | (go_at_call_of 48 p; refine (T2.out g5 _ _ (by with_reducible assumption)).mono ?_; rintro e w' ⟨v, rfl, ck2⟩))
        all_goals (go_wp2_with fail; go_meet; case rel => with_reducible assumption)
      case rest =>
        have CR1 := Lib.hid hcut; clear hcut e0 e1 e2 e3 CR0 T1 T2
        obtain ⟨e0, e1, e2, e3⟩ := S5.out _ _ _ CR1.out
        go_wp2_with fail
        go_cut [3] (fun s3 wx => CR w g5 x wx s3 (pre ++ textL t.toList ++ textL p.toList ++ putL (zigN r) ++ textL q.toList))
        case first =>
          go_region_held3 (fun w' => w'.cell? ⟨g5, 2, none⟩ = some (.int .i64 r) ∧ w'.cell? ⟨g5, 3, none⟩ = some (.string q))
            (first | with_reducible assumption | exact (S5.out _ _ _ (CR.drew CR1.out)).2.2 | exact (S5.out _ _ _ (by with_reducible assumption)).2.2)
            (first
              | (go_at_call 90; refine (Z1.out _).mono ?_; rintro e w' ⟨rfl, rfl⟩)
              | (go_at_call 50; refine (T3.out g5 _ _ (CR.drew CR1.out)).mono ?_; rintro e w' ⟨v, rfl, ck3⟩)
              | (go_at_call 48; refine (T4.out g5 _ _ (by with_reducible assumption)).mono ?_; rintro e w' ⟨v, rfl, ck4⟩))
          all_goals (go_wp2_with fail; go_meet; case rel => with_reducible assumption)
        case rest =>
          have CR2 := Lib.hid hcut; clear e0 e1 e2 e3 T3 T4 Z1 S5
          have k5 := hcut.k5; rw [HK.out] at k5
          have f4 := k5.cell 4 rfl; have f5 := k5.cell 5 rfl; have f6 := k5.cell 6 rfl; have f7 := k5.cell 7 rfl; have f8 := k5.cell 8 rfl; have f9 := k5.cell 9 rfl
          clear hcut k5
          have cs0 : CS w wc.heap.size x (wc.alloc (.cells #[.int .i64 tm, .bool dd, .int .i64 lc, .int .i64 kd, .int .i64 nn, .string ss] 49)) u3 (pre ++ textL t.toList ++ textL p.toList ++ putL (zigN r) ++ textL q.toList) := by
            rw [← HVV.out]
            exact ⟨CR2.out.own.alloc _, Blk.new _ _ _, below_al CR2.out.bel _ CR2.out.bel.size⟩
          have CS0 := Lib.hid cs0; clear cs0
          have K7 : ∀ g7 W v l, CS w g7 x W v l → (W.cell? ⟨g7, 0, none⟩ = some (.int .i64 tm) ∧ W.cell? ⟨g7, 1, none⟩ = some (.bool dd) ∧ W.cell? ⟨g7, 2, none⟩ = some (.int .i64 lc) ∧ W.cell? ⟨g7, 3, none⟩ = some (.int .i64 kd) ∧ W.cell? ⟨g7, 4, none⟩ = some (.int .i64 nn) ∧ W.cell? ⟨g7, 5, none⟩ = some (.string ss)) := fun g7 W v l h => by
            have := h.k6; rw [HVV.out] at this
            exact ⟨this.cell 0 rfl, this.cell 1 rfl, this.cell 2 rfl, this.cell 3 rfl, this.cell 4 rfl, this.cell 5 rfl⟩
          have S7 := Lib.hid K7; clear K7
          go_wp2_with fail
          refine (Z2.out _).mono ?_
          rintro e w' ⟨rfl, rfl⟩
          go_wp2_with fail
          refine (T5.out _ _ _ CS0.out).mono ?_
          rintro e w2 ⟨v2, rfl, ck2⟩
          clear f4 f5 f6 f7 f8 f9 T5 Z2 CS0 CR2
          generalize wc.heap.size = g7 at *
          obtain ⟨d0, d1, d2, d3, d4, d5⟩ := S7.out _ _ _ _ ck2
          have hver : verL x.v = putL (zigN tm) ++ (if dd = true then 1 :: putL (zigN lc) else 0 :: (putL (u64N kd) ++ putL (zigN nn) ++ textL ss.toList)) := by rw [← HX2.out]; rfl
          generalize hP5 : pre ++ textL t.toList ++ textL p.toList ++ putL (zigN r) ++ textL q.toList ++ putL (zigN tm) = P5 at *
          have b5 := B5.out
          have hN : ∀ wx s3 tl, CS w g7 x wx s3 (P5 ++ tl) → verL x.v = putL (zigN tm) ++ tl → OwnB wx w.heap.size s3 (pl ++ (L.take (i + 1)).flatMap cellL) := fun wx s3 tl h he => by
            have h1 := h.own
            rw [HTK.out, ← List.append_assoc, HPRE.out]
            rw [← hP5] at h1
            rw [← HX2.out] at he ⊢
            simp only [cellL] at he ⊢
            rw [he]
            simp only [List.append_assoc] at h1 ⊢
            exact h1
          have HN := Lib.hid hN; have HVER := Lib.hid hver
          clear hN hver hP5 B5
          have CK2 := Lib.hid ck2; clear ck2
          cases dd with
          | true =>
            have D7 := Lib.hid (fun W v l (h : CS w g7 x W v l) => (S7.out _ _ _ _ h).2.2.1)
            have T6 := Lib.hid (fun W v (h : CS w g7 x W v (P5 ++ [1])) => h.put (zigN lc) z3 (by simp; omega))
            have Z3 := Lib.hid (fun W => rZig_any lc i3 W)
            have hb : P5.length + ([1] : List UInt8).length ≤ 140737488355328 := by simp; omega
            clear z3 z4 z5 y3 y4 y5 s4 i3 i4 i5 b5
            go_wp2_with fail
            go_region_held3 (fun w' => w'.cell? ⟨g7, 2, none⟩ = some (.int .i64 lc))
              (first | with_reducible assumption | exact D7.out _ _ _ (CS.drew CK2.out) | exact D7.out _ _ _ (CS.alloc (CS.drew CK2.out) _) | exact D7.out _ _ _ (by with_reducible assumption))
              (first
                | (refine st_gl (by rfl) (.tmp 45) (.tmp 46) (by rfl) w.heap.size _ P5 [1] #[.int .u8 1] 1 1 (by rfl) (by rfl) (by rfl) (by simp) (by rfl) (CS.drew CK2.out).own (CS.drew CK2.out).bel.size hb ?_; intro v3 w3 hO3 hG3; have ck3 := CS.grow (CS.drew CK2.out) hO3 hG3)
                | (go_at_call 90; refine (Z3.out _).mono ?_; rintro e w' ⟨rfl, rfl⟩)
                | (go_at_call 50; refine (T6.out _ _ (by with_reducible assumption)).mono ?_; rintro e w' ⟨v, rfl, ck4⟩))
            all_goals
              have CK4 := Lib.hid ck4; clear ck3 ck4
              go_wp2_with fail
              go_roundw
              case rel => exact ⟨i + 1, by go_num, by omega, HN.out _ _ ([1] ++ putL (zigN lc)) (by rw [← List.append_assoc]; exact CK4.out) (by rw [HVER.out]; rfl), CK4.out.bel⟩
              case measure => (first | (simp [intOf]; done) | (simp [intOf]; omega))
          | false =>
            have D8 := Lib.hid (fun W v l (h : CS w g7 x W v l) => (S7.out _ _ _ _ h).2.2.2)
            have hkd := kind_wrap kd i4
            have T6 := Lib.hid (fun W v (h : CS w g7 x W v (P5 ++ [0])) => h.put (u64N kd) z4 (by simp; omega))
            have T7 := Lib.hid (fun W v (h : CS w g7 x W v (P5 ++ [0] ++ putL (u64N kd))) => h.put (zigN nn) z5 (by simp; omega))
            have T8 := Lib.hid (fun W v (h : CS w g7 x W v (P5 ++ [0] ++ putL (u64N kd) ++ putL (zigN nn))) => h.text ss (s4 rfl) (by simp; omega))
            have Z3 := Lib.hid (fun W => rZig_any nn i5 W)
            have hb : P5.length + ([0] : List UInt8).length ≤ 140737488355328 := by simp; omega
            clear z3 z4 z5 y3 y4 y5 s4 i3 i4 i5 b5
            obtain ⟨kk, hkk⟩ : ∃ kk, u64N kd = kk := ⟨_, rfl⟩
            obtain ⟨nz, hnz⟩ : ∃ nz, zigN nn = nz := ⟨_, rfl⟩
            rw [hkk] at hkd T6 T7 T8
            rw [hnz] at T7 T8 Z3
            have KK := Lib.hid (And.intro hkk hnz); clear hkk hnz
            go_wp2_with fail
            go_cut [3] (fun s3 wx => CS w g7 x wx s3 (P5 ++ [0] ++ putL kk))
            case first =>
              go_region_held3 (fun w' => w'.cell? ⟨g7, 3, none⟩ = some (.int .i64 kd))
                (first | with_reducible assumption | exact (D8.out _ _ _ (CS.drew CK2.out)).1 | exact (D8.out _ _ _ (CS.alloc (CS.drew CK2.out) _)).1 | exact (D8.out _ _ _ (by with_reducible assumption)).1)
                (first
                  | (refine st_gl (by rfl) (.tmp 52) (.tmp 53) (by rfl) w.heap.size _ P5 [0] #[.int .u8 0] 1 1 (by rfl) (by rfl) (by rfl) (by simp) (by rfl) (CS.drew CK2.out).own (CS.drew CK2.out).bel.size hb ?_; intro v3 w3 hO3 hG3; have ck3 := CS.grow (CS.drew CK2.out) hO3 hG3)
                  | (go_at_call 50; refine (T6.out _ _ (by with_reducible assumption)).mono ?_; rintro e w' ⟨v, rfl, ck4⟩))
              all_goals (go_wp2_with fail; go_meet; case rel => with_reducible assumption)
            case rest =>
              have CK3 := Lib.hid hcut; clear hcut d0 d1 d2 d3 d4 d5 T6
              obtain ⟨d3, d4, d5⟩ := D8.out _ _ _ CK3.out
              go_wp2_with fail
              go_region_held3 (fun w' => w'.cell? ⟨g7, 4, none⟩ = some (.int .i64 nn) ∧ w'.cell? ⟨g7, 5, none⟩ = some (.string ss))
                (first | with_reducible assumption | exact (D8.out _ _ _ (CS.drew CK3.out)).2 | exact (D8.out _ _ _ (by with_reducible assumption)).2)
                (first
                  | (go_at_call 90; refine (Z3.out _).mono ?_; rintro e w' ⟨rfl, rfl⟩)
                  | (go_at_call 50; refine (T7.out _ _ (CS.drew CK3.out)).mono ?_; rintro e w' ⟨v, rfl, ck5⟩)
                  | (go_at_call 48; refine (T8.out _ _ (by with_reducible assumption)).mono ?_; rintro e w' ⟨v, rfl, ck6⟩))
              all_goals
                have CK6 := Lib.hid ck6; clear ck5 ck6
                go_wp2_with fail
                go_roundw
                case rel => exact ⟨i + 1, by go_num, by omega, HN.out _ _ ([0] ++ putL kk ++ putL nz ++ textL ss.toList) (by simp only [← List.append_assoc]; exact CK6.out) (by rw [HVER.out, KK.out.1, KK.out.2]; rfl), CK6.out.bel⟩
                case measure => (first | (simp [intOf]; done) | (simp [intOf]; omega))
    · have hz : ¬ (i : Int) < (L.length : Int) := by omega
      obtain rfl : i = L.length := by omega
      go_wp2_with fail
      go_ret
      have := HO.out
      rw [List.take_length] at this
      exact ⟨_, rfl, this, HB.out⟩
end Go.Proofs.YtplghaoflmaadaaGreatDoor
end

section
set_option linter.unusedVariables false
set_option linter.unusedSimpArgs false
set_option maxRecDepth 20000
namespace Go.Proofs.YtplghaoflmaadaaGreatDoor
open Go.Lib

theorem decode_high (s : ByteArray) (pos : Nat) (h : pos < s.size) (ha : ¬ (s[pos]'h).toNat < 128) : 128 ≤ (Utf8.decode s pos).1 := by
  have e : (s.get! pos) = s[pos]'h := getElem!_pos s.data pos h
  unfold Utf8.decode
  simp only [Nat.add_zero, e]
  rw [if_neg ha]
  repeat' split
  all_goals simp [Utf8.runeError] at *
  all_goals omega
theorem badR_ok (b : UInt8) : badR b.toNat = !okC b := by
  unfold badR okC
  rw [Bool.eq_iff_iff]
  simp only [Bool.and_eq_true, Bool.or_eq_true, Bool.not_eq_true', Bool.or_eq_false_iff, Bool.and_eq_false_iff, decide_eq_true_eq, decide_eq_false_iff_not, bne_iff_ne, beq_eq_false_iff_ne, ne_eq]
  omega
theorem badR_high (r : Nat) (h : 128 ≤ r) : badR r = true := by
  unfold badR
  simp only [Bool.and_eq_true, Bool.or_eq_true, decide_eq_true_eq, bne_iff_ne, ne_eq]
  omega
theorem okC_low (b : UInt8) (h : okC b = true) : b.toNat < 128 := by
  unfold okC at h
  simp only [Bool.and_eq_true, Bool.or_eq_true, decide_eq_true_eq, beq_iff_eq] at h
  omega
theorem names_one (s : ByteArray) : ∀ (f pos : Nat), s.size - pos ≤ f → (!decide (0 ≤ idxFuncFrom badR true s f pos)) = okFrom s pos
  | 0, pos, h => by
    rw [idxFuncFrom, okFrom, dif_neg (by omega)]; rfl
  | f + 1, pos, h => by
    rw [idxFuncFrom]
    by_cases hp : pos < s.size
    · rw [if_pos hp, okFrom, dif_pos hp]
      cases ho : okC s[pos]
      · have hb : badR (Utf8.decode s pos).1 = true := by
          by_cases ha : (s[pos]).toNat < 128
          · rw [decode_ascii s pos hp ha, badR_ok, ho]; rfl
          · exact badR_high _ (decode_high s pos hp ha)
        rw [if_pos hb, if_neg (by decide)]; simp
      · have ha := okC_low _ ho
        rw [decode_ascii s pos hp ha]
        rw [if_neg (by rw [badR_ok, ho]; decide), if_pos rfl]
        exact names_one s f (pos + 1) (by omega)
    · rw [if_neg hp, okFrom, dif_neg hp]; rfl
theorem name_ref (s : ByteArray) : nameB s = nameR s := by
  unfold nameB nameR idxFunc
  rw [names_one s s.size 0 (by omega)]
theorem good_ref (t p c : ByteArray) : goodB t p c = goodR t p c := by
  unfold goodB goodR strE
  rw [name_ref, name_ref]
  have : (!p.toList.isEmpty) = decide (1 ≤ p.size) := by
    rw [Bool.eq_iff_iff]; simp only [Bool.not_eq_true', decide_eq_true_eq]
    constructor
    · intro h; rcases Nat.eq_zero_or_pos p.size with h0 | h0
      · rw [toList_nil h0] at h; simp at h
      · exact h0
    · intro h; have := toList_ne (s := p) h; simpa using this
  rw [this]

end Go.Proofs.YtplghaoflmaadaaGreatDoor
end

section
set_option linter.unusedVariables false
set_option linter.unusedSimpArgs false
set_option maxRecDepth 50000
namespace Go.Proofs.YtplghaoflmaadaaGreatDoor
open Go.RowKit Go.Sort
open Go.Lib hiding intOf

theorem goodC_ref (c : Cel) : goodC2 c = goodC c := by unfold goodC2 goodC; rw [good_ref]
theorem range_le {α : Type} (f : Nat → List α) {k m : Nat} (h : k ≤ m) : ((List.range k).flatMap f).length ≤ ((List.range m).flatMap f).length := by
  obtain ⟨d, rfl⟩ := Nat.exists_eq_add_of_le h
  rw [List.range_add, List.flatMap_append, List.length_append]; omega
theorem range_snoc {α : Type} (f : Nat → List α) (k : Nat) : (List.range (k + 1)).flatMap f = (List.range k).flatMap f ++ f k := by rw [List.range_succ, List.flatMap_append]; simp
theorem blocks_range (L : List Cel) : (List.range ((L.length + 7) / 8)).flatMap (fun k => blockL (ckL L k)) = blocksL L := by
  unfold blocksL; rw [chunk8_get L.length L (Nat.le_refl _) _ rfl, List.flatMap_map]
theorem index_range (L : List Cel) : (List.range ((L.length + 7) / 8)).flatMap (fun k => entryL (ckL L k)) = (chunk8 L).flatMap entryL := by
  rw [chunk8_get L.length L (Nat.le_refl _) _ rfl, List.flatMap_map]
theorem OwnX.grow_other {α : Type} {E : El α} {W W' : World} {base : Nat} {iv bv v1 : Value} {li : List α} (h : OwnX E W base iv li) (hg : GrowV W W' bv v1) (hne : ∀ k, bv.ownBlock = some k → iv.ownBlock ≠ some k) : OwnX E W' base iv li := by
  refine h.grown hg.1 ?_
  cases e : iv.ownBlock with
  | none => exact .inl rfl
  | some k => exact .inr (fun e2 => hne k e2.symm e)
theorem ne_grow {α : Type} {E : El α} {W W' : World} {base : Nat} {iv bv v1 : Value} {li : List α} (h : OwnX E W base iv li) (hg : GrowV W W' bv v1) (hne : ∀ k, bv.ownBlock = some k → iv.ownBlock ≠ some k) : ∀ k, v1.ownBlock = some k → iv.ownBlock ≠ some k := by
  intro k hk hi
  rcases hg.2 with h0 | h0
  · exact hne k (by rw [← h0]; exact hk) hi
  · have := h0 k hk; have := OwnX.lt h k hi; omega
/-- what the reference has written: blocks and index -/
structure RS2 (w W : World) (bv iv : Value) (lo li : List UInt8) : Prop where
  own : OwnX eB W w.heap.size bv lo
  owi : OwnX eB W w.heap.size iv li
  ne : ∀ k, bv.ownBlock = some k → iv.ownBlock ≠ some k
  bel : Below w.heap.size w W
theorem RS2.below {w W W' : World} {bv iv : Value} {lo li : List UInt8} (h : RS2 w W bv iv lo li) (hb : Below W.heap.size W W') : RS2 w W' bv iv lo li :=
  ⟨h.own.below hb, h.owi.below hb, h.ne, below_tr h.bel hb⟩
theorem RS2.app {w W W' : World} {bv iv v1 : Value} {lo li lo' : List UInt8} (h : RS2 w W bv iv lo li) (hO : OwnX eB W' w.heap.size v1 lo') (hg : GrowV W W' bv v1) : RS2 w W' v1 iv lo' li :=
  ⟨hO, h.owi.grow_other hg h.ne, ne_grow h.owi hg h.ne, h.bel.trans (hg.below h.bel.size (OwnX.base h.own))⟩
theorem RS2.idx {w W W' : World} {bv iv v1 : Value} {lo li li' : List UInt8} (h : RS2 w W bv iv lo li) (hb : Below W.heap.size W W') (hO : OwnX eB W' W.heap.size v1 li') : RS2 w W' bv v1 lo li' :=
  ⟨h.own.below hb, hO.weaken h.bel.size, fun k hk hi => by have := OwnX.lt h.own k hk; have := OwnX.base hO k hi; omega, below_tr h.bel hb⟩

theorem idx3 (a b c : Int) (W : World) : (Instr.index 93 (.agg #[.int .i64 a, .int .i64 b, .int .i64 c]) (.int .i64 0)).run Tryz.prog W = .ok (.int .i64 a) W ∧ (Instr.index 93 (.agg #[.int .i64 a, .int .i64 b, .int .i64 c]) (.int .i64 1)).run Tryz.prog W = .ok (.int .i64 b) W ∧ (Instr.index 93 (.agg #[.int .i64 a, .int .i64 b, .int .i64 c]) (.int .i64 2)).run Tryz.prog W = .ok (.int .i64 c) W := by
  refine ⟨?_, ?_, ?_⟩ <;> simp [Instr.index, run_underlying Tryz.underlying93, asIntOf, go_sem, part] <;> rfl

set_option maxHeartbeats 4000000 in
theorem rwrite_ok (v : Value) (L : List Cel) (w : World) (he : Env w) (hv : SlX eC w.heap.size w v L) (hk : OkT L) (hf : FitT L) :
    Calls Tryz.prog 13 #[v] w fun e w' => ∃ v', e = .returned (.tuple #[v', .int .i64 0]) ∧ OwnB w' w.heap.size v' (tableL L) ∧ Below w.heap.size w w' := by
  have HV := Lib.hid hv
  obtain ⟨a, cap, rfl, hc, hx⟩ := hv.ex
  obtain ⟨gl, o, rfl, hgl, _⟩ := hx hk.pos
  have HRm := Lib.hid (show Room L.length by unfold Room; have := hk.most; omega)
  have CS := Lib.hid (rsorted_any _ L w hv HRm.out)
  have INC := Lib.hid hk.inc
  have hn0 : ¬ L.length < 1 := by have := hk.pos; omega
  have hn1 : (L.length : Int) ≤ 20000 := by have := hk.most; omega
  have hn2 : ¬ (20000 : Int) < (L.length : Int) := by omega
  have hn3 : ¬ (L.length : Int) < 1 := by omega
  have HOK := Lib.hid hk; have HF := Lib.hid hf; have HE := Lib.hid he
  clear hv hk hf he hx
  generalize hlen : L.length = len at *
  have HLEN := Lib.hid hlen
  go_enter Tryz.func13, Tryz.ntmps13
  go_wp2_with fail
  refine CS.out.mono ?_
  rintro e w1 ⟨b, rfl, hbi, hb1⟩
  rw [HLEN.out] at hbi
  obtain rfl : b = true := hbi.2 INC.out
  have HB1 := Lib.hid hb1
  clear hbi hb1 CS
  go_wp2_with fail
  go_loopw [5, 36] (fun _ v36 wr => ∃ i : Nat, v36 = .int .i64 (i : Int) ∧ i ≤ len ∧ Below w.heap.size w wr) (fun _ v36 _ => len - (intOf v36).toNat)
  case atStart => exact ⟨0, rfl, by omega, HB1.out⟩
  case round =>
    obtain ⟨i, rfl, hi, hb⟩ := hrel
    have HBw := Lib.hid hb; clear hb
    by_cases hlt : i < len
    · have hz : (i : Int) < (len : Int) := by omega
      have hltL : i < L.length := by rw [HLEN.out]; exact hlt
      have hVw := (HV.out.below HBw.out)
      have ten := Ten.of hVw i hltL
      have GO := Lib.hid (fun W => rgoodC_any L[i] W (HF.out.ct _ (List.getElem_mem hltL)))
      rw [goodC_ref, HOK.out.good _ (List.getElem_mem hltL)] at GO
      generalize L[i] = x at *
      have BW1 := Lib.hid (below_alloc (Below.refl _ wr) (.cells (celEnc x).toArray 61))
      obtain ⟨c0, c1, c2, c3, c4, c5, c6, c7, c8, c9⟩ := ten
      obtain ⟨⟨t, p, r, q⟩, ⟨tm, dd, lc, kd, nn, ss⟩⟩ := x
      simp only [celEnc] at *
      clear hVw
      go_wp2_with fail
      refine (GO.out _).mono ?_
      rintro e w2 ⟨rfl, hb2⟩
      have HB2 := Lib.hid (below_tr (below_tr HBw.out BW1.out) hb2)
      clear hb2 c0 c1 c2 c3 c4 c5 c6 c7 c8 c9
      go_wp2_with fail
      exact ⟨⟨i + 1, by first | rfl | go_num, by omega, HB2.out⟩, by simp [intOf]; omega⟩
    · have hz : ¬ (i : Int) < (len : Int) := by omega
      have rs0 : RS2 w wr (.slice none 0 0) (.slice none 0 0) [] [] := ⟨OwnX.nil _ _, OwnX.nil _ _, fun k hk => (by cases hk), HBw.out⟩
      have RS0 := Lib.hid rs0
      clear rs0
      have HIX := Lib.hid HF.out.idx
      have hz0 : ¬ len = 0 := by omega
      go_wp2_with fail
      clear hz hlt hi
      go_loopw [6, 7, 8, 9, 10, 11, 12] (fun v6 v7 v8 v9 _ _ _ wr => ∃ k p : Nat, v8 = .int .i64 (k : Int) ∧ v9 = .int .i64 (p : Int) ∧ Hid (p = 8 * k) ∧ Hid (k ≤ (len + 7) / 8) ∧ Hid (RS2 w wr v6 v7 ((List.range k).flatMap fun j => blockL (ckL L j)) ((List.range k).flatMap fun j => entryL (ckL L j)))) (fun _ _ _ v9 _ _ _ _ => len + 8 - (intOf v9).toNat)
      case atStart => exact ⟨0, 0, rfl, rfl, Lib.hid rfl, Lib.hid (Nat.zero_le _), RS0⟩
      case round =>
        obtain ⟨k, p, rfl, rfl, HP, HK, HRS⟩ := hrel
        by_cases hlt : p < len
        · have hz : (p : Int) < (len : Int) := by omega
          have hp8 := HP.out
          have hkL : 8 * k < L.length := by rw [HLEN.out]; omega
          have hck : 0 < (ckL L k).length := by rw [ckL_len]; omega
          have hck2 : (ckL L k).length ≤ 8 := by rw [ckL_len]; omega
          obtain ⟨m, hm⟩ : ∃ m, (ckL L k).length = m := ⟨_, rfl⟩
          have hm2 : m = min 8 (len - p) := by rw [← hm, ckL_len, HLEN.out, hp8]
          have SC := Lib.hid (fun c2 (hc2 : m ≤ c2) W' (hb : Below w.heap.size w W') => show SlX eC W'.heap.size W' (.slice (some ⟨gl, o + p * 10, none⟩) m c2) (ckL L k) from by
            have h1 := (HV.out.below hb).up (B' := W'.heap.size) hb.size
            have h2 := h1.part p m (by rw [HLEN.out]; omega) (by omega) c2 hc2
            unfold ckL
            rw [List.take_eq_take_min (i := 8), List.length_drop, HLEN.out, ← hp8, ← hm2]
            exact h2)
          have TN := Lib.hid (fun W' (hb : Below w.heap.size w W') => show Ten W' gl (o + p * 10) (ckL L k)[0] from by
            have h := SC.out m (Nat.le_refl _) W' hb
            rw [← hm] at h
            simpa using Ten.of h 0 hck)
          have CC := Lib.hid (fun c2 hc2 W' hb => rCells_any _ (ckL L k) W' (SC.out c2 hc2 W' hb) (fun c hc => HF.out.cin c (ckL_mem L k c hc)) (Nat.le_trans (ckL_flat L k) (by have := HF.out.flat; omega)) (by omega))
          have hcl : (cellsL (ckL L k)).length ≤ 262144 := by have := cellsL_len (ckL L k) (by omega); have := ckL_flat L k; have := HF.out.flat; omega
          have HKX := Lib.hid (HF.out.keys _ (ckL_mem L k _ (List.getElem_mem hck)))
          have EQ := Lib.hid (entry_head (ckL L k) hck)
          have HKL := Lib.hid (kyL_len (ckL L k)[0].k)
          have HB0 := Lib.hid (range_snoc (fun j => blockL (ckL L j)) k)
          have HI0 := Lib.hid (range_snoc (fun j => entryL (ckL L j)) k)
          have hfl : (frameL (cellsL (ckL L k))).length ≤ 300000 := by rw [frameL_length _ hcl]; omega
          have hfl0 := frameL_pos _ hcl
          have HBLn := Lib.hid (show ((List.range k).flatMap fun j => blockL (ckL L j)).length ≤ 400000000 by
            have h1 := flatMap_le (fun k => blockL (ckL L k)) 120040 (fun k => by
              have h2 := cellsL_len (ckL L k) (by rw [ckL_len]; omega)
              have h3 := ckL_flat L k
              have h4 := HF.out.flat
              unfold blockL; rw [frameL_length _ (by omega)]; omega) (List.range k)
            rw [List.length_range] at h1
            have h5 : k ≤ 2500 := by have := HK.out; omega
            have h6 := Nat.mul_le_mul_right 120040 h5
            omega)
          have HILn := Lib.hid (show ((List.range k).flatMap fun j => entryL (ckL L j)).length ≤ 262144 by
            have h1 := range_le (fun j => entryL (ckL L j)) HK.out
            rw [← HLEN.out, index_range] at h1
            have h2 := HIX.out
            rw [indexL_eq, List.length_append] at h2
            omega)
          generalize (ckL L k)[0] = x0 at *
          generalize hfle : (frameL (cellsL (ckL L k))).length = fl at *
          obtain ⟨⟨t, pp, r, q⟩, ⟨x1, x2, x3, x4, x5, x6⟩⟩ := x0
          have BY := Lib.hid (fun W' (hb : Below w.heap.size w W') => rBytes_any t pp q r W' (HE.out.below hb) (by have := HKX.out; simp only at this; omega))
          obtain ⟨cl, hcle⟩ : ∃ n, (cellsL (ckL L k)).length = n := ⟨_, rfl⟩
          have HCLE := Lib.hid hcle
          have HFLE := Lib.hid hfle
          have hcl2 : (cl : Int) ≤ 262144 := by omega
          have hcl3 : ¬ (262144 : Int) < (cl : Int) := by omega
          have hwf : IntKind.u64.wrap (fl : Int) = (fl : Int) := by rw [wu64]; omega
          obtain ⟨q2, hq2⟩ : ∃ q2, q2 = p + m := ⟨_, rfl⟩
          have hs1 : p ≤ q2 := by omega
          have hs2 : q2 ≤ cap := by omega
          have hs3 : q2 ≤ len := by omega
          have hs4 : q2 - p = m := by omega
          have hs5 : m ≤ cap - p := by omega
          have hwp : IntKind.i64.wrap ((p : Int) + 8) = ((p + 8 : Nat) : Int) := by rw [IntKind.wrap_i64]; omega
          have hwk : IntKind.i64.wrap ((k : Int) + 1) = ((k + 1 : Nat) : Int) := by have := HK.out; rw [IntKind.wrap_i64]; omega
          have CC1 := Lib.hid (CC.out (cap - p) hs5 wr HRS.out.bel)
          clear CC hcl hck hck2 hkL hm
          have hclp : 0 < cl := by rw [← hcle]; unfold cellsL; rw [List.length_append]; have := putL_pos (ckL L k).length; omega
          have TNk := Lib.hid (fun W' (hb : Below w.heap.size w W') => show W'.cell? ⟨gl, o + p * 10, none⟩ = some (.string t) ∧ W'.cell? ⟨gl, o + p * 10 + 1, none⟩ = some (.string pp) ∧ W'.cell? ⟨gl, o + p * 10 + 2, none⟩ = some (.int .i64 r) ∧ W'.cell? ⟨gl, o + p * 10 + 3, none⟩ = some (.string q) from ⟨(TN.out W' hb).c0, (TN.out W' hb).c1, (TN.out W' hb).c2, (TN.out W' hb).c3⟩)
          clear TN SC
          have GOAL : ∀ X : Int, X = X := fun _ => rfl
          have H1 := Lib.hid (show p + 8 = 8 * (k + 1) by omega)
          have H2 := Lib.hid (show k + 1 ≤ (len + 7) / 8 by omega)
          by_cases hq : p + 8 ≤ len
          case' pos =>
            have e1 : q2 = p + 8 := by omega
            have hwq : IntKind.i64.wrap ((p : Int) + 8) = (q2 : Int) := by rw [hwp, e1]
            have hcn : ¬ (len : Int) < (q2 : Int) := by omega
            have HQ := Lib.hid e1
            clear e1 hq hwp hq2 hm2 hp8
            go_wp2_with fail
          case' neg =>
            obtain rfl : q2 = len := by omega
            have hwq : IntKind.i64.wrap ((p : Int) + 8) = ((p + 8 : Nat) : Int) := hwp
            have hcn : (q2 : Int) < ((p + 8 : Nat) : Int) := by omega
            clear hq hwp hq2 hm2 hp8
            go_wp2_with fail
          all_goals
            refine CC1.out.mono ?_
            rintro e w4 ⟨v4, rfl, hO4, hB4⟩
            obtain ⟨g4, c4, rfl, hc4, _, _, _⟩ := OwnX.formN (own_eB.2 hO4) cl HCLE.out hclp
            have R4 := Lib.hid (HRS.out.below hB4)
            have FR := Lib.hid (rFrame_any _ (cellsL (ckL L k)) w4 (OwnB.slB hO4) (by rw [HCLE.out]; omega))
            clear hO4 hB4
            go_wp2_with fail
            refine FR.out.mono ?_
            rintro e w5 ⟨v5, rfl, hO5, hB5⟩
            obtain ⟨g5, c5, rfl, hc5, _, _, _⟩ := OwnX.formN (own_eB.2 hO5) fl HFLE.out hfl0
            have R5 := Lib.hid (R4.out.below hB5)
            have HS5 := Lib.hid (OwnX.sl (own_eB.2 hO5))
            clear hO5 hB5 FR
            have hr1 : ((List.range k).flatMap fun j => blockL (ckL L j)).length + (frameL (cellsL (ckL L k))).length ≤ 9223372036854775807 := by have := HBLn.out; rw [HFLE.out]; omega
            have hr2 : (((List.range k).flatMap fun j => blockL (ckL L j)).length + (frameL (cellsL (ckL L k))).length) * eB.bytes ≤ 140737488355328 := by have := HBLn.out; rw [HFLE.out]; show _ * 1 ≤ _; omega
            have hsz5 := R5.out.bel.size
            go_wp2_with (at_builtin; go_must (refine ap_g (E := eB) (by rfl) (.tmp 68) (.tmp 69) (by rfl) w.heap.size _ _ _ _ (frameL (cellsL (ckL L k))) (by rfl) (by rfl) HS5.out R5.out.own hsz5 hr1 hr2 ?_); intro v1 w6 hO1 hG1; have R6 := Lib.hid (R5.out.app hO1 hG1); clear hO1 hG1; have T6 := TNk.out w6 R6.out.bel; obtain ⟨t0, t1, t2, t3⟩ := T6)
            refine (BY.out w6 R6.out.bel).mono ?_
            rintro e w7 ⟨v7, rfl, hO7, hB7⟩
            have R7 := Lib.hid (R6.out.below hB7)
            have rd := hO7.reads.out
            unfold sv at rd
            have PT := Lib.hid (rPutText_any w.heap.size _ _ ⟨(keyBytes t pp r q).toArray⟩ w7 (own_eB.1 R7.out.owi) (by rw [size_mk]; have := HKL.out; have := HKX.out; unfold kyL at *; simp only at *; omega) (by have := HILn.out; omega))
            clear hO7 hB7 t0 t1 t2 t3
            go_wp2_with fail
            refine PT.out.mono ?_
            rintro e w8 ⟨v8, rfl, hO8, hB8⟩
            have R8 := Lib.hid (R7.out.idx hB8 (own_eB.2 hO8))
            have PU := Lib.hid (rPut_any w7.heap.size _ _ fl w8 hO8 (by omega) (by have := HILn.out; have := textL_len (keyBytes t pp r q) (by have := HKL.out; have := HKX.out; unfold kyL at *; simp only at *; omega); have := HKL.out; have := HKX.out; unfold kyL at *; simp only [List.length_append, toList_mk] at *; omega))
            go_wp2_with fail
            refine PU.out.mono ?_
            rintro e w9 ⟨v9, rfl, hO9, hB9⟩
            have R9 := R8.out.idx hB9 (own_eB.2 hO9)
            rw [toList_mk, List.append_assoc] at R9
            have HR9 := Lib.hid R9
            clear R9 hO9 hB9 PU PT hO8 hB8 rd
            go_wp2_with fail
            refine ⟨⟨k + 1, p + 8, by first | rfl | go_num, by first | (rw [HQ.out]; done) | rfl | go_num, H1, H2, Lib.hid ?_⟩, by simp [intOf]; first | omega | (have := HQ.out; omega)⟩
            rw [HB0.out, HI0.out, EQ.out]
            exact HR9.out
        · have hz : ¬ (p : Int) < (len : Int) := by omega
          obtain rfl : k = (len + 7) / 8 := by have := HP.out; have := HK.out; omega
          have hrs := HRS.out
          have e1 : ((List.range ((len + 7) / 8)).flatMap fun j => blockL (ckL L j)) = blocksL L := by rw [← HLEN.out]; exact blocks_range L
          have e2 : ((List.range ((len + 7) / 8)).flatMap fun j => entryL (ckL L j)) = (chunk8 L).flatMap entryL := by rw [← HLEN.out]; exact index_range L
          have e3 : (len + 7) / 8 = (chunk8 L).length := by rw [chunk8_length L.length L (Nat.le_refl _), HLEN.out]
          rw [e1, e2] at hrs
          rw [e3]
          have hLp : 0 < L.length := by rw [HLEN.out]; omega
          have hbl := blocksL_pos L hLp HF.out.flat
          have hix := index_pos L hLp
          have hIL := HF.out.idx
          rw [indexL_eq, List.length_append] at hIL
          have hnc : (chunk8 L).length ≤ 2500 := by omega
          have HOT := Lib.hid (show (([] ++ blocksL L) ++ frameL (indexL L)) ++ frameL (filtL L) = outL L from rfl)
          have HOL := Lib.hid (outL_len L HOK.out.most HF.out.flat HF.out.idx)
          have HEL := Lib.hid (endL_len L HOK.out.most HF.out.flat HF.out.idx)
          obtain ⟨nb, hnb⟩ : ∃ n, (blocksL L).length = n := ⟨_, rfl⟩
          obtain ⟨nc, hnn⟩ : ∃ n, (chunk8 L).length = n := ⟨_, rfl⟩
          obtain ⟨nx, hnx⟩ : ∃ n, (frameL (indexL L)).length = n := ⟨_, rfl⟩
          obtain ⟨ny, hny⟩ : ∃ n, (frameL (filtL L)).length = n := ⟨_, rfl⟩
          obtain ⟨go, co, rfl, hco, _, _, _⟩ := OwnX.formN hrs.own nb hnb (by omega)
          have hsum : len + nb + nx + ny ≤ 800000 := by
            have h1 := HOL.out
            unfold outL at h1
            rw [List.length_append, List.length_append, hnb, hnx, hny] at h1
            omega
          have HNB := Lib.hid hnb; have HNX := Lib.hid hnx; have HNY := Lib.hid hny; have HNC := Lib.hid hnn; have HIL := Lib.hid hIL
          rw [hnn]
          have hnc2 : nc ≤ 2500 := by omega
          have hwn : IntKind.u64.wrap (nc : Int) = (nc : Int) := by rw [wu64]; omega
          have PU := Lib.hid (rPut_any wr.heap.size (.slice none 0 0) [] nc wr (OwnB.nil _ _) (by omega) (by simp))
          have R0 := Lib.hid hrs
          clear hrs HRS e1 e2 e3 hnb hnn hnx hny hIL hbl hix hnc
          go_wp2_with fail
          refine PU.out.mono ?_
          rintro e w4 ⟨v4, rfl, hO4, hB4⟩
          have R4 := Lib.hid (R0.out.below hB4)
          have HO4 := Lib.hid (own_eB.2 hO4)
          have HB4 := Lib.hid hB4
          have HSI := Lib.hid (OwnX.sl R4.out.owi)
          have hr1 : ([] ++ putL nc).length + ((chunk8 L).flatMap entryL).length ≤ 9223372036854775807 := by have h1 := HIL.out; rw [HNC.out] at h1; simp only [List.length_append, List.length_nil]; omega
          have hr2 : (([] ++ putL nc).length + ((chunk8 L).flatMap entryL).length) * eB.bytes ≤ 140737488355328 := by have h1 := HIL.out; rw [HNC.out] at h1; show _ * 1 ≤ _; simp only [List.length_append, List.length_nil]; omega
          have hz4 := hB4.size
          clear hO4 hB4 PU
          go_wp2_with (at_builtin; go_must (refine ap_g (E := eB) (by rfl) (.tmp 89) (.tmp 90) (by rfl) wr.heap.size _ _ _ _ ((chunk8 L).flatMap entryL) (by rfl) (by rfl) HSI.out HO4.out hz4 hr1 hr2 ?_); intro v5 w5 hO5 hG5; have HO5 := Lib.hid (show OwnX eB w5 wr.heap.size v5 (indexL L) by rw [indexL_eq, HNC.out]; exact hO5); have HB5 := Lib.hid (HB4.out.trans (hG5.below hz4 (OwnX.base HO4.out))); clear hO5 hG5)
          have hil := HF.out.idx
          obtain ⟨ni, hni⟩ : ∃ n, (indexL L).length = n := ⟨_, rfl⟩
          have hnip : 0 < ni := by rw [← hni, indexL_eq, List.length_append]; have := putL_pos (chunk8 L).length; omega
          obtain ⟨gi, ci, rfl, hci, _, _, _⟩ := OwnX.formN HO5.out ni hni hnip
          have R5 := Lib.hid (R0.out.below HB5.out)
          have FI := Lib.hid (rfilter_any _ L w5 (HE.out.below R5.out.bel) ((HV.out.below R5.out.bel).up R5.out.bel.size) HF.out.keys HOK.out.most)
          have hi1 : (ni : Int) ≤ 262144 := by omega
          have hi2 : ¬ (262144 : Int) < (ni : Int) := by omega
          have HNI := Lib.hid hni
          clear hni hil hci
          refine FI.out.mono ?_
          rintro e w6 ⟨gf, rfl, hF6, hB6⟩
          have HO6 := Lib.hid (HO5.out.below hB6)
          have R6 := Lib.hid (R5.out.below hB6)
          have FB := Lib.hid (rfBytes_any gf 7 (bitsL L) w6 hF6.r)
          clear hF6 hB6 FI
          go_wp2_with fail
          refine FB.out.mono ?_
          rintro e w7 ⟨vb, rfl, hOb, hBb⟩
          have HO7 := Lib.hid (HO6.out.below hBb)
          have R7 := Lib.hid (R6.out.below hBb)
          obtain ⟨nf, hnf⟩ : ∃ n, (filtL L).length = n := ⟨_, rfl⟩
          have hnf2 := filtL_len L HOK.out.most
          have hnfp : 0 < nf := by rw [← hnf]; unfold filtL; rw [List.length_append, List.length_append]; have := putL_pos 7; omega
          obtain ⟨gb, cb, rfl, hcb, _, _, _⟩ := OwnX.formN (show OwnX eB w7 w6.heap.size vb (filtL L) from own_eB.2 hOb) nf hnf hnfp
          have hf1 : (nf : Int) ≤ 262144 := by omega
          have hf2 : ¬ (262144 : Int) < (nf : Int) := by omega
          have FX := Lib.hid (rFrame_any _ (indexL L) w7 (OwnB.slB (own_eB.1 HO7.out)) (by have := HNI.out; omega))
          have HOb := Lib.hid (show OwnX eB w7 w6.heap.size _ (filtL L) from own_eB.2 hOb)
          have HNF := Lib.hid hnf
          clear hOb hBb FB hnf hnf2 hcb
          go_wp2_with fail
          refine FX.out.mono ?_
          rintro e w8 ⟨vx, rfl, hOx, hBx⟩
          obtain ⟨gx, cx, rfl, hcx, _, _, _⟩ := OwnX.formN (own_eB.2 hOx) nx HNX.out (by have := frameL_pos (indexL L) HF.out.idx; rw [HNX.out] at this; exact this)
          have HOb8 := Lib.hid (HOb.out.below hBx)
          have R8 := Lib.hid (R7.out.below hBx)
          have HOx := Lib.hid (own_eB.2 hOx)
          have FY := Lib.hid (rFrame_any _ (filtL L) w8 (OwnB.slB (own_eB.1 HOb8.out)) (by have := HNF.out; omega))
          clear hOx hBx FX hcx
          go_wp2_with fail
          refine FY.out.mono ?_
          rintro e w9 ⟨vy, rfl, hOy, hBy⟩
          obtain ⟨gy, cy, rfl, hcy, _, _, _⟩ := OwnX.formN (own_eB.2 hOy) ny HNY.out (by have := frameL_pos (filtL L) (filtL_len L HOK.out.most); rw [HNY.out] at this; exact this)
          have R9 := Lib.hid (R8.out.below hBy)
          have HSx := Lib.hid (OwnX.sl (HOx.out.below hBy))
          have HSy := Lib.hid (OwnX.sl (own_eB.2 hOy))
          have HSb := Lib.hid (OwnX.sl R9.out.own)
          clear hOy hBy FY hcy
          have hA1 : ([] : List UInt8).length + (blocksL L).length ≤ 9223372036854775807 := by rw [HNB.out]; simp; omega
          have hA2 : (([] : List UInt8).length + (blocksL L).length) * eB.bytes ≤ 140737488355328 := by rw [HNB.out]; show _ * 1 ≤ _; simp; omega
          have hA3 : ([] ++ blocksL L).length + (frameL (indexL L)).length ≤ 9223372036854775807 := by rw [List.length_append, HNB.out, HNX.out]; simp; omega
          have hA4 : (([] ++ blocksL L).length + (frameL (indexL L)).length) * eB.bytes ≤ 140737488355328 := by rw [List.length_append, HNB.out, HNX.out]; show _ * 1 ≤ _; simp; omega
          have hA5 : (([] ++ blocksL L) ++ frameL (indexL L)).length + (frameL (filtL L)).length ≤ 9223372036854775807 := by rw [List.length_append, List.length_append, HNB.out, HNX.out, HNY.out]; simp; omega
          have hA6 : ((([] ++ blocksL L) ++ frameL (indexL L)).length + (frameL (filtL L)).length) * eB.bytes ≤ 140737488355328 := by rw [List.length_append, List.length_append, HNB.out, HNX.out, HNY.out]; show _ * 1 ≤ _; simp; omega
          have OE := Lib.hid (OwnX.lit (E := eB) w9 w9.heap.size #[] [] 0 (Nat.le_refl _) rfl (by simp) rfl)
          have ZE := Lib.hid (show w9.heap.size ≤ (w9.alloc (.cells #[] eB.t)).heap.size by simp)
          have BE := Lib.hid (below_alloc (Below.refl _ w9) (.cells #[] eB.t))
          go_wp2_with (first | (at_builtin; (refine ap_g (E := eB) (by rfl) (.tmp 107) (.tmp 108) (by rfl) w9.heap.size _ _ _ _ (blocksL L) (by rfl) (by rfl) (HSb.out.below BE.out) OE.out ZE.out hA1 hA2 ?_); intro va wa hOa hGa; have HOa := Lib.hid hOa; have HBa := Lib.hid (BE.out.trans (hGa.below ZE.out (OwnX.base OE.out))); clear hOa hGa) | (at_builtin; (refine ap_g (E := eB) (by rfl) (.tmp 109) (.tmp 110) (by rfl) w9.heap.size _ _ _ _ (frameL (indexL L)) (by rfl) (by rfl) (HSx.out.below HBa.out) HOa.out HBa.out.size hA3 hA4 ?_); intro vb wb hOb hGb; have HOb2 := Lib.hid hOb; have HBb := Lib.hid (HBa.out.trans (hGb.below HBa.out.size (OwnX.base HOa.out))); clear hOb hGb) | (at_builtin; (refine ap_g (E := eB) (by rfl) (.tmp 111) (.tmp 112) (by rfl) w9.heap.size _ _ _ _ (frameL (filtL L)) (by rfl) (by rfl) (HSy.out.below HBb.out) HOb2.out HBb.out.size hA5 hA6 ?_); intro vo wo hOo hGo; have HOo := Lib.hid hOo; have HBo := Lib.hid (HBb.out.trans (hGo.below HBb.out.size (OwnX.base HOb2.out))); clear hOo hGo))
          have PL := Lib.hid (rPut_any wo.heap.size (.slice none 0 0) [] len wo (OwnB.nil _ _) (by omega) (by simp))
          refine PL.out.mono ?_
          rintro e w10 ⟨v10, rfl, hO10, hB10⟩
          have HOo10 := Lib.hid (HOo.out.below hB10)
          have HB10 := Lib.hid (HBo.out.trans (hB10.mono HBo.out.size))
          have HO10 := Lib.hid (show OwnB w10 w9.heap.size v10 ([] ++ putL len) from hO10.weaken HBo.out.size)
          clear hO10 hB10 PL
          go_wp2_with fail
          go_loopw [17, 19, 125] (fun v17 _ v125 wr => ∃ i : Nat, v125 = .int .i64 (i : Int) ∧ i ≤ 3 ∧ OwnB wr w9.heap.size v17 (([] ++ putL len) ++ ([nb, nx, ny].take i).flatMap putL) ∧ OwnX eB wr w9.heap.size vo ((([] ++ blocksL L) ++ frameL (indexL L)) ++ frameL (filtL L)) ∧ Below w9.heap.size w9 wr) (fun _ _ v125 _ => 3 - (intOf v125).toNat)
          case atStart => exact ⟨0, rfl, by omega, by simpa using HO10.out, HOo10.out, HB10.out⟩
          case round =>
            obtain ⟨i2, rfl, hi2', HOe, HOut, hbr⟩ := hrel
            have HE1 := Lib.hid HOe; have HT1 := Lib.hid HOut; have HB1' := Lib.hid hbr
            clear HOe HOut hbr
            have hle : (([] ++ putL len) ++ ([nb, nx, ny].take i2).flatMap putL).length ≤ 1000 := by
              have h1 := HEL.out
              unfold endL numsL at h1
              rw [HLEN.out, HNB.out, HNX.out, HNY.out] at h1
              simp only [List.flatMap_cons, List.flatMap_nil, List.length_append, List.length_nil] at h1
              rcases i2 with _ | _ | _ | _ | i2 <;> simp <;> omega
            by_cases hl3 : i2 < 3
            · have hnum : ∃ u : Nat, u ≤ 800000 ∧ (i2 = 0 ∧ u = nb ∨ i2 = 1 ∧ u = nx ∨ i2 = 2 ∧ u = ny) := by
                rcases i2 with _ | _ | _ | i2
                · exact ⟨nb, by omega, .inl ⟨rfl, rfl⟩⟩
                · exact ⟨nx, by omega, .inr (.inl ⟨rfl, rfl⟩)⟩
                · exact ⟨ny, by omega, .inr (.inr ⟨rfl, rfl⟩)⟩
                · omega
              obtain ⟨u, hu, hcase⟩ := hnum
              have HST := Lib.hid (show ([nb, nx, ny].take (i2 + 1)).flatMap putL = ([nb, nx, ny].take i2).flatMap putL ++ putL u by
                rcases hcase with ⟨rfl, rfl⟩ | ⟨rfl, rfl⟩ | ⟨rfl, rfl⟩ <;> simp)
              have PU2 := Lib.hid (rPut_any w9.heap.size _ _ u wr HE1.out (by omega) (by omega))
              have hwu : IntKind.u64.wrap (u : Int) = (u : Int) := by rw [wu64]; omega
              have NEXT := Lib.hid (fun (wn : World) (vn : Value) (hOn : OwnB wn wr.heap.size vn ((([] ++ putL len) ++ ([nb, nx, ny].take i2).flatMap putL) ++ putL u)) (hBn : Below wr.heap.size wr wn) =>
                show OwnB wn w9.heap.size vn (([] ++ putL len) ++ ([nb, nx, ny].take (i2 + 1)).flatMap putL) ∧ OwnX eB wn w9.heap.size vo ((([] ++ blocksL L) ++ frameL (indexL L)) ++ frameL (filtL L)) ∧ Below w9.heap.size w9 wn from
                ⟨by rw [HST.out, ← List.append_assoc]; exact hOn.weaken HB1'.out.size, HT1.out.below hBn, HB1'.out.trans (hBn.mono HB1'.out.size)⟩)
              clear hle HST
              rcases hcase with ⟨rfl, hun⟩ | ⟨rfl, hun⟩ | ⟨rfl, hun⟩
              all_goals
                rw [hun] at PU2 hwu NEXT
                obtain ⟨ix0, ix1, ix2⟩ := idx3 (nb : Int) (nx : Int) (ny : Int) wr
                go_wp2_with fail
                refine PU2.out.mono ?_
                rintro e wn ⟨vn, rfl, hOn, hBn⟩
                have NX := Lib.hid (NEXT.out wn vn hOn hBn)
                clear hOn hBn
                go_wp2_with fail
                refine ⟨⟨_ + 1, by first | rfl | go_num, ?_, NX.out⟩, by simp [intOf]⟩
                omega
            · obtain rfl : i2 = 3 := by omega
              have SU1 := rSum_any vo _ wr.heap.size wr (OwnB.slB (own_eB.1 HT1.out)) (by have := HOL.out; rw [HOT.out]; omega)
              rw [HOT.out, (sumN_val (outL L)).1] at SU1
              have hsmr := (sumN_val (outL L)).2
              have HE4 := Lib.hid (show endL L = (([] ++ putL len) ++ ([nb, nx, ny].take 3).flatMap putL) ++ putL (sumN (outL L)) by
                unfold endL numsL; rw [HLEN.out, HNB.out, HNX.out, HNY.out]; simp)
              generalize sumN (outL L) = sm at *
              have SU := Lib.hid SU1
              have hwsm : IntKind.u64.wrap (sm : Int) = (sm : Int) := by rw [wu64]; omega
              have PU := Lib.hid (rPut_any w9.heap.size _ _ sm wr HE1.out (by omega) (by omega))
              clear SU1 hsmr hle
              go_wp2_with fail
              refine SU.out.mono ?_
              rintro e wsu ⟨rfl, rfl⟩
              go_wp2_with fail
              refine PU.out.mono ?_
              rintro e wn ⟨vn, rfl, hOn, hBn⟩
              rw [← HE4.out] at hOn
              have HTn := Lib.hid (HT1.out.below hBn)
              have HBn := Lib.hid (HB1'.out.trans (hBn.mono HB1'.out.size))
              have FE := Lib.hid (rFrame_any vn (endL L) wn (OwnB.slB hOn) (by have := HEL.out; omega))
              clear hOn hBn PU SU
              go_wp2_with fail
              refine FE.out.mono ?_
              rintro e wf ⟨vf, rfl, hOf, hBf⟩
              obtain ⟨ne, hne⟩ : ∃ n, (frameL (endL L)).length = n := ⟨_, rfl⟩
              have hne2 : ne = (endL L).length + 8 := by rw [← hne, frameL_length _ (by have := HEL.out; omega)]
              have hel := HEL.out
              obtain ⟨gf2, cf2, rfl, hcf, _, _, _⟩ := OwnX.formN (own_eB.2 hOf) ne hne (by omega)
              have HTf := Lib.hid (HTn.out.below hBf)
              have HBf := Lib.hid (HBn.out.trans (hBf.mono HBn.out.size))
              have HSF := Lib.hid (OwnX.sl (own_eB.2 hOf))
              have hne3 : ne ≤ 58 := by omega
              have hw8 : IntKind.u8.wrap (ne : Int) = (ne : Int) := by rw [IntKind.wrap_u8]; omega
              have hr3 : ((([] ++ blocksL L) ++ frameL (indexL L)) ++ frameL (filtL L)).length + (frameL (endL L)).length ≤ 9223372036854775807 := by have h1 := HOL.out; rw [HOT.out, hne]; omega
              have hr4 : (((([] ++ blocksL L) ++ frameL (indexL L)) ++ frameL (filtL L)).length + (frameL (endL L)).length) * eB.bytes ≤ 140737488355328 := by have h1 := HOL.out; rw [HOT.out, hne]; show _ * 1 ≤ _; omega
              have hbc := bcells_nat ne (by omega)
              have HNE := Lib.hid hne; have HBC := Lib.hid hbc
              have hr5 : (((([] ++ blocksL L) ++ frameL (indexL L)) ++ frameL (filtL L)) ++ frameL (endL L)).length + [UInt8.ofNat ne].length ≤ 140737488355328 := by have h1 := HOL.out; rw [List.length_append, HOT.out, hne]; simp; omega
              clear hne hne2 hel hOf hBf FE hbc hcf
              go_wp2_with (first | (at_builtin; (refine ap_g (E := eB) (by rfl) (.tmp 139) (.tmp 140) (by rfl) w9.heap.size _ _ _ _ (frameL (endL L)) (by rfl) (by rfl) HSF.out HTf.out HBf.out.size hr3 hr4 ?_); intro v1 w1 hO1 hG1; have HO1 := Lib.hid hO1; have HB1x := Lib.hid (HBf.out.trans (hG1.below HBf.out.size (OwnX.base HTf.out))); clear hO1 hG1) | (at_builtin; go_must (refine ap_gl (by rfl) (.tmp 141) (.tmp 145) (by rfl) w9.heap.size _ _ [UInt8.ofNat ne] _ 1 1 (by rfl) (by rfl) (by rfl) (by simp) HBC.out (own_eB.1 HO1.out) HB1x.out.size hr5 ?_); intro v2 w2' hO2 hG2; have HO2 := Lib.hid hO2; have HB2x := Lib.hid (HB1x.out.trans (hG2.below HB1x.out.size (OwnX.base HO1.out))); clear hO2 hG2))
              have fin := HO2.out
              rw [HOT.out, ← HNE.out] at fin
              exact bodyPost_ret (v := .tuple #[v2, .int .i64 0]) (by simp [results, Tryz.results13, go_sem]) rfl ⟨v2, rfl, fin.weaken R9.out.bel.size, R9.out.bel.trans (HB2x.out.mono R9.out.bel.size)⟩
end Go.Proofs.YtplghaoflmaadaaGreatDoor
end
