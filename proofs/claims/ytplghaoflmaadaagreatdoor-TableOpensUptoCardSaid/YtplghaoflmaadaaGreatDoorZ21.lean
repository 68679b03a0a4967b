/- Contract of the codec's Cells. Conditions: the row's own bounds. Contracts of Good and Sorted of cells, the program's and the reference's. Condition: lengths of texts; room. Contracts of slices.Clone at cells, of the stable sort, of cell's fold and Norm, at lists of one cell or none. -/
import Derived.Test.YtplghaoflmaadaaGreatDoorZ20
import Derived.Test.YtplghaoflmaadaaGreatDoorZ18
import Derived.Test.YtplghaoflmaadaaGreatDoorZ14
import Derived.Test.YtplghaoflmaadaaGreatDoorZ13
import Derived.Test.YtplghaoflmaadaaGreatDoorZ19
section
set_option linter.unusedVariables false
set_option linter.unusedSimpArgs false
set_option maxRecDepth 50000
namespace Go.Proofs.YtplghaoflmaadaaGreatDoor
open Go.RowKit

/-- a cell's numbers are ints -/
structure CelIn (c : Cel) : Prop where
  row : In64 c.k.r
  time : In64 c.v.time
  loc : In64 c.v.loc
  kind : In64 c.v.kind
  num : In64 c.v.n
theorem kind_wrap (n : Int) (h : In64 n) : IntKind.u64.wrap n = (u64N n : Int) := by unfold u64N; rw [wu64]; omega
/-- What is written, beside a cell's two variables. -/
structure CK (w0 : World) (g6 g7 : Nat) (x : Cel) (W : World) (v : Value) (l : List UInt8) : Prop where
  own : OwnB W w0.heap.size v l
  k6 : Blk W g6 24 (kyEnc x.k).toArray
  k7 : Blk W g7 49 (vrEnc x.v).toArray
  bel : Below w0.heap.size w0 W
section
variable {w0 W W1 : World} {g6 g7 : Nat} {x : Cel} {v v1 : Value} {l l1 : List UInt8}
theorem CK.drew (h : CK w0 g6 g7 x W v l) : CK w0 g6 g7 x W.drew v l := ⟨h.own.drew, h.k6.drew, h.k7.drew, h.bel.drew⟩
theorem CK.alloc (h : CK w0 g6 g7 x W v l) (o : Obj) : CK w0 g6 g7 x (W.alloc o) v l := ⟨h.own.alloc o, h.k6.alloc o, h.k7.alloc o, below_al h.bel o h.bel.size⟩
theorem CK.grow (h : CK w0 g6 g7 x W v l) (ho : OwnB W1 w0.heap.size v1 l1) (hg : GrowV W W1 v v1) : CK w0 g6 g7 x W1 v1 l1 :=
  ⟨ho, h.k6.growV (own_eB.2 h.own) hg (by decide), h.k7.growV (own_eB.2 h.own) hg (by decide), h.bel.trans (hg.below h.bel.size h.own.base)⟩
theorem Blk.at {w : World} {g : Nat} (t : TypeId) (cs : Array Value) (hg : g = w.heap.size) : Blk (w.alloc (.cells cs t)) g t cs := by subst hg; exact Blk.new w t cs
theorem CK.start1 (ho : OwnB W w0.heap.size v l) (hb : Below w0.heap.size w0 W) (o : Obj) {cs6 cs7 : Array Value} (h6 : (kyEnc x.k).toArray = cs6) (h7 : (vrEnc x.v).toArray = cs7) :
    CK w0 (W.heap.size + 1) (W.heap.size + 1 + 1) x (((W.alloc o).alloc (.cells cs6 24)).alloc (.cells cs7 49)).drew v l := by
  subst h6 h7
  exact CK.drew ⟨((ho.alloc _).alloc _).alloc _, (Blk.at _ _ (by simp)).alloc _, Blk.at _ _ (by simp), below_al (below_al (below_al hb _ hb.size) _ (by have := hb.size; simp; omega)) _ (by have := hb.size; simp; omega)⟩
theorem CK.start2 (ho : OwnB W w0.heap.size v l) (hb : Below w0.heap.size w0 W) (o : Obj) {cs6 cs7 : Array Value} (h6 : (kyEnc x.k).toArray = cs6) (h7 : (vrEnc x.v).toArray = cs7) :
    CK w0 (W.heap.size + 1 + 1) (W.heap.size + 1) x (((W.alloc o).alloc (.cells cs7 49)).alloc (.cells cs6 24)).drew v l := by
  subst h6 h7
  exact CK.drew ⟨((ho.alloc _).alloc _).alloc _, Blk.at _ _ (by simp), (Blk.at _ _ (by simp)).alloc _, below_al (below_al (below_al hb _ hb.size) _ (by have := hb.size; simp; omega)) _ (by have := hb.size; simp; omega)⟩
def RetK (w0 : World) (g6 g7 : Nat) (x : Cel) (l : List UInt8) (e : Ending) (w' : World) : Prop := ∃ v, e = .returned v ∧ CK w0 g6 g7 x w' v l
theorem CK.put (h : CK w0 g6 g7 x W v l) (u : Nat) (hu : u < 18446744073709551616) (hl : l.length ≤ 10000000000) : Calls Tryz.prog 79 #[v, .int .u64 (u : Int)] W (RetK w0 g6 g7 x (l ++ putL u)) :=
  (putG_any w0.heap.size v l u W h.own h.bel.size hu (by omega)).mono fun e w' ⟨v', he, ho, hg⟩ => ⟨v', he, h.grow ho hg⟩
theorem CK.text (h : CK w0 g6 g7 x W v l) (s : ByteArray) (hs : s.size ≤ 1000000) (hl : l.length ≤ 10000000000) : Calls Tryz.prog 80 #[v, .string s] W (RetK w0 g6 g7 x (l ++ textL s.toList)) :=
  (textG_any w0.heap.size v l s W h.own h.bel.size hs hl).mono fun e w' ⟨v', he, ho, hg⟩ => ⟨v', he, h.grow ho hg⟩
end
/-- few bytes that lie in the block that was made last, appended within a drawn region -/
theorem st_gl {ops : Array Oper} {o : Oper} {a : Act} {K : Act → World → Prop} {Q : Exit → Act → World → Prop} {W : World} {EE : Prop} (hgd : o.guard = none) (s x : Operand) (ho : o.op = .call { callee := .builtin .append, args := #[s, x], argTypes := #[29, 29] })
    (base : Nat) (v : Value) (l : List UInt8) (news : List UInt8) (cs : Array Value) (n c : Nat) (hs : a.eval s = v) (hx : a.eval x = .slice (some ⟨W.heap.size, 0, none⟩) n c) (hn : n = news.length) (hc : news.length ≤ c) (hcs : cs.toList = bcells news) (HO : OwnB W base v l) (hbase : base ≤ W.heap.size) (hl : l.length + news.length ≤ 140737488355328)
    (h : ∀ v1 w1, OwnB w1 base v1 (l ++ news) → GrowV W w1 v v1 → K (a.put o.dst v1) w1) : if Region.wanted o (yielded ops a.tmps) = true then Oper.wp Tryz.prog o a (W.alloc (.cells cs 5)) K Q else EE := by
  refine st_x (E := eB) hgd s x ho base v l _ _ news hs hx (SlX.lit (E := eB) W cs news n c hn hc (by rw [eB_cells]; exact hcs)) (OwnX.alloc (own_eB.2 HO) _) (Nat.le_trans hbase (by simp)) (by omega) (by show _ * 1 ≤ _; omega) ?_
  intro v1 w1 hO hg hw
  refine h v1 w1 (own_eB.1 hO) ⟨(GrowV.pre (v' := v1) (below_alloc (Below.refl _ _) _) ⟨hg, ?_⟩).1, ?_⟩
  · rcases hw with hw | hw
    · exact .inl hw
    · exact .inr fun k hk => by rw [hw] at hk; injection hk with hk; omega
  · rcases hw with hw | hw
    · exact .inl hw
    · exact .inr fun k hk => by rw [hw] at hk; injection hk with hk; simp at hk; omega
set_option maxHeartbeats 4000000 in
theorem Cells_any (v : Value) (L : List Cel) (w : World) (hv : SlX eC w.heap.size w v L) (hin : ∀ c ∈ L, CelIn c) (hl : (L.flatMap cellL).length ≤ 1000000) (hn : L.length ≤ 1000000) :
    Calls Tryz.prog 36 #[v] w (RetB w.heap.size w (cellsL L)) := by
  have HV := Lib.hid hv
  obtain ⟨a, cap, rfl, hc, hx⟩ := hv.ex
  have HX := Lib.hid hx; clear hx hv
  have C0 := Lib.hid (putG_any w.heap.size (.slice none 0 0) [] L.length w (OwnB.nil _ _) (Nat.le_refl _) (by omega) (by simp))
  have hW : IntKind.u64.wrap (L.length : Int) = (L.length : Int) := by rw [wu64]; omega
  have hpl := putL_len 9 L.length (by omega)
  unfold cellsL
  have HIN := Lib.hid hin; have HL := Lib.hid hl; have HPL := Lib.hid hpl
  clear hin hl hpl
  go_enter Tryz.func36, Tryz.ntmps36
  go_wp2_with fail
  refine C0.out.mono ?_
  rintro e w1 ⟨v1, rfl, hO1, hG1⟩
  rw [List.nil_append] at hO1
  have HO1 := Lib.hid hO1; have HB1 := Lib.hid (hG1.below (Nat.le_refl _) (by intro k hk; simp [Value.ownBlock] at hk))
  clear hO1 hG1 C0 hW
  generalize putL L.length = pl at *
  go_wp2_with fail
  go_loopw [3, 14] (fun v3 v14 wr => ∃ i : Nat, v14 = .int .i64 (i : Int) ∧ i ≤ L.length ∧ OwnB wr w.heap.size v3 (pl ++ (L.take i).flatMap cellL) ∧ Below w.heap.size w wr) (fun _ v14 _ => L.length - (intOf v14).toNat)
  case atStart => exact ⟨0, rfl, by omega, by simpa using HO1.out, HB1.out⟩
  case round =>
    clear HO1 HB1
    obtain ⟨i, rfl, hi, hO, hB⟩ := hrel
    have HO := Lib.hid hO; have HB := Lib.hid hB; clear hO hB
    by_cases hlt : i < L.length
    · have hz : (i : Int) < (L.length : Int) := by omega
      obtain ⟨gl, o, rfl, hgl2, _⟩ := HX.out (by omega)
      have ten := (Ten.of HV.out i hlt)
      have ten := Ten.keep ten HB.out
      have hxin := HIN.out L[i] (List.getElem_mem hlt)
      have htk : (L.take (i + 1)).flatMap cellL = (L.take i).flatMap cellL ++ cellL L[i] := by rw [List.take_succ_eq_append_getElem hlt, List.flatMap_append, List.flatMap_singleton]
      have hlen : ((L.take i).flatMap cellL).length + (cellL L[i]).length ≤ 1000000 := by
        have h1 : (L.flatMap cellL) = (L.take (i + 1)).flatMap cellL ++ (L.drop (i + 1)).flatMap cellL := by rw [← List.flatMap_append, List.take_append_drop]
        have h2 := HL.out
        rw [h1, htk, List.length_append, List.length_append] at h2
        omega
      generalize L[i] = x at *
      have HTK := Lib.hid htk; clear htk
      generalize hpre : pl ++ (L.take i).flatMap cellL = pre at *
      have hprel : pre.length ≤ 1000010 - (cellL x).length := by rw [← hpre, List.length_append]; have := HPL.out; omega
      have HPRE := Lib.hid hpre; clear hpre
      obtain ⟨⟨t, p, r, q⟩, ⟨tm, dd, lc, kd, nn, ss⟩⟩ := x
      obtain ⟨i1, i2, i3, i4, i5⟩ := hxin
      simp only at i1 i2 i3 i4 i5
      obtain ⟨c0, c1, c2, c3, c4, c5, c6, c7, c8, c9⟩ := ten
      simp only at c0 c1 c2 c3 c4 c5 c6 c7 c8 c9
      have hcl : cellL ⟨⟨t, p, r, q⟩, ⟨tm, dd, lc, kd, nn, ss⟩⟩ = textL t.toList ++ textL p.toList ++ putL (zigN r) ++ textL q.toList ++ verL ⟨tm, dd, lc, kd, nn, ss⟩ := rfl
      have hvl : verL ⟨tm, dd, lc, kd, nn, ss⟩ = putL (zigN tm) ++ (if dd = true then 1 :: putL (zigN lc) else 0 :: (putL (u64N kd) ++ putL (zigN nn) ++ textL ss.toList)) := rfl
      rw [hcl] at hprel hlen
      rw [hvl] at hprel hlen
      have z1 := zigN_lt r i1; have z2 := zigN_lt tm i2; have z3 := zigN_lt lc i3; have z4 := u64N_lt kd; have z5 := zigN_lt nn i5
      have y1 := putL_len 9 _ (show zigN r < 128 ^ 10 by omega); have y2 := putL_len 9 _ (show zigN tm < 128 ^ 10 by omega); have y3 := putL_len 9 _ (show zigN lc < 128 ^ 10 by omega); have y4 := putL_len 9 _ (show u64N kd < 128 ^ 10 by omega); have y5 := putL_len 9 _ (show zigN nn < 128 ^ 10 by omega)
      have ts : ∀ s : ByteArray, (textL s.toList).length ≤ 1000000 → s.size ≤ 1000000 := fun s h => by unfold textL at h; rw [List.length_append, str_len] at h; omega
      simp only [List.length_append] at hprel hlen
      have s1 := ts t (by omega); have s2 := ts p (by omega); have s3 := ts q (by omega)
      have s4 : dd = false → ss.size ≤ 1000000 := fun h => ts ss (by rw [h] at hlen; simp at hlen; omega)
      have b0 : pre.length ≤ 1000010 := by omega
      have b1 : (pre ++ textL t.toList).length ≤ 2000010 := by rw [List.length_append]; omega
      have b2 : (pre ++ textL t.toList ++ textL p.toList).length ≤ 3000010 := by rw [List.length_append]; omega
      have b3 : (pre ++ textL t.toList ++ textL p.toList ++ putL (zigN r)).length ≤ 4000010 := by rw [List.length_append]; omega
      have b4 : (pre ++ textL t.toList ++ textL p.toList ++ putL (zigN r) ++ textL q.toList).length ≤ 5000010 := by rw [List.length_append]; omega
      have b5 : (pre ++ textL t.toList ++ textL p.toList ++ putL (zigN r) ++ textL q.toList ++ putL (zigN tm)).length ≤ 6000010 := by rw [List.length_append]; omega
      clear ts hcl hvl hprel hlen ten y1 y2
      generalize hx : (⟨⟨t, p, r, q⟩, ⟨tm, dd, lc, kd, nn, ss⟩⟩ : Cel) = x at *
      have hk : (kyEnc x.k).toArray = #[.string t, .string p, .int .i64 r, .string q] := by subst hx; rfl
      have hvv : (vrEnc x.v).toArray = #[.int .i64 tm, .bool dd, .int .i64 lc, .int .i64 kd, .int .i64 nn, .string ss] := by subst hx; rfl
      have HX2 := Lib.hid hx; clear hx
      have HK := Lib.hid hk; have HVV := Lib.hid hvv; clear hk hvv
      have T1 := Lib.hid (fun g6 g7 W v (h : CK w g6 g7 x W v pre) => h.text t s1 (by omega))
      have T2 := Lib.hid (fun g6 g7 W v (h : CK w g6 g7 x W v (pre ++ textL t.toList)) => h.text p s2 (by omega))
      have T3 := Lib.hid (fun g6 g7 W v (h : CK w g6 g7 x W v (pre ++ textL t.toList ++ textL p.toList)) => h.put (zigN r) z1 (by omega))
      have T4 := Lib.hid (fun g6 g7 W v (h : CK w g6 g7 x W v (pre ++ textL t.toList ++ textL p.toList ++ putL (zigN r))) => h.text q s3 (by omega))
      have T5 := Lib.hid (fun g6 g7 W v (h : CK w g6 g7 x W v (pre ++ textL t.toList ++ textL p.toList ++ putL (zigN r) ++ textL q.toList)) => h.put (zigN tm) z2 (by omega))
      have Z1 := Lib.hid (fun W => Zig_any r i1 W); have Z2 := Lib.hid (fun W => Zig_any tm i2 W)
      have B5 := Lib.hid b5
      clear b0 b1 b2 b3 b4 b5 s1 s2 s3 z1 z2 i1 i2
      go_wp2_with fail
      go_cut [6, 7] (fun s6 s7 wx => ∃ g6 g7 : Nat, s6 = .pointer (some ⟨g6, 0, none⟩) ∧ s7 = .pointer (some ⟨g7, 0, none⟩) ∧ CK w g6 g7 x wx u3 pre)
      case first =>
        go_big_region
        all_goals (go_wp2_with fail; go_meet; case rel => exact ⟨_, _, rfl, rfl, by first | exact CK.start1 HO.out HB.out _ HK.out HVV.out | exact CK.start2 HO.out HB.out _ HK.out HVV.out⟩)
      case rest =>
        obtain ⟨g6, g7, rfl, rfl, ck⟩ := hcut
        clear c0 c1 c2 c3 c4 c5 c6 c7 c8 c9
        have K6 : ∀ W v l, CK w g6 g7 x W v l → (W.cell? ⟨g6, 0, none⟩ = some (.string t) ∧ W.cell? ⟨g6, 1, none⟩ = some (.string p) ∧ W.cell? ⟨g6, 2, none⟩ = some (.int .i64 r) ∧ W.cell? ⟨g6, 3, none⟩ = some (.string q)) := fun W v l h => by
          have := h.k6; rw [HK.out] at this
          exact ⟨this.cell 0 rfl, this.cell 1 rfl, this.cell 2 rfl, this.cell 3 rfl⟩
        have K7 : ∀ W v l, CK w g6 g7 x W v l → (W.cell? ⟨g7, 0, none⟩ = some (.int .i64 tm) ∧ W.cell? ⟨g7, 1, none⟩ = some (.bool dd) ∧ W.cell? ⟨g7, 2, none⟩ = some (.int .i64 lc) ∧ W.cell? ⟨g7, 3, none⟩ = some (.int .i64 kd) ∧ W.cell? ⟨g7, 4, none⟩ = some (.int .i64 nn) ∧ W.cell? ⟨g7, 5, none⟩ = some (.string ss)) := fun W v l h => by
          have := h.k7; rw [HVV.out] at this
          exact ⟨this.cell 0 rfl, this.cell 1 rfl, this.cell 2 rfl, this.cell 3 rfl, this.cell 4 rfl, this.cell 5 rfl⟩
        have S6 := Lib.hid K6; have S7 := Lib.hid K7; clear K6 K7
        obtain ⟨e0, e1, e2, e3⟩ := S6.out _ _ _ ck
        go_wp2_with fail
        go_cut [3] (fun s3 wx => CK w g6 g7 x wx s3 (pre ++ textL t.toList ++ textL p.toList ++ putL (zigN r) ++ textL q.toList))
        case first =>
          go_region_held3 (fun w' => w'.cell? ⟨g6, 0, none⟩ = some (.string t) ∧ w'.cell? ⟨g6, 1, none⟩ = some (.string p) ∧ w'.cell? ⟨g6, 2, none⟩ = some (.int .i64 r) ∧ w'.cell? ⟨g6, 3, none⟩ = some (.string q))
            (first | with_reducible assumption | exact S6.out _ _ _ (CK.drew (by with_reducible assumption)) | exact S6.out _ _ _ (by with_reducible assumption))
            (first
              | (go_at_call_of 80 t; refine (T1.out g6 g7 _ _ (by first | with_reducible assumption | exact CK.drew (by with_reducible assumption))).mono ?_; rintro e w' ⟨v, rfl, ck1⟩)
              | (go_at_call_of 80 p; refine (T2.out g6 g7 _ _ (by with_reducible assumption)).mono ?_; rintro e w' ⟨v, rfl, ck2⟩)
              | (go_at_call 81; refine (Z1.out _).mono ?_; rintro e w' ⟨rfl, rfl⟩)
              | (go_at_call 79; refine (T3.out g6 g7 _ _ (by with_reducible assumption)).mono ?_; rintro e w' ⟨v, rfl, ck3⟩)
              | (go_at_call_of 80 q; refine (T4.out g6 g7 _ _ (by with_reducible assumption)).mono ?_; rintro e w' ⟨v, rfl, ck4⟩))
          all_goals (go_wp2_with fail; go_meet; case rel => with_reducible assumption)
        case rest =>
          clear ck e0 e1 e2 e3 T1 T2 T3 T4 Z1 S6
          obtain ⟨d0, d1, d2, d3, d4, d5⟩ := S7.out _ _ _ hcut
          go_wp2_with fail
          refine (Z2.out _).mono ?_
          rintro e w' ⟨rfl, rfl⟩
          go_wp2_with fail
          refine (T5.out g6 g7 _ _ hcut).mono ?_
          rintro e w2 ⟨v2, rfl, ck2⟩
          clear d0 d1 d2 d3 d4 d5 hcut T5 Z2
          obtain ⟨d0, d1, d2, d3, d4, d5⟩ := S7.out _ _ _ ck2
          have hend : ∀ wx s3, CK w g6 g7 x wx s3 (pre ++ textL t.toList ++ textL p.toList ++ putL (zigN r) ++ textL q.toList ++ verL x.v) → OwnB wx w.heap.size s3 (pl ++ (L.take (i + 1)).flatMap cellL) := fun wx s3 h => by
            have h1 := h.own
            rw [HTK.out, ← List.append_assoc, HPRE.out]
            rw [← HX2.out] at h1 ⊢
            simp only [cellL, List.append_assoc] at h1 ⊢
            exact h1
          have HEND := Lib.hid hend; clear hend
          have hver : verL x.v = putL (zigN tm) ++ (if dd = true then 1 :: putL (zigN lc) else 0 :: (putL (u64N kd) ++ putL (zigN nn) ++ textL ss.toList)) := by rw [← HX2.out]; rfl
          generalize hP5 : pre ++ textL t.toList ++ textL p.toList ++ putL (zigN r) ++ textL q.toList ++ putL (zigN tm) = P5 at *
          have b5 := B5.out
          have hN : ∀ wx s3 tl, CK w g6 g7 x wx s3 (P5 ++ tl) → verL x.v = putL (zigN tm) ++ tl → OwnB wx w.heap.size s3 (pl ++ (L.take (i + 1)).flatMap cellL) := fun wx s3 tl h he => by
            refine HEND.out wx s3 ?_
            rw [he, ← List.append_assoc, hP5]
            exact h
          have HN := Lib.hid hN; have HVER := Lib.hid hver
          clear hN hver hP5 HEND B5
          have CK2 := Lib.hid ck2; clear ck2
          have D7 : ∀ W v l, CK w g6 g7 x W v l → W.cell? ⟨g7, 2, none⟩ = some (.int .i64 lc) := fun W v l h => (S7.out _ _ _ h).2.2.1
          have D8 : ∀ W v l, CK w g6 g7 x W v l → (W.cell? ⟨g7, 3, none⟩ = some (.int .i64 kd) ∧ W.cell? ⟨g7, 4, none⟩ = some (.int .i64 nn) ∧ W.cell? ⟨g7, 5, none⟩ = some (.string ss)) := fun W v l h => (S7.out _ _ _ h).2.2.2
          have D7 := Lib.hid D7; have D8 := Lib.hid D8
          cases dd with
          | true =>
            have T6 := Lib.hid (fun W v (h : CK w g6 g7 x W v (P5 ++ [1])) => h.put (zigN lc) z3 (by simp; omega))
            have Z3 := Lib.hid (fun W => Zig_any lc i3 W)
            have hb : P5.length + ([1] : List UInt8).length ≤ 140737488355328 := by simp; omega
            clear z3 z4 z5 y3 y4 y5 s4 i3 i4 i5 b5
            go_wp2_with fail
            go_region_held3 (fun w' => w'.cell? ⟨g7, 2, none⟩ = some (.int .i64 lc))
              (first | with_reducible assumption | exact D7.out _ _ _ (CK.drew CK2.out) | exact D7.out _ _ _ (CK.alloc (CK.drew CK2.out) _) | exact D7.out _ _ _ (by with_reducible assumption))
              (first
                | (refine st_gl (by rfl) (.tmp 43) (.tmp 44) (by rfl) w.heap.size _ P5 [1] #[.int .u8 1] 1 1 (by rfl) (by rfl) (by rfl) (by simp) (by rfl) (CK.drew CK2.out).own (CK.drew CK2.out).bel.size hb ?_; intro v3 w3 hO3 hG3; have ck3 := CK.grow (CK.drew CK2.out) hO3 hG3)
                | (go_at_call 81; refine (Z3.out _).mono ?_; rintro e w' ⟨rfl, rfl⟩)
                | (go_at_call 79; refine (T6.out _ _ (by with_reducible assumption)).mono ?_; rintro e w' ⟨v, rfl, ck4⟩))
            all_goals
              have CK4 := Lib.hid ck4; clear ck3 ck4
              go_wp2_with fail
              go_roundw
              case rel => exact ⟨i + 1, by go_num, by omega, HN.out _ _ ([1] ++ putL (zigN lc)) (by rw [← List.append_assoc]; exact CK4.out) (by rw [HVER.out]; rfl), CK4.out.bel⟩
              case measure => (first | (simp [intOf]; done) | (simp [intOf]; omega))
          | false =>
            have hkd := kind_wrap kd i4
            have T6 := Lib.hid (fun W v (h : CK w g6 g7 x W v (P5 ++ [0])) => h.put (u64N kd) z4 (by simp; omega))
            have T7 := Lib.hid (fun W v (h : CK w g6 g7 x W v (P5 ++ [0] ++ putL (u64N kd))) => h.put (zigN nn) z5 (by simp; omega))
            have T8 := Lib.hid (fun W v (h : CK w g6 g7 x W v (P5 ++ [0] ++ putL (u64N kd) ++ putL (zigN nn))) => h.text ss (s4 rfl) (by simp; omega))
            have Z3 := Lib.hid (fun W => Zig_any nn i5 W)
            have hb : P5.length + ([0] : List UInt8).length ≤ 140737488355328 := by simp; omega
            clear z3 z4 z5 y3 y4 y5 s4 i3 i4 i5 b5
            obtain ⟨kk, hkk⟩ : ∃ kk, u64N kd = kk := ⟨_, rfl⟩
            obtain ⟨nz, hnz⟩ : ∃ nz, zigN nn = nz := ⟨_, rfl⟩
            rw [hkk] at hkd T6 T7 T8
            rw [hnz] at T7 T8 Z3
            have KK := Lib.hid (And.intro hkk hnz); clear hkk hnz
            go_wp2_with fail
            go_region_held3 (fun w' => w'.cell? ⟨g7, 3, none⟩ = some (.int .i64 kd) ∧ w'.cell? ⟨g7, 4, none⟩ = some (.int .i64 nn) ∧ w'.cell? ⟨g7, 5, none⟩ = some (.string ss))
              (first | with_reducible assumption | exact D8.out _ _ _ (CK.drew CK2.out) | exact D8.out _ _ _ (CK.alloc (CK.drew CK2.out) _) | exact D8.out _ _ _ (by with_reducible assumption))
              (first
                | (refine st_gl (by rfl) (.tmp 50) (.tmp 51) (by rfl) w.heap.size _ P5 [0] #[.int .u8 0] 1 1 (by rfl) (by rfl) (by rfl) (by simp) (by rfl) (CK.drew CK2.out).own (CK.drew CK2.out).bel.size hb ?_; intro v3 w3 hO3 hG3; have ck3 := CK.grow (CK.drew CK2.out) hO3 hG3)
                | (go_at_call 81; refine (Z3.out _).mono ?_; rintro e w' ⟨rfl, rfl⟩)
                | (go_at_call_of 79 kk; refine (T6.out _ _ (by with_reducible assumption)).mono ?_; rintro e w' ⟨v, rfl, ck4⟩)
                | (go_at_call_of 79 nz; refine (T7.out _ _ (by with_reducible assumption)).mono ?_; rintro e w' ⟨v, rfl, ck5⟩)
                | (go_at_call 80; refine (T8.out _ _ (by with_reducible assumption)).mono ?_; rintro e w' ⟨v, rfl, ck6⟩))
            all_goals
              have CK6 := Lib.hid ck6; clear ck3 ck4 ck5 ck6
              go_wp2_with fail
              go_roundw
              case rel => exact ⟨i + 1, by go_num, by omega, HN.out _ _ ([0] ++ putL kk ++ putL nz ++ textL ss.toList) (by simp only [← List.append_assoc]; exact CK6.out) (by rw [HVER.out, KK.out.1, KK.out.2]; rfl), CK6.out.bel⟩
              case measure => (first | (simp [intOf]; done) | (simp [intOf]; omega))
    · have hz : ¬ (i : Int) < (L.length : Int) := by omega
      obtain rfl : i = L.length := by omega
      go_wp2_with fail
      go_ret
      have := HO.out
      rw [List.take_length] at this
      exact ⟨_, rfl, this, HB.out⟩
end Go.Proofs.YtplghaoflmaadaaGreatDoor
end

section
set_option linter.unusedVariables false
set_option linter.unusedSimpArgs false
set_option maxRecDepth 50000
namespace Go.Proofs.YtplghaoflmaadaaGreatDoor
open Go.RowKit Go.Sort
open Go.Lib hiding intOf

/-- a cell's texts are not too long -/
structure CelT (c : Cel) : Prop where
  ht : c.k.t.size ≤ maxLen
  hp : c.k.p.size ≤ maxLen
  hq : c.k.c.size ≤ maxLen
  hs : c.v.s.size ≤ maxLen
def zEq (v : Vr) : Bool := valEq v.kind v.n v.s 0 0 ⟨#[]⟩
def goodW (q : ByteArray) (v : Vr) : Bool :=
  if v.dead = true then zEq v else if v.loc ≠ 0 then false else if strE q ≠ (v.kind == 0) then false else
  if v.kind = 0 then zEq v else if v.kind = 1 then strE v.s else if v.kind = 2 then (v.n == 0 && decide (v.s.size ≤ 64)) else false
def goodC (c : Cel) : Bool := goodB c.k.t c.k.p c.k.c && goodW c.k.c c.v
def goodC2 (c : Cel) : Bool := goodR c.k.t c.k.p c.k.c && goodW c.k.c c.v
theorem zval_eql (w : World) (k n : Int) (s : ByteArray) :
    (binOp .eql 47 (.agg #[.int .i64 k, .int .i64 n, .string s]) (.agg #[.int .i64 0, .int .i64 0, .string ⟨#[]⟩])).run Tryz.prog w = .ok (.bool (valEq k n s 0 0 ⟨#[]⟩)) w := by
  rw [run_eql_struct, valIn 9998]; rfl

set_option maxHeartbeats 4000000 in
theorem goodC_any (c : Cel) (w : World) (hc : CelT c) : Calls Tryz.prog 25 #[.agg (celEnc c).toArray] w fun e w' => e = .returned (.bool (goodC c)) ∧ Below w.heap.size w w' := by
  have K := Lib.hid (fun W => good_any c.k.t c.k.p c.k.c c.k.r W hc.ht hc.hp hc.hq)
  have Q := fun W => zval_eql W c.v.kind c.v.n c.v.s
  have HS := hc.hs
  unfold maxLen at HS
  clear hc
  obtain ⟨R, hR⟩ : ∃ R, goodC c = R := ⟨_, rfl⟩
  rw [hR]
  unfold goodC at hR
  generalize goodB c.k.t c.k.p c.k.c = gb at *
  cases gb with
  | false =>
    obtain rfl : false = R := by simpa using hR
    clear hR
    obtain ⟨⟨t, p, r, q⟩, ⟨tm, d, lo, kd, n, s⟩⟩ := c
    simp only [celEnc] at *
    go_enter Tryz.func25, Tryz.ntmps25
    go_wp2_with (first | (go_at_call 64; refine (K.out _).mono ?_; rintro e w' ⟨rfl, hb⟩; obtain ⟨hc1, hf1⟩ := bcell hb))
    all_goals go_ret
    all_goals refine ⟨ret_b rfl, by (repeat (first | exact Below.refl _ _ | assumption | refine below_alloc ?_ _ | refine Below.drew ?_ | refine below_drewN ?_ _ | refine below_tr ?_ (by assumption)))⟩
  | true =>
    obtain ⟨⟨t, p, r, q⟩, ⟨tm, d, lo, kd, n, s⟩⟩ := c
    simp only [celEnc] at *
    cases d
    all_goals
      simp only [goodW, zEq, Bool.true_and, if_true, Bool.false_eq_true, if_false] at hR
      generalize valEq kd n s 0 0 ⟨#[]⟩ = z at *
      have HR := Lib.hid hR; clear hR
      go_enter Tryz.func25, Tryz.ntmps25
      go_wp2_with (first | (go_at_call 64; refine (K.out _).mono ?_; rintro e w' ⟨rfl, hb⟩; obtain ⟨hc1, hf1⟩ := bcell hb))
      all_goals go_ret
      all_goals refine ⟨ret_b ?_, by (repeat (first | exact Below.refl _ _ | assumption | refine below_alloc ?_ _ | refine Below.drew ?_ | refine below_drewN ?_ _ | refine below_tr ?_ (by assumption)))⟩
      all_goals rw [← HR.out]
      all_goals ((try unfold strE); first | rfl | (simp [*]; done) | (simp [*]; omega) | grind)
set_option maxHeartbeats 4000000 in
theorem rgoodC_any (c : Cel) (w : World) (hc : CelT c) : Calls Tryz.prog 45 #[.agg (celEnc c).toArray] w fun e w' => e = .returned (.bool (goodC2 c)) ∧ Below w.heap.size w w' := by
  have K := Lib.hid (fun W => rgood_any c.k.t c.k.p c.k.c c.k.r W hc.ht hc.hp hc.hq)
  have Q := fun W => zval_eql W c.v.kind c.v.n c.v.s
  have HS := hc.hs
  unfold maxLen at HS
  clear hc
  obtain ⟨R, hR⟩ : ∃ R, goodC2 c = R := ⟨_, rfl⟩
  rw [hR]
  unfold goodC2 at hR
  generalize goodR c.k.t c.k.p c.k.c = gb at *
  cases gb with
  | false =>
    obtain rfl : false = R := by simpa using hR
    clear hR
    obtain ⟨⟨t, p, r, q⟩, ⟨tm, d, lo, kd, n, s⟩⟩ := c
    simp only [celEnc] at *
    go_enter Tryz.func45, Tryz.ntmps45
    go_wp2_with (first | (go_at_call 89; refine (K.out _).mono ?_; rintro e w' ⟨rfl, hb⟩; obtain ⟨hc1, hf1⟩ := bcell hb))
    all_goals go_ret
    all_goals refine ⟨ret_b rfl, by (repeat (first | exact Below.refl _ _ | assumption | refine below_alloc ?_ _ | refine Below.drew ?_ | refine below_drewN ?_ _ | refine below_tr ?_ (by assumption)))⟩
  | true =>
    obtain ⟨⟨t, p, r, q⟩, ⟨tm, d, lo, kd, n, s⟩⟩ := c
    simp only [celEnc] at *
    cases d
    case false =>
      simp only [goodW, zEq, Bool.true_and, if_true, Bool.false_eq_true, if_false] at hR
      generalize valEq kd n s 0 0 ⟨#[]⟩ = z at *
      have HR := Lib.hid hR; clear hR
      have BW := Lib.hid (fun (W : World) (hb : Below (w.alloc (.cells #[.string t, .string p, .int .i64 r, .string q, .int .i64 tm, .bool false, .int .i64 lo, .int .i64 kd, .int .i64 n, .string s] 61)).heap.size (w.alloc (.cells #[.string t, .string p, .int .i64 r, .string q, .int .i64 tm, .bool false, .int .i64 lo, .int .i64 kd, .int .i64 n, .string s] 61)) W) => (Blk.new w 61 #[.string t, .string p, .int .i64 r, .string q, .int .i64 tm, .bool false, .int .i64 lo, .int .i64 kd, .int .i64 n, .string s]).below hb)
      go_enter Tryz.func45, Tryz.ntmps45
      go_wp2_with fail
      refine (K.out _).mono ?_
      rintro e w' ⟨rfl, hb⟩
      have z0 := BW.out w' hb
      have z3 := z0.cell 3 rfl; have z1 := z0.cell 4 rfl; have z2 := z0.cell 5 rfl; have z4 := z0.cell 6 rfl; have z5 := z0.cell 7 rfl; have z6 := z0.cell 8 rfl; have z7 := z0.cell 9 rfl
      have wl : w.heap.size < w'.heap.size := Nat.lt_of_lt_of_le (by simp) hb.size
      clear z0
      go_wp2_with fail
      all_goals go_ret
      all_goals refine ⟨ret_b ?_, by (repeat (first | exact Below.refl _ _ | assumption | refine below_alloc ?_ _ | refine Below.drew ?_ | refine below_drewN ?_ _ | refine below_tr ?_ (by assumption)))⟩
      all_goals rw [← HR.out]
      all_goals ((try unfold strE); first | rfl | (simp [*]; done) | (simp [*]; omega) | grind)
    case true =>
      simp only [goodW, zEq, Bool.true_and, if_true, Bool.false_eq_true, if_false] at hR
      generalize valEq kd n s 0 0 ⟨#[]⟩ = z at *
      have HR := Lib.hid hR; clear hR
      have BW := Lib.hid (fun (W : World) (hb : Below (w.alloc (.cells #[.string t, .string p, .int .i64 r, .string q, .int .i64 tm, .bool true, .int .i64 lo, .int .i64 kd, .int .i64 n, .string s] 61)).heap.size (w.alloc (.cells #[.string t, .string p, .int .i64 r, .string q, .int .i64 tm, .bool true, .int .i64 lo, .int .i64 kd, .int .i64 n, .string s] 61)) W) => (Blk.new w 61 #[.string t, .string p, .int .i64 r, .string q, .int .i64 tm, .bool true, .int .i64 lo, .int .i64 kd, .int .i64 n, .string s]).below hb)
      go_enter Tryz.func45, Tryz.ntmps45
      go_wp2_with fail
      refine (K.out _).mono ?_
      rintro e w' ⟨rfl, hb⟩
      have z0 := BW.out w' hb
      have z3 := z0.cell 3 rfl; have z1 := z0.cell 4 rfl; have z2 := z0.cell 5 rfl; have z4 := z0.cell 6 rfl; have z5 := z0.cell 7 rfl; have z6 := z0.cell 8 rfl; have z7 := z0.cell 9 rfl
      have wl : w.heap.size < w'.heap.size := Nat.lt_of_lt_of_le (by simp) hb.size
      clear z0
      go_wp2_with fail
      all_goals go_ret
      all_goals refine ⟨ret_b ?_, by (repeat (first | exact Below.refl _ _ | assumption | refine below_alloc ?_ _ | refine Below.drew ?_ | refine below_drewN ?_ _ | refine below_tr ?_ (by assumption)))⟩
      all_goals rw [← HR.out]
      all_goals ((try unfold strE); first | rfl | (simp [*]; done) | (simp [*]; omega) | grind)
end Go.Proofs.YtplghaoflmaadaaGreatDoor
end

section
set_option linter.unusedVariables false
set_option linter.unusedSimpArgs false
set_option maxRecDepth 50000
namespace Go.Proofs.YtplghaoflmaadaaGreatDoor
open Go.RowKit Go.Sort

theorem cloneC_any (g o n c : Nat) (L : List Cel) (w : World) (HV : SlX eC w.heap.size w (.slice (some ⟨g, o, none⟩) n c) L) (hl : L.length ≤ 1000000) :
    Calls Tryz.prog 65 #[.slice (some ⟨g, o, none⟩) n c] w
      fun e w' => ∃ v, e = .returned v ∧ OwnX eC w' w.heap.size v L ∧ Below w.heap.size w w' := by
  have q22 : ∀ (w : World), (binOp .eql 22 (.slice (some ⟨g, o, none⟩) n c) (.slice none 0 0)).run Tryz.prog w = .ok (.bool false) w := fun w => Lib.run_eql_slice_nil w _ _ _ n c 0 0 Tryz.underlying22
  have H0 := Lib.hid (OwnX.lit (E := eC) w w.heap.size #[] [] 0 (Nat.le_refl _) rfl (by simp) rfl)
  have HB0 := Lib.hid (below_alloc (Below.refl _ w) (.cells #[] 61))
  have HVa := Lib.hid (HV.below HB0.out)
  clear HV
  have hlx : ([] : List Cel).length + L.length ≤ 9223372036854775807 := by simp; omega
  have hly : (([] : List Cel).length + L.length) * eC.bytes ≤ 140737488355328 := by show (_ + _) * 112 ≤ _; simp; omega
  go_enter Tryz.func65, Tryz.ntmps65
  go_wp2_with (at_builtin; go_must (refine ap_x (E := eC) rfl (.tmp 5) (.tmp 6) rfl w.heap.size (.slice (some ⟨w.heap.size, 0, none⟩) 0 0) [] w.heap.size _ L rfl rfl HVa.out H0.out HB0.out HB0.out.size hlx hly ?_); intro v2 w2 hO2 hB2 hz2 _)
  go_ret
  exact ⟨v2, rfl, hO2, hB2⟩

theorem ins1_any (a : Option Addr) (c n : Nat) (f : Value) (w : World) (hn : n ≤ 1) :
    Calls Tryz.prog 130 #[.slice a n c, .int .i64 0, .int .i64 (n : Int), f] w fun e w' => e = .returned (.tuple #[]) ∧ w = w' := by
  have hz : ¬ (1 : Int) < (n : Int) := by omega
  have HZ := Lib.hid hz; clear hz hn
  go_enter Tryz.func130, Tryz.ntmps130
  go_wp2_with fail
  go_loopw [8, 9] (fun v8 _ wr => v8 = .int .i64 1 ∧ w = wr) (fun _ _ _ => 0)
  case atStart => exact ⟨rfl, rfl⟩
  case round =>
    obtain ⟨rfl, rfl⟩ := hrel
    have hz := HZ.out
    go_wp2_with fail
    exact bodyPost_end (v := .tuple #[]) (by simp [results, Tryz.results130, go_sem]) rfl ⟨rfl, rfl⟩
theorem stable1_any (a : Option Addr) (c n : Nat) (f : Value) (w : World) (hn : n ≤ 1) :
    Calls Tryz.prog 109 #[.slice a n c, .int .i64 (n : Int), f] w fun e w' => e = .returned (.tuple #[]) ∧ w = w' := by
  have C := Lib.hid (fun W => ins1_any a c n f W hn)
  have hz : ¬ (20 : Int) ≤ (n : Int) := by omega
  have hz2 : ¬ (20 : Int) < (n : Int) := by omega
  have HZ := Lib.hid hz; have HZ2 := Lib.hid hz2; clear hz hz2 hn
  go_enter Tryz.func109, Tryz.ntmps109
  go_wp2_with fail
  go_loopw [7, 8] (fun v7 v8 wr => v7 = .int .i64 0 ∧ v8 = .int .i64 20 ∧ w = wr) (fun _ _ _ => 0)
  case atStart => exact ⟨rfl, rfl, rfl⟩
  case round =>
    obtain ⟨rfl, rfl, rfl⟩ := hrel
    have hz := HZ.out
    go_wp2_with fail
    refine (C.out _).mono ?_
    rintro e w1 ⟨rfl, rfl⟩
    go_wp2_with fail
    go_loopw [6, 7, 8, 9] (fun v6 _ _ _ wr => v6 = .int .i64 20 ∧ w = wr) (fun _ _ _ _ _ => 0)
    case atStart => exact ⟨rfl, rfl⟩
    case round =>
      obtain ⟨rfl, rfl⟩ := hrel
      have hz2 := HZ2.out
      go_wp2_with fail
      exact bodyPost_end (v := .tuple #[]) (by simp [results, Tryz.results109, go_sem]) rfl ⟨rfl, rfl⟩
theorem sort1_any (a : Option Addr) (c n : Nat) (f : Value) (w : World) (hn : n ≤ 1) :
    Calls Tryz.prog 66 #[.slice a n c, f] w fun e w' => e = .returned (.tuple #[]) ∧ w = w' := by
  have C := Lib.hid (fun W => stable1_any a c n f W hn)
  clear hn
  go_enter Tryz.func66, Tryz.ntmps66
  go_wp2_with fail
  refine (C.out _).mono ?_
  rintro e w1 ⟨rfl, rfl⟩
  go_wp2_with fail
  exact bodyPost_end (v := .tuple #[]) (by simp [results, Tryz.results66, go_sem]) rfl ⟨rfl, rfl⟩

set_option maxHeartbeats 2000000 in
theorem fold1_any (g o c : Nat) (x : Cel) (f1 f2 : Value) (w : World) (HV : SlX eC w.heap.size w (.slice (some ⟨g, o, none⟩) 1 c) [x]) :
    Calls Tryz.prog 68 #[.slice (some ⟨g, o, none⟩) 1 c, f1, f2] w fun e w' => ∃ v, e = .returned v ∧ OwnX eC w' w.heap.size v [x] ∧ Below w.heap.size w w' := by
  have ten := Ten.of HV 0 (by simp)
  simp only [List.getElem_cons_zero, Nat.zero_mul, Nat.add_zero] at ten
  have TEN := Lib.hid ten
  clear HV ten
  go_enter Tryz.func68, Tryz.ntmps68
  go_wp2_with fail
  go_loopw [7, 9, 10, 13] (fun v7 _ _ v13 wr => (v13 = .int .i64 0 ∧ v7 = .slice none 0 0 ∧ w = wr) ∨ (v13 = .int .i64 1 ∧ OwnX eC wr w.heap.size v7 [x] ∧ Below w.heap.size w wr)) (fun _ _ _ v13 _ => 1 - (intOf v13).toNat)
  case atStart => exact .inl ⟨rfl, rfl, rfl⟩
  case round =>
    rcases hrel with ⟨rfl, rfl, rfl⟩ | ⟨rfl, hO, hB⟩
    · obtain ⟨c0, c1, c2, c3, c4, c5, c6, c7, c8, c9⟩ := TEN.out
      obtain ⟨⟨t, p, r, q⟩, ⟨tm, dd, lc, kd, nn, ss⟩⟩ := x
      simp only at *
      go_wp2_with fail
      go_quiet (fail)
      have hbk : Blk (w.alloc (.cells #[.string t, .string p, .int .i64 r, .string q, .int .i64 tm, .bool dd, .int .i64 lc, .int .i64 kd, .int .i64 nn, .string ss] 61)) w.heap.size 61 #[.string t, .string p, .int .i64 r, .string q, .int .i64 tm, .bool dd, .int .i64 lc, .int .i64 kd, .int .i64 nn, .string ss] := Blk.new w _ _
      have HBK := Lib.hid (hbk.drewN nq)
      have HBV := Lib.hid (below_drewN (below_alloc (Below.refl _ w) (.cells #[.string t, .string p, .int .i64 r, .string q, .int .i64 tm, .bool dd, .int .i64 lc, .int .i64 kd, .int .i64 nn, .string ss] 61)) nq)
      clear hbk c0 c1 c2 c3 c4 c5 c6 c7 c8 c9
      generalize hV : (w.alloc (.cells #[.string t, .string p, .int .i64 r, .string q, .int .i64 tm, .bool dd, .int .i64 lc, .int .i64 kd, .int .i64 nn, .string ss] 61)).drewN nq = V at *
      have HV := Lib.hid hV; clear hV
      have c0 := HBK.out.cell 0 rfl; have c1 := HBK.out.cell 1 rfl; have c2 := HBK.out.cell 2 rfl; have c3 := HBK.out.cell 3 rfl; have c4 := HBK.out.cell 4 rfl
      have c5 := HBK.out.cell 5 rfl; have c6 := HBK.out.cell 6 rfl; have c7 := HBK.out.cell 7 rfl; have c8 := HBK.out.cell 8 rfl; have c9 := HBK.out.cell 9 rfl
      have HW := Lib.hid (below_al HBV.out (.cells #[.string t, .string p, .int .i64 r, .string q, .int .i64 tm, .bool dd, .int .i64 lc, .int .i64 kd, .int .i64 nn, .string ss] 61) HBV.out.size)
      go_wp2_with (at_builtin; go_must (refine ap_x (E := eC) rfl (.tmp 43) (.tmp 45) rfl w.heap.size (.slice none 0 0) [] _ _ [⟨⟨t, p, r, q⟩, ⟨tm, dd, lc, kd, nn, ss⟩⟩] rfl rfl (SlX.lit (E := eC) V #[.string t, .string p, .int .i64 r, .string q, .int .i64 tm, .bool dd, .int .i64 lc, .int .i64 kd, .int .i64 nn, .string ss] [⟨⟨t, p, r, q⟩, ⟨tm, dd, lc, kd, nn, ss⟩⟩] 1 1 rfl (by simp) rfl) (OwnX.nil _ _) HW.out HW.out.size (by simp) (by simp [eC]) ?_); intro v2 w2 hO2 hB2 hz2 _)
      exact ⟨.inr ⟨rfl, hO2, hB2⟩, by simp [intOf]⟩
    · obtain ⟨gx, cx, rfl, _⟩ := OwnX.formN hO 1 rfl (by omega)
      have HO := Lib.hid hO; have HB := Lib.hid hB; clear hO hB
      go_wp2_with fail
      go_ret
      exact ⟨_, rfl, HO.out, HB.out⟩

theorem norm1_any (g o c : Nat) (x : Cel) (w : World) (HV : SlX eC w.heap.size w (.slice (some ⟨g, o, none⟩) 1 c) [x]) :
    Calls Tryz.prog 26 #[.slice (some ⟨g, o, none⟩) 1 c] w fun e w' => ∃ v, e = .returned v ∧ OwnX eC w' w.heap.size v [x] ∧ Below w.heap.size w w' := by
  have C1 := Lib.hid (cloneC_any g o 1 c [x] w HV (by simp))
  clear HV
  go_enter Tryz.func26, Tryz.ntmps26
  go_wp2_with fail
  refine C1.out.mono ?_
  rintro e w1 ⟨v, rfl, hO, hb⟩
  obtain ⟨gx, cx, rfl, _⟩ := OwnX.formN hO 1 rfl (by omega)
  have C2 := Lib.hid (fun f => sort1_any (some ⟨gx, 0, none⟩) cx 1 f w1 (Nat.le_refl _))
  have C3 := Lib.hid (fun f1 f2 => fold1_any gx 0 cx x f1 f2 w1 hO.sl)
  have HB1 := Lib.hid hb
  clear hO hb
  go_wp2_with fail
  refine (C2.out _).mono ?_
  rintro e w2 ⟨rfl, rfl⟩
  go_wp2_with fail
  refine (C3.out _ _).mono ?_
  rintro e w3 ⟨v, rfl, hO, hb⟩
  obtain ⟨gy, cy, rfl, _⟩ := OwnX.formN hO 1 rfl (by omega)
  have HO := Lib.hid (OwnX.weaken hO HB1.out.size); have HB := Lib.hid (below_tr HB1.out hb)
  clear hO hb
  go_wp2_with fail
  go_ret
  exact ⟨_, rfl, HO.out, HB.out⟩
end Go.Proofs.YtplghaoflmaadaaGreatDoor
end
