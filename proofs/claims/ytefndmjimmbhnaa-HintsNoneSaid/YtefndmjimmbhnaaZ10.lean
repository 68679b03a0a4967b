/- Contracts of cmp.Or at numbers, of cell's rank and Cmp. No condition. Contract of the codec's Cells. Conditions: the row's own bounds. Contracts of the codec's reader of cells: its methods give up by a panic where bytes are none. Condition: at most a million bytes. -/
import Derived.Test.YtefndmjimmbhnaaZ07
import Derived.Test.YtefndmjimmbhnaaZ09
import Derived.Test.YtefndmjimmbhnaaZ48
import Derived.Test.YtefndmjimmbhnaaZ08
import Derived.Recover
import Derived.Laws.Pointers
section
set_option linter.unusedVariables false
set_option linter.unusedSimpArgs false
set_option maxRecDepth 50000
namespace Go.Proofs.Ytefndmjimmbhnaa
open Go.RowKit Go.Sort
open Go.Lib hiding intOf

/-- the first that is not 0 -/
def orL : List Int → Int
  | [] => 0
  | x :: l => if x = 0 then orL l else x
theorem orL_drop (xs : List Int) (k : Nat) (h : k < xs.length) : orL (xs.drop k) = if xs[k] = 0 then orL (xs.drop (k + 1)) else xs[k] := by
  rw [List.drop_eq_getElem_cons h]; rfl
def rk (d : Bool) : Int := if d then 1 else 0
/-- '==' of two values, of two versions -/
def valEq (k1 n1 : Int) (s1 : ByteArray) (k2 n2 : Int) (s2 : ByteArray) : Bool := k1 == k2 && (n1 == n2 && (s1.toList == s2.toList && true))
def verEq (a b : Vr) : Bool := a.time == b.time && (a.dead == b.dead && (a.loc == b.loc && (valEq a.kind a.n a.s b.kind b.n b.s && true)))
theorem valEq_iff (k1 n1 : Int) (s1 : ByteArray) (k2 n2 : Int) (s2 : ByteArray) : valEq k1 n1 s1 k2 n2 s2 = true ↔ (k1 = k2 ∧ n1 = n2 ∧ s1 = s2) := by
  unfold valEq
  simp only [Bool.and_eq_true, beq_iff_eq, and_true]
  constructor
  · rintro ⟨h1, h2, h3⟩; exact ⟨h1, h2, toList_inj h3⟩
  · rintro ⟨h1, h2, h3⟩; exact ⟨h1, h2, by rw [h3]⟩
theorem verEq_iff (a b : Vr) : verEq a b = true ↔ a = b := by
  obtain ⟨t, d, l, k, n, s⟩ := a; obtain ⟨t', d', l', k', n', s'⟩ := b
  unfold verEq
  simp only [Bool.and_eq_true, beq_iff_eq, and_true, valEq_iff, Vr.mk.injEq]
theorem valIn (d : Nat) (w : World) (k1 n1 : Int) (s1 : ByteArray) (k2 n2 : Int) (s2 : ByteArray) :
    (Op.equalIn (d + 2) 58 (.agg #[.int .i64 k1, .int .i64 n1, .string s1]) (.agg #[.int .i64 k2, .int .i64 n2, .string s2])).run Try.prog w = .ok (valEq k1 n1 s1 k2 n2 s2) w := by
  refine eqS Try.underlying58 (by kernel_rfl) ?_
  refine eqF (by rfl) (by go_simp; rfl) (by go_simp; rfl) (by go_simp) ?_
  refine eqF (by rfl) (by go_simp; rfl) (by go_simp; rfl) (by go_simp) ?_
  refine eqF (by rfl) (by go_simp; rfl) (by go_simp; rfl) (by go_simp) ?_
  exact eqN
theorem verIn (d : Nat) (w : World) (a b : Vr) : (Op.equalIn (d + 3) 60 (.agg (vrEnc a).toArray) (.agg (vrEnc b).toArray)).run Try.prog w = .ok (verEq a b) w := by
  obtain ⟨t, d1, l, k, n, s⟩ := a; obtain ⟨t', d', l', k', n', s'⟩ := b
  refine eqS Try.underlying60 (by kernel_rfl) ?_
  refine eqF (by rfl) (by simp only [vrEnc]; go_simp; rfl) (by simp only [vrEnc]; go_simp; rfl) (by go_simp) ?_
  refine eqF (by rfl) (by simp only [vrEnc]; go_simp; rfl) (by simp only [vrEnc]; go_simp; rfl) (by go_simp) ?_
  refine eqF (by rfl) (by simp only [vrEnc]; go_simp; rfl) (by simp only [vrEnc]; go_simp; rfl) (by go_simp) ?_
  refine eqF (by rfl) (by simp only [vrEnc]; go_simp <;> rfl) (by simp only [vrEnc]; go_simp <;> rfl) (valIn d w k n s k' n' s') ?_
  exact eqN
theorem ver_eql (w : World) (a b : Vr) : (binOp .eql 60 (.agg (vrEnc a).toArray) (.agg (vrEnc b).toArray)).run Try.prog w = .ok (.bool (verEq a b)) w := by
  rw [run_eql_struct, verIn 9997]; rfl

/-- the order of versions -/
def cmpV (a b : Vr) : Int := if verEq a b = true then 0 else
  if orL [cmpI a.time b.time, cmpI (rk a.dead) (rk b.dead)] ≠ 0 then orL [cmpI a.time b.time, cmpI (rk a.dead) (rk b.dead)] else
  if a.dead = true then cmpI a.loc b.loc else orL [cmpI a.kind b.kind, cmpI a.n b.n, cmpS a.s b.s]
/-- the six cells of a version -/
structure Six (w : World) (g o : Nat) (v : Vr) : Prop where
  c0 : w.cell? ⟨g, o, none⟩ = some (.int .i64 v.time)
  c1 : w.cell? ⟨g, o + 1, none⟩ = some (.bool v.dead)
  c2 : w.cell? ⟨g, o + 2, none⟩ = some (.int .i64 v.loc)
  c3 : w.cell? ⟨g, o + 3, none⟩ = some (.int .i64 v.kind)
  c4 : w.cell? ⟨g, o + 4, none⟩ = some (.int .i64 v.n)
  c5 : w.cell? ⟨g, o + 5, none⟩ = some (.string v.s)
theorem Six.keep {w w1 : World} {g o : Nat} {v : Vr} (h : Six w g o v) (hb : Below w.heap.size w w1) : Six w1 g o v :=
  ⟨cell_keep hb h.c0, cell_keep hb h.c1, cell_keep hb h.c2, cell_keep hb h.c3, cell_keep hb h.c4, cell_keep hb h.c5⟩
theorem Blk.six {w : World} {g : Nat} {v : Vr} (h : Blk w g 60 (vrEnc v).toArray) : Six w g 0 v := ⟨h.cell 0 rfl, h.cell 1 rfl, h.cell 2 rfl, h.cell 3 rfl, h.cell 4 rfl, h.cell 5 rfl⟩
/-- the three cells of a value -/
structure Thr (w : World) (g : Nat) (k n : Int) (s : ByteArray) : Prop where
  c0 : w.cell? ⟨g, 0, none⟩ = some (.int .i64 k)
  c1 : w.cell? ⟨g, 1, none⟩ = some (.int .i64 n)
  c2 : w.cell? ⟨g, 2, none⟩ = some (.string s)
theorem Thr.keep {w w1 : World} {g : Nat} {k n : Int} {s : ByteArray} (h : Thr w g k n s) (hb : Below w.heap.size w w1) : Thr w1 g k n s := ⟨cell_keep hb h.c0, cell_keep hb h.c1, cell_keep hb h.c2⟩
end Go.Proofs.Ytefndmjimmbhnaa
end

section
set_option linter.unusedVariables false
set_option linter.unusedSimpArgs false
set_option maxRecDepth 50000
namespace Go.Proofs.Ytefndmjimmbhnaa
open Go.RowKit

/-- a cell's numbers are ints -/
structure CelIn (c : Cel) : Prop where
  row : In64 c.k.r
  time : In64 c.v.time
  loc : In64 c.v.loc
  kind : In64 c.v.kind
  num : In64 c.v.n
theorem kind_wrap (n : Int) (h : In64 n) : IntKind.u64.wrap n = (u64N n : Int) := by unfold u64N; rw [wu64]; omega
/-- What is written, beside a cell's two variables. -/
structure CK (w0 : World) (g6 g7 : Nat) (x : Cel) (W : World) (v : Value) (l : List UInt8) : Prop where
  own : OwnB W w0.heap.size v l
  k6 : Blk W g6 56 (kyEnc x.k).toArray
  k7 : Blk W g7 60 (vrEnc x.v).toArray
  bel : Below w0.heap.size w0 W
section
variable {w0 W W1 : World} {g6 g7 : Nat} {x : Cel} {v v1 : Value} {l l1 : List UInt8}
theorem CK.drew (h : CK w0 g6 g7 x W v l) : CK w0 g6 g7 x W.drew v l := ⟨h.own.drew, h.k6.drew, h.k7.drew, h.bel.drew⟩
theorem CK.alloc (h : CK w0 g6 g7 x W v l) (o : Obj) : CK w0 g6 g7 x (W.alloc o) v l := ⟨h.own.alloc o, h.k6.alloc o, h.k7.alloc o, below_al h.bel o h.bel.size⟩
theorem CK.grow (h : CK w0 g6 g7 x W v l) (ho : OwnB W1 w0.heap.size v1 l1) (hg : GrowV W W1 v v1) : CK w0 g6 g7 x W1 v1 l1 :=
  ⟨ho, h.k6.growV (own_eB.2 h.own) hg (by decide), h.k7.growV (own_eB.2 h.own) hg (by decide), h.bel.trans (hg.below h.bel.size h.own.base)⟩
theorem Blk.at {w : World} {g : Nat} (t : TypeId) (cs : Array Value) (hg : g = w.heap.size) : Blk (w.alloc (.cells cs t)) g t cs := by subst hg; exact Blk.new w t cs
theorem CK.start1 (ho : OwnB W w0.heap.size v l) (hb : Below w0.heap.size w0 W) (o : Obj) {cs6 cs7 : Array Value} (h6 : (kyEnc x.k).toArray = cs6) (h7 : (vrEnc x.v).toArray = cs7) :
    CK w0 (W.heap.size + 1) (W.heap.size + 1 + 1) x (((W.alloc o).alloc (.cells cs6 56)).alloc (.cells cs7 60)).drew v l := by
  subst h6 h7
  exact CK.drew ⟨((ho.alloc _).alloc _).alloc _, (Blk.at _ _ (by simp)).alloc _, Blk.at _ _ (by simp), below_al (below_al (below_al hb _ hb.size) _ (by have := hb.size; simp; omega)) _ (by have := hb.size; simp; omega)⟩
theorem CK.start2 (ho : OwnB W w0.heap.size v l) (hb : Below w0.heap.size w0 W) (o : Obj) {cs6 cs7 : Array Value} (h6 : (kyEnc x.k).toArray = cs6) (h7 : (vrEnc x.v).toArray = cs7) :
    CK w0 (W.heap.size + 1 + 1) (W.heap.size + 1) x (((W.alloc o).alloc (.cells cs7 60)).alloc (.cells cs6 56)).drew v l := by
  subst h6 h7
  exact CK.drew ⟨((ho.alloc _).alloc _).alloc _, Blk.at _ _ (by simp), (Blk.at _ _ (by simp)).alloc _, below_al (below_al (below_al hb _ hb.size) _ (by have := hb.size; simp; omega)) _ (by have := hb.size; simp; omega)⟩
def RetK (w0 : World) (g6 g7 : Nat) (x : Cel) (l : List UInt8) (e : Ending) (w' : World) : Prop := ∃ v, e = .returned v ∧ CK w0 g6 g7 x w' v l
theorem CK.put (h : CK w0 g6 g7 x W v l) (u : Nat) (hu : u < 18446744073709551616) (hl : l.length ≤ 10000000000) : Calls Try.prog 72 #[v, .int .u64 (u : Int)] W (RetK w0 g6 g7 x (l ++ putL u)) :=
  (putG_any w0.heap.size v l u W h.own h.bel.size hu (by omega)).mono fun e w' ⟨v', he, ho, hg⟩ => ⟨v', he, h.grow ho hg⟩
theorem CK.text (h : CK w0 g6 g7 x W v l) (s : ByteArray) (hs : s.size ≤ 1000000) (hl : l.length ≤ 10000000000) : Calls Try.prog 73 #[v, .string s] W (RetK w0 g6 g7 x (l ++ textL s.toList)) :=
  (textG_any w0.heap.size v l s W h.own h.bel.size hs hl).mono fun e w' ⟨v', he, ho, hg⟩ => ⟨v', he, h.grow ho hg⟩
end
/-- few bytes that lie in the block that was made last, appended within a drawn region -/
theorem st_gl {ops : Array Oper} {o : Oper} {a : Act} {K : Act → World → Prop} {Q : Exit → Act → World → Prop} {W : World} {EE : Prop} (hgd : o.guard = none) (s x : Operand) (ho : o.op = .call { callee := .builtin .append, args := #[s, x], argTypes := #[69, 69] })
    (base : Nat) (v : Value) (l : List UInt8) (news : List UInt8) (cs : Array Value) (n c : Nat) (hs : a.eval s = v) (hx : a.eval x = .slice (some ⟨W.heap.size, 0, none⟩) n c) (hn : n = news.length) (hc : news.length ≤ c) (hcs : cs.toList = bcells news) (HO : OwnB W base v l) (hbase : base ≤ W.heap.size) (hl : l.length + news.length ≤ 140737488355328)
    (h : ∀ v1 w1, OwnB w1 base v1 (l ++ news) → GrowV W w1 v v1 → K (a.put o.dst v1) w1) : if Region.wanted o (yielded ops a.tmps) = true then Oper.wp Try.prog o a (W.alloc (.cells cs 5)) K Q else EE := by
  refine st_x (E := eB) hgd s x ho base v l _ _ news hs hx (SlX.lit (E := eB) W cs news n c hn hc (by rw [eB_cells]; exact hcs)) (OwnX.alloc (own_eB.2 HO) _) (Nat.le_trans hbase (by simp)) (by omega) (by show _ * 1 ≤ _; omega) ?_
  intro v1 w1 hO hg hw
  refine h v1 w1 (own_eB.1 hO) ⟨(GrowV.pre (v' := v1) (below_alloc (Below.refl _ _) _) ⟨hg, ?_⟩).1, ?_⟩
  · rcases hw with hw | hw
    · exact .inl hw
    · exact .inr fun k hk => by rw [hw] at hk; injection hk with hk; omega
  · rcases hw with hw | hw
    · exact .inl hw
    · exact .inr fun k hk => by rw [hw] at hk; injection hk with hk; simp at hk; omega
set_option maxHeartbeats 4000000 in
theorem Cells_any (v : Value) (L : List Cel) (w : World) (hv : SlX eC w.heap.size w v L) (hin : ∀ c ∈ L, CelIn c) (hl : (L.flatMap cellL).length ≤ 1000000) (hn : L.length ≤ 1000000) :
    Calls Try.prog 49 #[v] w (RetB w.heap.size w (cellsL L)) := by
  have HV := Lib.hid hv
  obtain ⟨a, cap, rfl, hc, hx⟩ := hv.ex
  have HX := Lib.hid hx; clear hx hv
  have C0 := Lib.hid (putG_any w.heap.size (.slice none 0 0) [] L.length w (OwnB.nil _ _) (Nat.le_refl _) (by omega) (by simp))
  have hW : IntKind.u64.wrap (L.length : Int) = (L.length : Int) := by rw [wu64]; omega
  have hpl := putL_len 9 L.length (by omega)
  unfold cellsL
  have HIN := Lib.hid hin; have HL := Lib.hid hl; have HPL := Lib.hid hpl
  clear hin hl hpl
  go_enter Try.func49, Try.ntmps49
  go_wp2_with fail
  refine C0.out.mono ?_
  rintro e w1 ⟨v1, rfl, hO1, hG1⟩
  rw [List.nil_append] at hO1
  have HO1 := Lib.hid hO1; have HB1 := Lib.hid (hG1.below (Nat.le_refl _) (by intro k hk; simp [Value.ownBlock] at hk))
  clear hO1 hG1 C0 hW
  generalize putL L.length = pl at *
  go_wp2_with fail
  go_loopw [3, 14] (fun v3 v14 wr => ∃ i : Nat, v14 = .int .i64 (i : Int) ∧ i ≤ L.length ∧ OwnB wr w.heap.size v3 (pl ++ (L.take i).flatMap cellL) ∧ Below w.heap.size w wr) (fun _ v14 _ => L.length - (intOf v14).toNat)
  case atStart => exact ⟨0, rfl, by omega, by simpa using HO1.out, HB1.out⟩
  case round =>
    clear HO1 HB1
    obtain ⟨i, rfl, hi, hO, hB⟩ := hrel
    have HO := Lib.hid hO; have HB := Lib.hid hB; clear hO hB
    by_cases hlt : i < L.length
    · have hz : (i : Int) < (L.length : Int) := by omega
      obtain ⟨gl, o, rfl, hgl2, _⟩ := HX.out (by omega)
      have ten := (Ten.of HV.out i hlt)
      have ten := Ten.keep ten HB.out
      have hxin := HIN.out L[i] (List.getElem_mem hlt)
      have htk : (L.take (i + 1)).flatMap cellL = (L.take i).flatMap cellL ++ cellL L[i] := by rw [List.take_succ_eq_append_getElem hlt, List.flatMap_append, List.flatMap_singleton]
      have hlen : ((L.take i).flatMap cellL).length + (cellL L[i]).length ≤ 1000000 := by
        have h1 : (L.flatMap cellL) = (L.take (i + 1)).flatMap cellL ++ (L.drop (i + 1)).flatMap cellL := by rw [← List.flatMap_append, List.take_append_drop]
        have h2 := HL.out
        rw [h1, htk, List.length_append, List.length_append] at h2
        omega
      generalize L[i] = x at *
      have HTK := Lib.hid htk; clear htk
      generalize hpre : pl ++ (L.take i).flatMap cellL = pre at *
      have hprel : pre.length ≤ 1000010 - (cellL x).length := by rw [← hpre, List.length_append]; have := HPL.out; omega
      have HPRE := Lib.hid hpre; clear hpre
      obtain ⟨⟨t, p, r, q⟩, ⟨tm, dd, lc, kd, nn, ss⟩⟩ := x
      obtain ⟨i1, i2, i3, i4, i5⟩ := hxin
      simp only at i1 i2 i3 i4 i5
      obtain ⟨c0, c1, c2, c3, c4, c5, c6, c7, c8, c9⟩ := ten
      simp only at c0 c1 c2 c3 c4 c5 c6 c7 c8 c9
      have hcl : cellL ⟨⟨t, p, r, q⟩, ⟨tm, dd, lc, kd, nn, ss⟩⟩ = textL t.toList ++ textL p.toList ++ putL (zigN r) ++ textL q.toList ++ verL ⟨tm, dd, lc, kd, nn, ss⟩ := rfl
      have hvl : verL ⟨tm, dd, lc, kd, nn, ss⟩ = putL (zigN tm) ++ (if dd = true then 1 :: putL (zigN lc) else 0 :: (putL (u64N kd) ++ putL (zigN nn) ++ textL ss.toList)) := rfl
      rw [hcl] at hprel hlen
      rw [hvl] at hprel hlen
      have z1 := zigN_lt r i1; have z2 := zigN_lt tm i2; have z3 := zigN_lt lc i3; have z4 := u64N_lt kd; have z5 := zigN_lt nn i5
      have y1 := putL_len 9 _ (show zigN r < 128 ^ 10 by omega); have y2 := putL_len 9 _ (show zigN tm < 128 ^ 10 by omega); have y3 := putL_len 9 _ (show zigN lc < 128 ^ 10 by omega); have y4 := putL_len 9 _ (show u64N kd < 128 ^ 10 by omega); have y5 := putL_len 9 _ (show zigN nn < 128 ^ 10 by omega)
      have ts : ∀ s : ByteArray, (textL s.toList).length ≤ 1000000 → s.size ≤ 1000000 := fun s h => by unfold textL at h; rw [List.length_append, str_len] at h; omega
      simp only [List.length_append] at hprel hlen
      have s1 := ts t (by omega); have s2 := ts p (by omega); have s3 := ts q (by omega)
      have s4 : dd = false → ss.size ≤ 1000000 := fun h => ts ss (by rw [h] at hlen; simp at hlen; omega)
      have b0 : pre.length ≤ 1000010 := by omega
      have b1 : (pre ++ textL t.toList).length ≤ 2000010 := by rw [List.length_append]; omega
      have b2 : (pre ++ textL t.toList ++ textL p.toList).length ≤ 3000010 := by rw [List.length_append]; omega
      have b3 : (pre ++ textL t.toList ++ textL p.toList ++ putL (zigN r)).length ≤ 4000010 := by rw [List.length_append]; omega
      have b4 : (pre ++ textL t.toList ++ textL p.toList ++ putL (zigN r) ++ textL q.toList).length ≤ 5000010 := by rw [List.length_append]; omega
      have b5 : (pre ++ textL t.toList ++ textL p.toList ++ putL (zigN r) ++ textL q.toList ++ putL (zigN tm)).length ≤ 6000010 := by rw [List.length_append]; omega
      clear ts hcl hvl hprel hlen ten y1 y2
      generalize hx : (⟨⟨t, p, r, q⟩, ⟨tm, dd, lc, kd, nn, ss⟩⟩ : Cel) = x at *
      have hk : (kyEnc x.k).toArray = #[.string t, .string p, .int .i64 r, .string q] := by subst hx; rfl
      have hvv : (vrEnc x.v).toArray = #[.int .i64 tm, .bool dd, .int .i64 lc, .int .i64 kd, .int .i64 nn, .string ss] := by subst hx; rfl
      have HX2 := Lib.hid hx; clear hx
      have HK := Lib.hid hk; have HVV := Lib.hid hvv; clear hk hvv
      have T1 := Lib.hid (fun g6 g7 W v (h : CK w g6 g7 x W v pre) => h.text t s1 (by omega))
      have T2 := Lib.hid (fun g6 g7 W v (h : CK w g6 g7 x W v (pre ++ textL t.toList)) => h.text p s2 (by omega))
      have T3 := Lib.hid (fun g6 g7 W v (h : CK w g6 g7 x W v (pre ++ textL t.toList ++ textL p.toList)) => h.put (zigN r) z1 (by omega))
      have T4 := Lib.hid (fun g6 g7 W v (h : CK w g6 g7 x W v (pre ++ textL t.toList ++ textL p.toList ++ putL (zigN r))) => h.text q s3 (by omega))
      have T5 := Lib.hid (fun g6 g7 W v (h : CK w g6 g7 x W v (pre ++ textL t.toList ++ textL p.toList ++ putL (zigN r) ++ textL q.toList)) => h.put (zigN tm) z2 (by omega))
      have Z1 := Lib.hid (fun W => Zig_any r i1 W); have Z2 := Lib.hid (fun W => Zig_any tm i2 W)
      have B5 := Lib.hid b5
      clear b0 b1 b2 b3 b4 b5 s1 s2 s3 z1 z2 i1 i2
      go_wp2_with fail
      go_cut [6, 7] (fun s6 s7 wx => ∃ g6 g7 : Nat, s6 = .pointer (some ⟨g6, 0, none⟩) ∧ s7 = .pointer (some ⟨g7, 0, none⟩) ∧ CK w g6 g7 x wx u3 pre)
      case first =>
        go_big_region
        all_goals (go_wp2_with fail; go_meet; case rel => exact ⟨_, _, rfl, rfl, by first | exact CK.start1 HO.out HB.out _ HK.out HVV.out | exact CK.start2 HO.out HB.out _ HK.out HVV.out⟩)
      case rest =>
        obtain ⟨g6, g7, rfl, rfl, ck⟩ := hcut
        clear c0 c1 c2 c3 c4 c5 c6 c7 c8 c9
        have K6 : ∀ W v l, CK w g6 g7 x W v l → (W.cell? ⟨g6, 0, none⟩ = some (.string t) ∧ W.cell? ⟨g6, 1, none⟩ = some (.string p) ∧ W.cell? ⟨g6, 2, none⟩ = some (.int .i64 r) ∧ W.cell? ⟨g6, 3, none⟩ = some (.string q)) := fun W v l h => by
          have := h.k6; rw [HK.out] at this
          exact ⟨this.cell 0 rfl, this.cell 1 rfl, this.cell 2 rfl, this.cell 3 rfl⟩
        have K7 : ∀ W v l, CK w g6 g7 x W v l → (W.cell? ⟨g7, 0, none⟩ = some (.int .i64 tm) ∧ W.cell? ⟨g7, 1, none⟩ = some (.bool dd) ∧ W.cell? ⟨g7, 2, none⟩ = some (.int .i64 lc) ∧ W.cell? ⟨g7, 3, none⟩ = some (.int .i64 kd) ∧ W.cell? ⟨g7, 4, none⟩ = some (.int .i64 nn) ∧ W.cell? ⟨g7, 5, none⟩ = some (.string ss)) := fun W v l h => by
          have := h.k7; rw [HVV.out] at this
          exact ⟨this.cell 0 rfl, this.cell 1 rfl, this.cell 2 rfl, this.cell 3 rfl, this.cell 4 rfl, this.cell 5 rfl⟩
        have S6 := Lib.hid K6; have S7 := Lib.hid K7; clear K6 K7
        obtain ⟨e0, e1, e2, e3⟩ := S6.out _ _ _ ck
        go_wp2_with fail
        go_cut [3] (fun s3 wx => CK w g6 g7 x wx s3 (pre ++ textL t.toList ++ textL p.toList ++ putL (zigN r) ++ textL q.toList))
        case first =>
          go_region_held3 (fun w' => w'.cell? ⟨g6, 0, none⟩ = some (.string t) ∧ w'.cell? ⟨g6, 1, none⟩ = some (.string p) ∧ w'.cell? ⟨g6, 2, none⟩ = some (.int .i64 r) ∧ w'.cell? ⟨g6, 3, none⟩ = some (.string q))
            (first | with_reducible assumption | exact S6.out _ _ _ (CK.drew (by with_reducible assumption)) | exact S6.out _ _ _ (by with_reducible assumption))
            (first
              | (go_at_call_of 73 t; refine (T1.out g6 g7 _ _ (by first | with_reducible assumption | exact CK.drew (by with_reducible assumption))).mono ?_; rintro e w' ⟨v, rfl, ck1⟩)
              | (go_at_call_of 73 p; refine (T2.out g6 g7 _ _ (by with_reducible assumption)).mono ?_; rintro e w' ⟨v, rfl, ck2⟩)
              | (go_at_call 74; refine (Z1.out _).mono ?_; rintro e w' ⟨rfl, rfl⟩)
              | (go_at_call 72; refine (T3.out g6 g7 _ _ (by with_reducible assumption)).mono ?_; rintro e w' ⟨v, rfl, ck3⟩)
              | (go_at_call_of 73 q; refine (T4.out g6 g7 _ _ (by with_reducible assumption)).mono ?_; rintro e w' ⟨v, rfl, ck4⟩))
          all_goals (go_wp2_with fail; go_meet; case rel => with_reducible assumption)
        case rest =>
          clear ck e0 e1 e2 e3 T1 T2 T3 T4 Z1 S6
          obtain ⟨d0, d1, d2, d3, d4, d5⟩ := S7.out _ _ _ hcut
          go_wp2_with fail
          refine (Z2.out _).mono ?_
          rintro e w' ⟨rfl, rfl⟩
          go_wp2_with fail
          refine (T5.out g6 g7 _ _ hcut).mono ?_
          rintro e w2 ⟨v2, rfl, ck2⟩
          clear d0 d1 d2 d3 d4 d5 hcut T5 Z2
          obtain ⟨d0, d1, d2, d3, d4, d5⟩ := S7.out _ _ _ ck2
          have hend : ∀ wx s3, CK w g6 g7 x wx s3 (pre ++ textL t.toList ++ textL p.toList ++ putL (zigN r) ++ textL q.toList ++ verL x.v) → OwnB wx w.heap.size s3 (pl ++ (L.take (i + 1)).flatMap cellL) := fun wx s3 h => by
            have h1 := h.own
            rw [HTK.out, ← List.append_assoc, HPRE.out]
            rw [← HX2.out] at h1 ⊢
            simp only [cellL, List.append_assoc] at h1 ⊢
            exact h1
          have HEND := Lib.hid hend; clear hend
          have hver : verL x.v = putL (zigN tm) ++ (if dd = true then 1 :: putL (zigN lc) else 0 :: (putL (u64N kd) ++ putL (zigN nn) ++ textL ss.toList)) := by rw [← HX2.out]; rfl
          generalize hP5 : pre ++ textL t.toList ++ textL p.toList ++ putL (zigN r) ++ textL q.toList ++ putL (zigN tm) = P5 at *
          have b5 := B5.out
          have hN : ∀ wx s3 tl, CK w g6 g7 x wx s3 (P5 ++ tl) → verL x.v = putL (zigN tm) ++ tl → OwnB wx w.heap.size s3 (pl ++ (L.take (i + 1)).flatMap cellL) := fun wx s3 tl h he => by
            refine HEND.out wx s3 ?_
            rw [he, ← List.append_assoc, hP5]
            exact h
          have HN := Lib.hid hN; have HVER := Lib.hid hver
          clear hN hver hP5 HEND B5
          have CK2 := Lib.hid ck2; clear ck2
          have D7 : ∀ W v l, CK w g6 g7 x W v l → W.cell? ⟨g7, 2, none⟩ = some (.int .i64 lc) := fun W v l h => (S7.out _ _ _ h).2.2.1
          have D8 : ∀ W v l, CK w g6 g7 x W v l → (W.cell? ⟨g7, 3, none⟩ = some (.int .i64 kd) ∧ W.cell? ⟨g7, 4, none⟩ = some (.int .i64 nn) ∧ W.cell? ⟨g7, 5, none⟩ = some (.string ss)) := fun W v l h => (S7.out _ _ _ h).2.2.2
          have D7 := Lib.hid D7; have D8 := Lib.hid D8
          cases dd with
          | true =>
            have T6 := Lib.hid (fun W v (h : CK w g6 g7 x W v (P5 ++ [1])) => h.put (zigN lc) z3 (by simp; omega))
            have Z3 := Lib.hid (fun W => Zig_any lc i3 W)
            have hb : P5.length + ([1] : List UInt8).length ≤ 140737488355328 := by simp; omega
            clear z3 z4 z5 y3 y4 y5 s4 i3 i4 i5 b5
            go_wp2_with fail
            go_region_held3 (fun w' => w'.cell? ⟨g7, 2, none⟩ = some (.int .i64 lc))
              (first | with_reducible assumption | exact D7.out _ _ _ (CK.drew CK2.out) | exact D7.out _ _ _ (CK.alloc (CK.drew CK2.out) _) | exact D7.out _ _ _ (by with_reducible assumption))
              (first
                | (refine st_gl (by rfl) (.tmp 43) (.tmp 44) (by rfl) w.heap.size _ P5 [1] #[.int .u8 1] 1 1 (by rfl) (by rfl) (by rfl) (by simp) (by rfl) (CK.drew CK2.out).own (CK.drew CK2.out).bel.size hb ?_; intro v3 w3 hO3 hG3; have ck3 := CK.grow (CK.drew CK2.out) hO3 hG3)
                | (go_at_call 74; refine (Z3.out _).mono ?_; rintro e w' ⟨rfl, rfl⟩)
                | (go_at_call 72; refine (T6.out _ _ (by with_reducible assumption)).mono ?_; rintro e w' ⟨v, rfl, ck4⟩))
            all_goals
              have CK4 := Lib.hid ck4; clear ck3 ck4
              go_wp2_with fail
              go_roundw
              case rel => exact ⟨i + 1, by go_num, by omega, HN.out _ _ ([1] ++ putL (zigN lc)) (by rw [← List.append_assoc]; exact CK4.out) (by rw [HVER.out]; rfl), CK4.out.bel⟩
              case measure => (first | (simp [intOf]; done) | (simp [intOf]; omega))
          | false =>
            have hkd := kind_wrap kd i4
            have T6 := Lib.hid (fun W v (h : CK w g6 g7 x W v (P5 ++ [0])) => h.put (u64N kd) z4 (by simp; omega))
            have T7 := Lib.hid (fun W v (h : CK w g6 g7 x W v (P5 ++ [0] ++ putL (u64N kd))) => h.put (zigN nn) z5 (by simp; omega))
            have T8 := Lib.hid (fun W v (h : CK w g6 g7 x W v (P5 ++ [0] ++ putL (u64N kd) ++ putL (zigN nn))) => h.text ss (s4 rfl) (by simp; omega))
            have Z3 := Lib.hid (fun W => Zig_any nn i5 W)
            have hb : P5.length + ([0] : List UInt8).length ≤ 140737488355328 := by simp; omega
            clear z3 z4 z5 y3 y4 y5 s4 i3 i4 i5 b5
            obtain ⟨kk, hkk⟩ : ∃ kk, u64N kd = kk := ⟨_, rfl⟩
            obtain ⟨nz, hnz⟩ : ∃ nz, zigN nn = nz := ⟨_, rfl⟩
            rw [hkk] at hkd T6 T7 T8
            rw [hnz] at T7 T8 Z3
            have KK := Lib.hid (And.intro hkk hnz); clear hkk hnz
            go_wp2_with fail
            go_region_held3 (fun w' => w'.cell? ⟨g7, 3, none⟩ = some (.int .i64 kd) ∧ w'.cell? ⟨g7, 4, none⟩ = some (.int .i64 nn) ∧ w'.cell? ⟨g7, 5, none⟩ = some (.string ss))
              (first | with_reducible assumption | exact D8.out _ _ _ (CK.drew CK2.out) | exact D8.out _ _ _ (CK.alloc (CK.drew CK2.out) _) | exact D8.out _ _ _ (by with_reducible assumption))
              (first
                | (refine st_gl (by rfl) (.tmp 50) (.tmp 51) (by rfl) w.heap.size _ P5 [0] #[.int .u8 0] 1 1 (by rfl) (by rfl) (by rfl) (by simp) (by rfl) (CK.drew CK2.out).own (CK.drew CK2.out).bel.size hb ?_; intro v3 w3 hO3 hG3; have ck3 := CK.grow (CK.drew CK2.out) hO3 hG3)
                | (go_at_call 74; refine (Z3.out _).mono ?_; rintro e w' ⟨rfl, rfl⟩)
                | (go_at_call_of 72 kk; refine (T6.out _ _ (by with_reducible assumption)).mono ?_; rintro e w' ⟨v, rfl, ck4⟩)
                | (go_at_call_of 72 nz; refine (T7.out _ _ (by with_reducible assumption)).mono ?_; rintro e w' ⟨v, rfl, ck5⟩)
                | (go_at_call 73; refine (T8.out _ _ (by with_reducible assumption)).mono ?_; rintro e w' ⟨v, rfl, ck6⟩))
            all_goals
              have CK6 := Lib.hid ck6; clear ck3 ck4 ck5 ck6
              go_wp2_with fail
              go_roundw
              case rel => exact ⟨i + 1, by go_num, by omega, HN.out _ _ ([0] ++ putL kk ++ putL nz ++ textL ss.toList) (by simp only [← List.append_assoc]; exact CK6.out) (by rw [HVER.out, KK.out.1, KK.out.2]; rfl), CK6.out.bel⟩
              case measure => (first | (simp [intOf]; done) | (simp [intOf]; omega))
    · have hz : ¬ (i : Int) < (L.length : Int) := by omega
      obtain rfl : i = L.length := by omega
      go_wp2_with fail
      go_ret
      have := HO.out
      rw [List.take_length] at this
      exact ⟨_, rfl, this, HB.out⟩
end Go.Proofs.Ytefndmjimmbhnaa
end

section
set_option linter.unusedVariables false
set_option linter.unusedSimpArgs false
set_option maxRecDepth 50000
namespace Go.Proofs.Ytefndmjimmbhnaa
open Go.RowKit

/-- A reader's one cell. -/
structure Rd (B : Nat) (W : World) (g : Nat) (v : Value) (l : List UInt8) : Prop where
  blk : Blk W g 142 #[v]
  sl : SlB B W v l
  hB : B ≤ g
def wrongC : List PanicEntry := [{ v := .iface 139 (.agg #[]), recovered := false }]
/-- What a reader's method leaves: the rest of the bytes; or a panic. -/
def RdPost (B : Nat) (W : World) (g : Nat) (o : Option (Value × List UInt8)) (e : Ending) (w' : World) : Prop :=
  W.grownBy w' (some g) ∧ match o with
    | some (x, r) => e = .returned x ∧ ∃ v', Rd B w' g v' r
    | none => e = .panicked wrongC
theorem pass_any (B : Nat) (W : World) (g : Nat) (v : Value) (l : List UInt8) (h : Rd B W g v l) (n : Nat) (h0 : 0 < n) (hn : n ≤ l.length) (hl : l.length ≤ 1000000) :
    Calls Try.prog 98 #[.pointer (some ⟨g, 0, none⟩), .int .i64 (n : Int)] W (RdPost B W g (some (.tuple #[], l.drop n))) := by
  have H := Lib.hid h
  have cr := h.sl.cut_run n hn
  have cut := h.sl.cut n hn
  have c0 := h.blk.cell 0 rfl
  have f0 := h.blk.frozen 0
  have hb0 : ((n : Int) == 0) = false := by rw [beq_eq_false_iff_ne]; omega
  obtain ⟨a, c, e, _⟩ := h.sl.ex
  obtain ⟨v', hv'⟩ : ∃ v', cutV v n = v' := ⟨_, rfl⟩
  rw [hv'] at cr cut
  have CUT := Lib.hid cut
  have E := Lib.hid e
  clear h cut hv' e
  obtain ⟨a', c', e', _⟩ := CUT.out.ex
  subst e'
  go_enter Try.func98, Try.ntmps98
  go_wp2_with fail
  go_end0
  have hlen : l.length - n = (l.drop n).length := by rw [List.length_drop]
  refine ⟨⟨rfl, rfl, rfl, by simp [World.setCell], fun k _ hk => Below.heap_setCell _ _ _ _ (fun e => hk (by rw [e]))⟩, rfl, .slice a' (l.length - n) c', ?_, ?_, H.out.hB⟩
  · exact H.out.blk.put 0 _
  · rw [hlen]
    exact CUT.out.below ((Below.refl _ _).setCell (p := ⟨g, 0, none⟩) H.out.hB _)
theorem pass_none (W : World) (p : Value) :
    Calls Try.prog 98 #[p, .int .i64 0] W fun e w' => e = .panicked wrongC ∧ W = w' := by
  go_enter Try.func98, Try.ntmps98
  go_wp2_with fail
  exact ⟨rfl, rfl, rfl⟩
theorem num_any (B : Nat) (W : World) (g : Nat) (v : Value) (l : List UInt8) (h : Rd B W g v l) (hl : l.length ≤ 1000000) :
    Calls Try.prog 92 #[.pointer (some ⟨g, 0, none⟩)] W (RdPost B W g ((rdNum l).map fun p => (.int .u64 (p.1 : Int), p.2))) := by
  have C := Lib.hid (Get_any v l B W h.sl hl)
  have c0 := h.blk.cell 0 rfl
  have H := Lib.hid h
  cases hg : getL 0 0 l with
  | none =>
    have hr : (rdNum l).map (fun p => (Value.int .u64 (p.1 : Int), p.2)) = none := by unfold rdNum; rw [hg]; rfl
    rw [hr]; rw [hg] at C
    clear h hg hr
    go_enter Try.func92, Try.ntmps92
    go_wp2_with fail
    refine C.out.mono ?_
    rintro e w' ⟨rfl, rfl⟩
    unfold getV
    go_wp2_with fail
    refine (pass_none _ _).mono ?_
    rintro e w' ⟨rfl, rfl⟩
    exact ⟨rfl, grown_rfl _ _, rfl⟩
  | some q =>
    obtain ⟨u, n⟩ := q
    have hb := getL_bound l 0 0 u n (by decide) (by decide) hg
    have hr : (rdNum l).map (fun p => (Value.int .u64 (p.1 : Int), p.2)) = some (.int .u64 (u : Int), l.drop n) := by unfold rdNum; rw [hg]; rfl
    rw [hr]; rw [hg] at C
    have P := Lib.hid (pass_any B W g v l h n (by omega) (by omega) hl)
    clear h hg hr hb
    go_enter Try.func92, Try.ntmps92
    go_wp2_with fail
    refine C.out.mono ?_
    rintro e w' ⟨rfl, rfl⟩
    unfold getV
    go_wp2_with fail
    refine P.out.mono ?_
    rintro e w' ⟨hg, rfl, hx⟩
    have HX := Lib.hid hx; have HG := Lib.hid hg; clear hx hg
    go_wp2_with fail
    go_ret
    exact ⟨HG.out, rfl, HX.out⟩
theorem int_any (B : Nat) (W : World) (g : Nat) (v : Value) (l : List UInt8) (h : Rd B W g v l) (hl : l.length ≤ 1000000) :
    Calls Try.prog 100 #[.pointer (some ⟨g, 0, none⟩)] W (RdPost B W g ((rdInt l).map fun p => (.int .i64 p.1, p.2))) := by
  have C := Lib.hid (num_any B W g v l h hl)
  unfold rdInt
  cases hr : rdNum l with
  | none =>
    rw [hr] at C
    clear h hr
    go_enter Try.func100, Try.ntmps100
    go_wp2_with fail
    refine C.out.mono ?_
    rintro e w' ⟨hg, rfl⟩
    exact ⟨rfl, hg, rfl⟩
  | some q =>
    obtain ⟨u, r⟩ := q
    rw [hr] at C
    have Z := Lib.hid (fun W => Zag_any u (rdNum_len hr).1 W)
    clear h hr
    go_enter Try.func100, Try.ntmps100
    go_wp2_with fail
    refine C.out.mono ?_
    rintro e w' ⟨hg, rfl, hx⟩
    have HX := Lib.hid hx; have HG := Lib.hid hg; clear hx hg
    go_wp2_with fail
    refine (Z.out _).mono ?_
    rintro e w' ⟨rfl, rfl⟩
    go_wp2_with fail
    go_ret
    exact ⟨HG.out, rfl, HX.out⟩
theorem rtxt_any (B : Nat) (W : World) (g : Nat) (v : Value) (l : List UInt8) (h : Rd B W g v l) (hl : l.length ≤ 1000000) :
    Calls Try.prog 99 #[.pointer (some ⟨g, 0, none⟩)] W (RdPost B W g ((rdText l).map fun p => (sv p.1, p.2))) := by
  have C := Lib.hid (GetText_any v l B W h.sl hl)
  have c0 := h.blk.cell 0 rfl
  unfold rdText
  cases hr : getT l with
  | none =>
    rw [hr] at C
    clear h hr
    go_enter Try.func99, Try.ntmps99
    go_wp2_with fail
    refine C.out.mono ?_
    rintro e w' ⟨rfl, rfl⟩
    unfold getTV
    go_wp2_with fail
    refine (pass_none _ _).mono ?_
    rintro e w' ⟨rfl, rfl⟩
    exact ⟨rfl, grown_rfl _ _, rfl⟩
  | some q =>
    obtain ⟨u, n⟩ := q
    rw [hr] at C
    have hn : 0 < n ∧ n ≤ l.length := by
      rcases getT_cases l with ⟨_, h2⟩ | ⟨m, k, h1, h2, h3, h4, h5⟩
      · rw [hr] at h2; cases h2
      · rw [hr] at h5
        split at h5
        · injection h5 with h5; injection h5 with _ h6; omega
        · cases h5
    have P := Lib.hid (pass_any B W g v l h n hn.1 hn.2 hl)
    clear h hr hn
    go_enter Try.func99, Try.ntmps99
    go_wp2_with fail
    refine C.out.mono ?_
    rintro e w' ⟨rfl, rfl⟩
    unfold getTV
    go_wp2_with fail
    refine P.out.mono ?_
    rintro e w' ⟨hg, rfl, hx⟩
    have HX := Lib.hid hx; have HG := Lib.hid hg; clear hx hg
    go_wp2_with fail
    go_ret
    exact ⟨HG.out, rfl, HX.out⟩
theorem flag_any (B : Nat) (W : World) (g : Nat) (v : Value) (l : List UInt8) (h : Rd B W g v l) (hl : l.length ≤ 1000000) :
    Calls Try.prog 101 #[.pointer (some ⟨g, 0, none⟩)] W (RdPost B W g ((rdFlag l).map fun p => (.bool p.1, p.2))) := by
  have c0 := h.blk.cell 0 rfl
  have H := Lib.hid h
  obtain ⟨a, c, rfl, hc, hx⟩ := h.sl.ex
  clear h
  cases l with
  | nil =>
    clear hx H
    go_enter Try.func101, Try.ntmps101
    go_wp2_with fail
    exact ⟨rfl, grown_rfl _ _, rfl⟩
  | cons x r =>
    obtain ⟨gb, o, rfl, hgb, hcell⟩ := hx (by simp)
    have h0 := hcell 0 (by simp)
    simp only [Nat.add_zero, List.getElem_cons_zero] at h0
    have hlen : ((r.length + 1 : Nat) : Int) = (r.length : Int) + 1 := by omega
    have hcap : r.length + 1 ≤ c := hc
    simp only [List.length_cons] at *
    have q1 : ((r.length : Int) + 1 == 0) = false := by rw [beq_eq_false_iff_ne]; omega
    have hxl := x.toNat_lt
    rw [show rdFlag (x :: r) = if 1 < x.toNat then none else some (x.toNat == 1, r) from rfl]
    clear hcell hx
    by_cases h1 : 1 < x.toNat
    · rw [if_pos h1]
      have q2 : (1 : Int) < (x.toNat : Int) := by omega
      clear H
      go_enter Try.func101, Try.ntmps101
      go_wp2_with fail
      exact ⟨rfl, grown_rfl _ _, rfl⟩
    · rw [if_neg h1]
      have q2 : ¬ (1 : Int) < (x.toNat : Int) := by omega
      have P := Lib.hid (pass_any B W g _ _ H.out 1 (by omega) (by simp) (by simpa using hl))
      have HB := Lib.hid (show ((x.toNat : Int) == 1) = (x.toNat == 1) by rw [Bool.eq_iff_iff]; simp; omega)
      clear H h1
      go_enter Try.func101, Try.ntmps101
      go_wp2_with fail
      refine P.out.mono ?_
      rintro e w' ⟨hg, rfl, hx⟩
      have HX := Lib.hid hx; have HG := Lib.hid hg; clear hx hg
      go_wp2_with fail
      go_ret
      exact ⟨HG.out, ret_b HB.out, HX.out⟩
end Go.Proofs.Ytefndmjimmbhnaa
end
