/- Plain laws of layer 23: hints in bytes and back. No program in sight; no condition. Hints as values; contract of hints' zig and of a state's bytes. Conditions: numbers are of int64; the bytes are at most a million. Contracts of hints' reader: pass, num, int. Condition: at most a million bytes. -/
import Derived.Test.YtefndmjimmbhnaaZ06
import Derived.Test.YtefndmjimmbhnaaZ10
import Derived.Deep.RegionHeld3
import Derived.Test.YtefndmjimmbhnaaZ11
section
set_option linter.unusedVariables false
set_option linter.unusedSimpArgs false
namespace Go.Proofs.Ytefndmjimmbhnaa

/-- a hint: its id, its node, its time, its cells -/
structure Hn where
  id : Int
  nd : Int
  tm : Int
  L : List Cel
def hintL (h : Hn) : List UInt8 := putL (zigN h.id) ++ putL (zigN h.nd) ++ putL (zigN h.tm) ++ textL (cellsL h.L)
def hintsL (nx : Int) (l : List Hn) : List UInt8 := putL (zigN nx) ++ putL l.length ++ l.flatMap hintL
def rdHint (l : List UInt8) : Option (Hn × List UInt8) := do
  let (id, l) ← rdInt l
  let (nd, l) ← rdInt l
  let (tm, l) ← rdInt l
  let (s, l) ← rdText l
  let L ← rdCells s
  pure (⟨id, nd, tm, L⟩, l)
/-- so many hints, whose ids rise -/
def rdLs : Nat → Int → List UInt8 → Option (List Hn × List UInt8 × Int)
  | 0, last, l => some ([], l, last)
  | k + 1, last, l => match rdHint l with
    | none => none
    | some (h, r) => if last < h.id then (rdLs k h.id r).map fun p => (h :: p.1, p.2) else none
def rdH (b : List UInt8) : Option (Int × List Hn) :=
  if (unframeL b).2.2 = 0 ∧ (unframeL b).2.1 = b.length then
    match rdInt (unframeL b).1 with
    | none => none
    | some (nx, l) => match rdNum l with
      | none => none
      | some (k, l) => match rdLs k 0 l with
        | none => none
        | some (hs, r, last) => if r = [] ∧ last < nx then some (nx, hs) else none
  else none
/-- hints that may be written -/
structure HnBy (h : Hn) : Prop where
  id : In64 h.id
  nd : In64 h.nd
  tm : In64 h.tm
  cels : ∀ c ∈ h.L, CelBy c
  few : h.L.length < 1000000
  short : (cellsL h.L).length < 1000000
theorem rdHint_hint (h : Hn) (r : List UInt8) (hb : HnBy h) : rdHint (hintL h ++ r) = some (h, r) := by
  unfold rdHint hintL
  simp only [List.append_assoc]
  rw [rdInt_zig _ _ hb.id]
  simp only [Option.bind_eq_bind, Option.bind_some]
  rw [rdInt_zig _ _ hb.nd]
  simp only [Option.bind_some]
  rw [rdInt_zig _ _ hb.tm]
  simp only [Option.bind_some]
  rw [rdText_text _ _ (by have := hb.short; omega)]
  simp only [Option.bind_some]
  rw [rdCells_cells _ hb.cels hb.few]
  rfl
/-- ids that rise, from one that is below all -/
def Rise : Int → List Hn → Prop
  | _, [] => True
  | last, h :: l => last < h.id ∧ Rise h.id l
def lastI : Int → List Hn → Int
  | last, [] => last
  | _, h :: l => lastI h.id l
theorem rdLs_hints : ∀ (l : List Hn) (last : Int) (r : List UInt8), (∀ h ∈ l, HnBy h) → Rise last l → rdLs l.length last (l.flatMap hintL ++ r) = some (l, r, lastI last l)
  | [], last, r, _, _ => rfl
  | h :: l, last, r, hb, hr => by
    rw [List.length_cons, List.flatMap_cons, List.append_assoc, rdLs, rdHint_hint h _ (hb h List.mem_cons_self)]
    simp only
    rw [if_pos hr.1, rdLs_hints l h.id r (fun x hx => hb x (List.mem_cons_of_mem _ hx)) hr.2]
    rfl
theorem rdH_hints (nx : Int) (l : List Hn) (hn : In64 nx) (hb : ∀ h ∈ l, HnBy h) (hr : Rise 0 l) (hl : lastI 0 l < nx) (hf : l.length < 18446744073709551616) (hs : (hintsL nx l).length ≤ 262144) : rdH (frameL (hintsL nx l)) = some (nx, l) := by
  have e := unframe_frame (hintsL nx l) [] hs
  rw [List.append_nil] at e
  have el := frameL_length _ hs
  unfold rdH
  rw [e]
  simp only
  rw [if_pos ⟨trivial, el.symm⟩]
  have e1 : rdInt (hintsL nx l) = some (nx, putL l.length ++ l.flatMap hintL) := by unfold hintsL; rw [List.append_assoc]; exact rdInt_zig nx _ hn
  rw [e1]
  simp only
  rw [rdNum_put _ _ hf]
  simp only
  have e2 := rdLs_hints l 0 [] hb hr
  rw [List.append_nil] at e2
  rw [e2]
  simp only
  rw [if_pos ⟨trivial, hl⟩]
end Go.Proofs.Ytefndmjimmbhnaa
end

section
set_option linter.unusedVariables false
set_option linter.unusedSimpArgs false
set_option maxRecDepth 50000
namespace Go.Proofs.Ytefndmjimmbhnaa
open Go.RowKit

/-- a hint as it lies in memory: its cells are a slice -/
structure Hq where
  id : Int
  nd : Int
  tm : Int
  a : Option Addr
  n : Nat
  c : Nat
def zHq : Value := .agg #[.int .i64 0, .int .i64 0, .int .i64 0, .slice none 0 0]
def Hq.val (h : Hq) : Value := .slice h.a h.n h.c
def hqEnc (h : Hq) : List Value := [.int .i64 h.id, .int .i64 h.nd, .int .i64 h.tm, .slice h.a h.n h.c]
theorem infoHq : (Try.prog.info? 64).map (fun i => (i.zero, i.size, i.bytes)) = some (some zHq, 4, 48) := by kernel_rfl
def eT : El Hq := { st := 36, t := 64, size := 4, bytes := 48, z := zHq, enc := hqEnc, len := fun _ => rfl, one := fun x u hu => by simp [hqEnc] at hu; rcases hu with rfl | rfl | rfl | rfl <;> rfl, info := infoHq, und := Try.underlying36, elem := by kernel_rfl, zs := by kernel_rfl, pos := by decide }
/-- hints in memory, and what they are -/
structure HnsW (w : World) (qs : List Hq) (l : List Hn) : Prop where
  len : qs.length = l.length
  at_ : ∀ (i : Nat) (h1 : i < qs.length) (h2 : i < l.length), qs[i].id = l[i].id ∧ qs[i].nd = l[i].nd ∧ qs[i].tm = l[i].tm ∧ SlX eC w.heap.size w qs[i].val l[i].L
theorem HnsW.keep {w w1 : World} {qs : List Hq} {l : List Hn} (h : HnsW w qs l) (hb : Below w.heap.size w w1) : HnsW w1 qs l := ⟨h.len, fun i h1 h2 => by
  obtain ⟨a, b, c, d⟩ := h.at_ i h1 h2
  exact ⟨a, b, c, d.keep hb⟩⟩
structure HnIn (h : Hn) : Prop where
  id : In64 h.id
  nd : In64 h.nd
  tm : In64 h.tm
  cels : ∀ c ∈ h.L, CelIn c
/-- a hint's four cells -/
structure Qua (w : World) (g o : Nat) (x : Hq) : Prop where
  c0 : w.cell? ⟨g, o, none⟩ = some (.int .i64 x.id)
  c1 : w.cell? ⟨g, o + 1, none⟩ = some (.int .i64 x.nd)
  c2 : w.cell? ⟨g, o + 2, none⟩ = some (.int .i64 x.tm)
  c3 : w.cell? ⟨g, o + 3, none⟩ = some (.slice x.a x.n x.c)
theorem Qua.of {B : Nat} {w : World} {l : List Hq} {g o n c : Nat} (h : SlX eT B w (.slice (some ⟨g, o, none⟩) n c) l) (j : Nat) (hj : j < l.length) : Qua w g (o + j * 4) l[j] :=
  ⟨h.cell j 0 hj rfl, h.cell j 1 hj rfl, h.cell j 2 hj rfl, h.cell j 3 hj rfl⟩
theorem Qua.keep {w w1 : World} {g o : Nat} {x : Hq} (h : Qua w g o x) (hb : Below w.heap.size w w1) : Qua w1 g o x :=
  ⟨cell_keep hb h.c0, cell_keep hb h.c1, cell_keep hb h.c2, cell_keep hb h.c3⟩
theorem hzig_any (base : Nat) (v : Value) (l : List UInt8) (n : Int) (w : World) (HO : OwnB w base v l) (hn : In64 n) (hl : l.length ≤ 100000000000) :
    Calls Try.prog 77 #[v, .int .i64 n] w (RetB w.heap.size w (l ++ putL (zigN n))) := by
  have Z := Lib.hid (fun W => Zig_any n hn W)
  have P := Lib.hid (Put_any base v l (zigN n) w HO (zigN_lt n hn) hl)
  clear HO
  go_enter Try.func77, Try.ntmps77
  go_wp2_with fail
  refine (Z.out _).mono ?_
  rintro e w1 ⟨rfl, rfl⟩
  go_wp2_with fail
  refine P.out.mono ?_
  rintro e w2 ⟨v2, rfl, ho, hb⟩
  have HO := Lib.hid ho; have HB := Lib.hid hb; clear ho hb
  go_wp2_with fail
  go_ret
  exact ⟨v2, rfl, HO.out, HB.out⟩
theorem hintL_le (nx : Int) (l : List Hn) (i : Nat) (hi : i < l.length) : ((l.take i).flatMap hintL).length + (hintL l[i]).length + (putL (zigN nx) ++ putL l.length).length ≤ (hintsL nx l).length := by
  have e : l = l.take i ++ l[i] :: l.drop (i + 1) := by rw [List.getElem_cons_drop, List.take_append_drop]
  have : (l.flatMap hintL).length = ((l.take i).flatMap hintL).length + ((hintL l[i]).length + ((l.drop (i + 1)).flatMap hintL).length) := by
    conv => lhs; rw [e]
    rw [List.flatMap_append, List.flatMap_cons, List.length_append, List.length_append]
  unfold hintsL
  simp only [List.length_append] at this ⊢
  omega
set_option maxHeartbeats 2000000 in
theorem bytes_any (nx : Int) (v : Value) (qs : List Hq) (l : List Hn) (w : World) (hv : SlX eT w.heap.size w v qs) (hq : HnsW w qs l) (hn : In64 nx) (hin : ∀ h ∈ l, HnIn h) (hl : (hintsL nx l).length ≤ 1000000) (hll : l.length ≤ 1000000) (hlc : ∀ h ∈ l, h.L.length ≤ 1000000) :
    Calls Try.prog 51 #[.agg #[.int .i64 nx, v]] w (RetB w.heap.size w (frameL (hintsL nx l))) := by
  have ZN := Lib.hid (fun W => hzig_any W.heap.size (.slice none 0 0) [] nx W (OwnB.nil _ _) hn (by simp))
  obtain ⟨a, c, rfl, hac, _⟩ := hv.ex
  have HV := Lib.hid hv; have HQ := Lib.hid hq
  clear hv hq
  go_enter Try.func51, Try.ntmps51
  have K0 := Blk.new w 48 #[.int .i64 nx, .slice a qs.length c]
  have s0 := K0.cell 0 rfl; have s1 := K0.cell 1 rfl
  have B0 := Lib.hid (below_alloc (Below.refl _ w) (.cells #[.int .i64 nx, .slice a qs.length c] 48))
  have HK0 := Lib.hid K0
  clear K0
  go_wp2_with fail
  generalize w.alloc (.cells #[.int .i64 nx, .slice a qs.length c] 48) = W0 at *
  have HS := Lib.hid (fun W' (h : InW W0 W') => show InW W0 W' ∧ W'.cell? ⟨w.heap.size, 0, none⟩ = some (.int .i64 nx) ∧ W'.cell? ⟨w.heap.size, 1, none⟩ = some (.slice a qs.length c) from ⟨h, cell_keep h s0, cell_keep h s1⟩)
  have hlen : qs.length = l.length := HQ.out.len
  have hw : IntKind.u64.wrap (qs.length : Int) = (l.length : Int) := by rw [wu64, hlen]; omega
  have PT := Lib.hid (fun base v W (HO : OwnB W base v ([] ++ putL (zigN nx))) => Put_any base v ([] ++ putL (zigN nx)) l.length W HO (by omega) (by have := putL_len 9 (zigN nx) (by have := zigN_lt nx hn; omega); simp; omega))
  clear hlen
  go_region_held3 (fun W' => InW W0 W' ∧ W'.cell? ⟨w.heap.size, 0, none⟩ = some (.int .i64 nx) ∧ W'.cell? ⟨w.heap.size, 1, none⟩ = some (.slice a qs.length c))
    (first
      | with_reducible assumption
      | (with_reducible refine HS.out _ ?_; (repeat (first | with_reducible exact InW.refl _ | with_reducible exact And.left (by with_reducible assumption) | with_reducible refine InW.drew ?_ | with_reducible refine InW.tr ?_ (by with_reducible assumption)))))
    (first
      | (go_at_call 77; refine (ZN.out _).mono ?_; rintro e wA ⟨v1, rfl, hO1, hbA⟩)
      | (go_at_call 76; refine (PT.out _ _ _ hO1).mono ?_; rintro e wB ⟨v2, rfl, hO2, hbB⟩)
      | fail)
  have HBs := Lib.hid (show Below w.heap.size w wB from below_tr B0.out (InW.tr (InW.tr (InW.drew (InW.refl _)) hbA) hbB))
  have HOs := Lib.hid (show OwnB wB w.heap.size v2 (putL (zigN nx) ++ putL l.length) from hO2.weaken (by have := hbA.size; have := B0.out.size; simp only [World.size_drew] at *; omega))
  clear hO1 hbA hO2 hbB PT ZN HS s0 s1 hw
  go_wp2_with fail
  obtain ⟨pl, hpl⟩ : ∃ x, putL (zigN nx) ++ putL l.length = x := ⟨_, rfl⟩
  have HLE := Lib.hid (fun i hi => hintL_le nx l i hi)
  have HFIN := Lib.hid (show hintsL nx l = pl ++ l.flatMap hintL by rw [← hpl]; rfl)
  rw [hpl] at HOs HLE
  have HLEN := Lib.hid HQ.out.len
  have HL := Lib.hid hl
  clear hpl hl
  go_loopw [17, 3, 5] (fun v17 v3 _ wr => ∃ i : Nat, v17 = .int .i64 (i : Int) ∧ i ≤ qs.length ∧ Hid (OwnB wr w.heap.size v3 (pl ++ (l.take i).flatMap hintL)) ∧ Hid (Below w.heap.size w wr)) (fun v17 _ _ _ => qs.length - (intOf v17).toNat)
  case atStart => exact ⟨0, rfl, by omega, Lib.hid (by simpa using HOs.out), HBs⟩
  case round =>
    obtain ⟨i, rfl, hi, HO, HB⟩ := hrel
    by_cases hlt : i < qs.length
    · have hlt2 : i < l.length := by have := HLEN.out; omega
      have hz : (i : Int) < (qs.length : Int) := by omega
      obtain ⟨gl, o, cl, hfm, hcl, _⟩ := HV.out.form (by omega)
      injection hfm with hfm1 _ hfm2
      subst hfm1 hfm2
      have qua := (Qua.of HV.out i hlt).keep HB.out
      obtain ⟨e1, e2, e3, e4⟩ := HQ.out.at_ i hlt hlt2
      have hx := hin _ (List.getElem_mem hlt2)
      have hxl := hlc _ (List.getElem_mem hlt2)
      have hle := HLE.out i hlt2
      have htk : (l.take (i + 1)).flatMap hintL = (l.take i).flatMap hintL ++ hintL l[i] := by rw [List.take_succ_eq_append_getElem hlt2, List.flatMap_append, List.flatMap_singleton]
      generalize hpre : pl ++ (l.take i).flatMap hintL = pre at *
      have hprl : pre.length + (hintL l[i]).length ≤ 1000000 := by rw [← hpre, List.length_append]; have := HL.out; omega
      have HTK := Lib.hid (show pl ++ (l.take (i + 1)).flatMap hintL = pre ++ hintL l[i] by rw [htk, ← List.append_assoc, hpre])
      clear htk hle hpre
      generalize l[i] = h at *
      generalize qs[i] = x at *
      obtain ⟨c0, c1, c2, c3⟩ := qua
      obtain ⟨xi, xn, xt, xa, xm, xc⟩ := x
      simp only at e1 e2 e3 c0 c1 c2 c3
      subst e1 e2 e3
      have hh : hintL h = putL (zigN h.id) ++ putL (zigN h.nd) ++ putL (zigN h.tm) ++ textL (cellsL h.L) := rfl
      have hcs : (cellsL h.L).length ≤ 1000000 := by rw [hh] at hprl; unfold textL at hprl; simp only [List.length_append] at hprl; omega
      have hcf : (h.L.flatMap cellL).length ≤ 1000000 := by unfold cellsL at hcs; rw [List.length_append] at hcs; omega
      have p1 := putL_len 9 _ (show zigN h.id < 128 ^ 10 by have := zigN_lt _ hx.id; omega); have p2 := putL_len 9 _ (show zigN h.nd < 128 ^ 10 by have := zigN_lt _ hx.nd; omega)
      have Z1 := Lib.hid (fun base v W (HO : OwnB W base v pre) => hzig_any base v pre h.id W HO hx.id (by omega))
      have Z2 := Lib.hid (fun base v W (HO : OwnB W base v (pre ++ putL (zigN h.id))) => hzig_any base v _ h.nd W HO hx.nd (by rw [List.length_append]; omega))
      have Z3 := Lib.hid (fun base v W (HO : OwnB W base v (pre ++ putL (zigN h.id) ++ putL (zigN h.nd))) => hzig_any base v _ h.tm W HO hx.tm (by rw [List.length_append, List.length_append]; omega))
      have e4' := e4.keep HB.out
      have B1 := below_alloc (Below.refl _ wr) (.cells #[.int .i64 h.id, .int .i64 h.nd, .int .i64 h.tm, .slice xa xm xc] 64)
      have CE := Lib.hid (fun W (hb : InW (wr.alloc (.cells #[.int .i64 h.id, .int .i64 h.nd, .int .i64 h.tm, .slice xa xm xc] 64)) W) => Cells_any (.slice xa xm xc) h.L W ((e4'.keep B1).keep hb) hx.cels hcf hxl)
      have PT := Lib.hid (fun B v W (hv : SlB B W v (pre ++ putL (zigN h.id) ++ putL (zigN h.nd) ++ putL (zigN h.tm))) => PutText_any v _ ⟨(cellsL h.L).toArray⟩ B W hv (by show (cellsL h.L).toArray.size ≤ _; simpa using hcs) (by have p3 := putL_len 9 _ (show zigN h.tm < 128 ^ 10 by have := zigN_lt _ hx.tm; omega); simp only [List.length_append]; omega))
      have K1 := Blk.new wr 64 #[.int .i64 h.id, .int .i64 h.nd, .int .i64 h.tm, .slice xa xm xc]
      have k0 := K1.cell 0 rfl; have k1 := K1.cell 1 rfl; have k2 := K1.cell 2 rfl; have k3 := K1.cell 3 rfl
      have HB1 := Lib.hid (below_tr HB.out B1); have HO1 := Lib.hid (HO.out.alloc (.cells #[.int .i64 h.id, .int .i64 h.nd, .int .i64 h.tm, .slice xa xm xc] 64))
      clear hx hxl hprl p1 p2 hcs hcf e4 e4' B1 K1 hh
      go_wp2_with fail
      generalize wr.alloc (.cells #[.int .i64 h.id, .int .i64 h.nd, .int .i64 h.tm, .slice xa xm xc] 64) = W1 at *
      have HS := Lib.hid (fun W' (hb : InW W1 W') => show InW W1 W' ∧ W'.cell? ⟨wr.heap.size, 0, none⟩ = some (.int .i64 h.id) ∧ W'.cell? ⟨wr.heap.size, 1, none⟩ = some (.int .i64 h.nd) ∧ W'.cell? ⟨wr.heap.size, 2, none⟩ = some (.int .i64 h.tm) ∧ W'.cell? ⟨wr.heap.size, 3, none⟩ = some (.slice xa xm xc) from ⟨hb, cell_keep hb k0, cell_keep hb k1, cell_keep hb k2, cell_keep hb k3⟩)
      clear c0 c1 c2 c3
      refine wp_region_held_drew (S := fun W' => InW W1 W' ∧ W'.cell? ⟨wr.heap.size, 0, none⟩ = some (.int .i64 h.id) ∧ W'.cell? ⟨wr.heap.size, 1, none⟩ = some (.int .i64 h.nd) ∧ W'.cell? ⟨wr.heap.size, 2, none⟩ = some (.int .i64 h.tm) ∧ W'.cell? ⟨wr.heap.size, 3, none⟩ = some (.slice xa xm xc)) (by kernel_rfl) (HS.out _ (InW.drew (InW.refl _))) (fun S0 => ?_)
      refine wpAnyH_take (i := 0) (oi := _) (v := u3) rfl (by kernel_rfl) (by kernel_rfl) (by kernel_rfl) (fun _ _ _ h => h) (Or.inl ⟨by rfl, fun w hSw => ?_⟩) S0 ?_
      · go_simp
      (try simp only [Act.put, List.getElem_toArray, List.getElem_cons_zero, List.getElem_cons_succ, List.setIfInBounds_toArray, List.set_cons_zero, List.set_cons_succ])
      refine wpAnyH_take (i := 1) (oi := _) (v := .pointer (some ⟨wr.heap.size, 0, none⟩)) rfl (by kernel_rfl) (by kernel_rfl) (by kernel_rfl) (fun _ _ _ h => h) (Or.inl ⟨by rfl, fun w hSw => ?_⟩) S0 ?_
      · go_simp
      (try simp only [Act.put, List.getElem_toArray, List.getElem_cons_zero, List.getElem_cons_succ, List.setIfInBounds_toArray, List.set_cons_zero, List.set_cons_succ])
      refine wpAnyH_take (i := 2) (oi := _) (v := .int .i64 h.id) rfl (by kernel_rfl) (by kernel_rfl) (by kernel_rfl) (fun _ _ _ h => h) (Or.inl ⟨by rfl, fun w hSw => ?_⟩) S0 ?_
      · go_simp
      (try simp only [Act.put, List.getElem_toArray, List.getElem_cons_zero, List.getElem_cons_succ, List.setIfInBounds_toArray, List.set_cons_zero, List.set_cons_succ])
      refine wpAnyH_take (i := 4) (oi := _) (v := .pointer (some ⟨wr.heap.size, 1, none⟩)) rfl (by kernel_rfl) (by kernel_rfl) (by kernel_rfl) (fun _ _ _ h => h) (Or.inl ⟨by rfl, fun w hSw => ?_⟩) S0 ?_
      · go_simp
      (try simp only [Act.put, List.getElem_toArray, List.getElem_cons_zero, List.getElem_cons_succ, List.setIfInBounds_toArray, List.set_cons_zero, List.set_cons_succ])
      refine wpAnyH_take (i := 5) (oi := _) (v := .int .i64 h.nd) rfl (by kernel_rfl) (by kernel_rfl) (by kernel_rfl) (fun _ _ _ h => h) (Or.inl ⟨by rfl, fun w hSw => ?_⟩) S0 ?_
      · go_simp
      (try simp only [Act.put, List.getElem_toArray, List.getElem_cons_zero, List.getElem_cons_succ, List.setIfInBounds_toArray, List.set_cons_zero, List.set_cons_succ])
      refine wpAnyH_take (i := 7) (oi := _) (v := .pointer (some ⟨wr.heap.size, 2, none⟩)) rfl (by kernel_rfl) (by kernel_rfl) (by kernel_rfl) (fun _ _ _ h => h) (Or.inl ⟨by rfl, fun w hSw => ?_⟩) S0 ?_
      · go_simp
      (try simp only [Act.put, List.getElem_toArray, List.getElem_cons_zero, List.getElem_cons_succ, List.setIfInBounds_toArray, List.set_cons_zero, List.set_cons_succ])
      refine wpAnyH_take (i := 8) (oi := _) (v := .int .i64 h.tm) rfl (by kernel_rfl) (by kernel_rfl) (by kernel_rfl) (fun _ _ _ h => h) (Or.inl ⟨by rfl, fun w hSw => ?_⟩) S0 ?_
      · go_simp
      (try simp only [Act.put, List.getElem_toArray, List.getElem_cons_zero, List.getElem_cons_succ, List.setIfInBounds_toArray, List.set_cons_zero, List.set_cons_succ])
      refine wpAnyH_take (i := 10) (oi := _) (v := .pointer (some ⟨wr.heap.size, 3, none⟩)) rfl (by kernel_rfl) (by kernel_rfl) (by kernel_rfl) (fun _ _ _ h => h) (Or.inl ⟨by rfl, fun w hSw => ?_⟩) S0 ?_
      · go_simp
      (try simp only [Act.put, List.getElem_toArray, List.getElem_cons_zero, List.getElem_cons_succ, List.setIfInBounds_toArray, List.set_cons_zero, List.set_cons_succ])
      refine wpAnyH_take (i := 11) (oi := _) (v := .slice xa xm xc) rfl (by kernel_rfl) (by kernel_rfl) (by kernel_rfl) (fun _ _ _ h => h) (Or.inl ⟨by rfl, fun w hSw => ?_⟩) S0 ?_
      · go_simp
      (try simp only [Act.put, List.getElem_toArray, List.getElem_cons_zero, List.getElem_cons_succ, List.setIfInBounds_toArray, List.set_cons_zero, List.set_cons_succ])
      refine wpAnyH_ready (rs := [3]) (by kernel_rfl) (by simp) ?_
      refine AllReadyH.cons rfl (fun K hK => ?_) AllReadyH.nil
      go_simp; go_at_call 77
      refine (Z1.out _ _ _ HO1.out.drew).mono ?_
      rintro e wA ⟨v1, rfl, hO1, hbA⟩
      have iA := InW.tr (InW.drew (InW.refl _)) hbA
      refine hK.out _ _ (HS.out _ iA) (fun _ => ?_); clear hK K
      (try simp only [Act.put, List.getElem_toArray, List.getElem_cons_zero, List.getElem_cons_succ, List.setIfInBounds_toArray, List.set_cons_zero, List.set_cons_succ])
      refine wpAnyH_ready (rs := [6]) (by kernel_rfl) (by simp) ?_
      refine AllReadyH.cons rfl (fun K hK => ?_) AllReadyH.nil
      go_simp; go_at_call 77
      refine (Z2.out _ _ _ hO1).mono ?_
      rintro e wB ⟨v2, rfl, hO2, hbB⟩
      have iB := InW.tr iA hbB
      refine hK.out _ _ (HS.out _ iB) (fun _ => ?_); clear hK K
      (try simp only [Act.put, List.getElem_toArray, List.getElem_cons_zero, List.getElem_cons_succ, List.setIfInBounds_toArray, List.set_cons_zero, List.set_cons_succ])
      refine wpAnyH_ready (rs := [9]) (by kernel_rfl) (by simp) ?_
      refine AllReadyH.cons rfl (fun K hK => ?_) AllReadyH.nil
      go_simp; go_at_call 77
      refine (Z3.out _ _ _ hO2).mono ?_
      rintro e wC ⟨v3, rfl, hO3, hbC⟩
      have iC := InW.tr iB hbC
      refine hK.out _ _ (HS.out _ iC) (fun _ => ?_); clear hK K
      (try simp only [Act.put, List.getElem_toArray, List.getElem_cons_zero, List.getElem_cons_succ, List.setIfInBounds_toArray, List.set_cons_zero, List.set_cons_succ])
      refine wpAnyH_ready (rs := [12]) (by kernel_rfl) (by simp) ?_
      refine AllReadyH.cons rfl (fun K hK => ?_) AllReadyH.nil
      go_simp; go_at_call 49
      refine (CE.out _ iC).mono ?_
      rintro e wD ⟨v4, rfl, hO4, hbD⟩
      have iD := InW.tr iC hbD
      have rd := conv_own hO4
      refine hK.out _ _ (HS.out _ iD) (fun _ => ?_); clear hK K
      (try simp only [Act.put, List.getElem_toArray, List.getElem_cons_zero, List.getElem_cons_succ, List.setIfInBounds_toArray, List.set_cons_zero, List.set_cons_succ])
      refine wpAnyH_ready (rs := [13]) (by kernel_rfl) (by simp) ?_
      refine AllReadyH.cons rfl (fun K hK => ?_) AllReadyH.nil
      go_simp
      refine hK.out _ _ (HS.out _ iD) (fun _ => ?_); clear hK K
      (try simp only [Act.put, List.getElem_toArray, List.getElem_cons_zero, List.getElem_cons_succ, List.setIfInBounds_toArray, List.set_cons_zero, List.set_cons_succ])
      refine wpAnyH_ready (rs := [14]) (by kernel_rfl) (by simp) ?_
      refine AllReadyH.cons rfl (fun K hK => ?_) AllReadyH.nil
      go_simp; go_at_call 78
      refine (PT.out _ _ _ (hO3.below hbD).slB).mono ?_
      rintro e wE ⟨v5, rfl, hO5, hbE⟩
      have iE := InW.tr iD hbE
      refine hK.out _ _ (HS.out _ iE) (fun _ => ?_); clear hK K
      (try simp only [Act.put, List.getElem_toArray, List.getElem_cons_zero, List.getElem_cons_succ, List.setIfInBounds_toArray, List.set_cons_zero, List.set_cons_succ])
      refine wpAnyH_ready (rs := [15]) (by kernel_rfl) (by simp) ?_
      refine AllReadyH.cons rfl (fun K hK => ?_) AllReadyH.nil
      go_simp
      refine hK.out _ _ (HS.out _ iE) (fun _ => ?_); clear hK K
      (try simp only [Act.put, List.getElem_toArray, List.getElem_cons_zero, List.getElem_cons_succ, List.setIfInBounds_toArray, List.set_cons_zero, List.set_cons_succ])
      refine wpAnyH_done (by kernel_rfl) ?_ _
      have HBE := Lib.hid (below_tr HB1.out iE)
      have HOE := Lib.hid (show OwnB wE w.heap.size v5 (pl ++ (l.take (i + 1)).flatMap hintL) from by
        rw [HTK.out, show hintL h = putL (zigN h.id) ++ putL (zigN h.nd) ++ putL (zigN h.tm) ++ textL (cellsL h.L) from rfl]
        have := hO5.weaken (base' := w.heap.size) (by have := HB1.out.size; have := iD.size; omega)
        simpa [List.append_assoc] using this)
      clear hO1 hO2 hO3 hO4 hO5 rd iA iB iC iD iE S0 HS Z1 Z2 Z3 CE PT k0 k1 k2 k3 HO1
      go_wp2_with fail
      go_roundw
      case rel => exact ⟨i + 1, by first | rfl | go_num, by omega, HOE, HBE⟩
      case measure => (first | (simp [intOf]; done) | (simp [intOf]; omega))
    · have hlt' : i = qs.length := by omega
      have HOF := Lib.hid (show OwnB wr w.heap.size u3 (hintsL nx l) from by
        have := HO.out
        rw [List.take_of_length_le (by have := HLEN.out; omega)] at this
        rw [HFIN.out]; exact this)
      have FR := Lib.hid (Frame_any u3 (hintsL nx l) wr HOF.out.slB HL.out)
      have hz : ¬ (i : Int) < (qs.length : Int) := by omega
      clear hlt' HO
      go_wp2_with fail
      refine FR.out.mono ?_
      rintro e w5 ⟨v5, rfl, ho, hb⟩
      have HO5 := Lib.hid (ho.weaken HB.out.size); have HB5 := Lib.hid (below_tr HB.out hb)
      clear ho hb FR
      go_wp2_with fail
      go_ret
      exact ⟨v5, rfl, HO5.out, HB5.out⟩
end Go.Proofs.Ytefndmjimmbhnaa
end

section
set_option linter.unusedVariables false
set_option linter.unusedSimpArgs false
set_option maxRecDepth 50000
namespace Go.Proofs.Ytefndmjimmbhnaa
open Go.RowKit

theorem But.one (w : World) (d i : Nat) (u : Value) : But (· = d) w (w.setCell ⟨d, i, none⟩ u) := (But.refl (· = d) w).setCell (p := ⟨d, i, none⟩) rfl u
/-- the reader's two cells: what is left; or: it is bad, and has nothing -/
structure SR (B g : Nat) (W : World) (s : Option (List UInt8)) : Prop where
  ex : ∃ a c, Blk W g 97 #[.slice a (s.getD []).length c, .bool s.isNone] ∧ SlB B W (.slice a (s.getD []).length c) (s.getD []) ∧ (s = none → a = none ∧ c = 0)
  hb : B ≤ g
section
variable {B g : Nat} {W W1 : World} {s : Option (List UInt8)}
theorem SR.below (h : SR B g W s) (hb : Below W.heap.size W W1) : SR B g W1 s := by
  obtain ⟨a, c, h1, h2, h3⟩ := h.ex
  exact ⟨⟨a, c, h1.below hb, h2.below (hb.mono (Nat.le_trans h.hb (Nat.le_of_lt h1.lt))), h3⟩, h.hb⟩
theorem SR.put (h : SR B g W s) (u v : Value) : Below B W ((W.setCell ⟨g, 1, none⟩ u).setCell ⟨g, 0, none⟩ v) := ((Below.refl B W).setCell (p := ⟨g, 1, none⟩) h.hb u).setCell (p := ⟨g, 0, none⟩) h.hb v
end
theorem getL0_pos' {l : List UInt8} {u k : Nat} (h : getL 0 0 l = some (u, k)) : 0 < k ∧ k ≤ l.length := by
  have := getL_bound l 0 0 u k (by decide) (by decide) h
  omega
def passS (s : Option (List UInt8)) (k : Nat) : Option (List UInt8) := if k = 0 then none else s.map (·.drop k)
def PassPost (B g : Nat) (w : World) (s : Option (List UInt8)) (e : Ending) (w' : World) : Prop := e = .returned (.tuple #[]) ∧ SR B g w' s ∧ But (· = g) w w'
theorem hpass_any (B g k : Nat) (s : Option (List UInt8)) (w : World) (h : SR B g w s) (hk : k ≤ (s.getD []).length) :
    Calls Try.prog 65 #[.pointer (some ⟨g, 0, none⟩), .int .i64 (k : Int)] w (PassPost B g w (passS s k)) := by
  obtain ⟨a, c, h1, h2, h3⟩ := h.ex
  have c0 := h1.cell 0 rfl; have c1 := h1.cell 1 rfl; have f0 := h1.frozen 0; have f1 := h1.frozen 1
  have HH := Lib.hid h; have H1 := Lib.hid h1; have H2 := Lib.hid h2
  have BUT := Lib.hid (fun u v => show But (· = g) w ((w.setCell ⟨g, 1, none⟩ u).setCell ⟨g, 0, none⟩ v) from (But.one w g 1 u).trans (But.one _ g 0 v))
  cases s with
  | none =>
    obtain ⟨rfl, rfl⟩ := h3 rfl
    have hk0 : k = 0 := by simpa using hk
    subst hk0
    simp only [Option.getD_none, List.length_nil, Option.isNone_none] at *
    have FIN := Lib.hid (show SR B g ((w.setCell ⟨g, 1, none⟩ (.bool true)).setCell ⟨g, 0, none⟩ (.slice none 0 0)) none from ⟨⟨none, 0, (h1.put 1 (.bool true)).put 0 (.slice none 0 0), h2.below (h.put _ _), fun _ => ⟨rfl, rfl⟩⟩, h.hb⟩)
    clear h h1 h2 h3 hk
    go_enter Try.func65, Try.ntmps65
    go_wp2_with fail
    go_end0
    exact ⟨rfl, FIN.out, BUT.out _ _⟩
  | some r =>
    simp only [Option.getD_some, Option.isNone_some] at *
    by_cases hk0 : k = 0
    · subst hk0
      have FIN := Lib.hid (show SR B g ((w.setCell ⟨g, 1, none⟩ (.bool true)).setCell ⟨g, 0, none⟩ (.slice none 0 0)) none from ⟨⟨none, 0, (h1.put 1 (.bool true)).put 0 (.slice none 0 0), ⟨none, 0, rfl, by simp, fun hh => absurd hh (by simp)⟩, fun _ => ⟨rfl, rfl⟩⟩, h.hb⟩)
      clear h h1 h2 h3 hk
      go_enter Try.func65, Try.ntmps65
      go_wp2_with fail
      go_end0
      exact ⟨rfl, FIN.out, BUT.out _ _⟩
    · have cr := h2.cut_run k hk
      have cut := h2.cut k hk
      obtain ⟨a', n', c', hv'⟩ : ∃ a' n' c', cutV (.slice a r.length c) k = .slice a' n' c' := ⟨_, _, _, rfl⟩
      rw [hv'] at cr cut
      obtain ⟨a2, c2, e2, _, _⟩ := cut.ex
      injection e2 with e21 e22 e23
      subst e21 e22 e23
      have FIN := Lib.hid (show SR B g ((w.setCell ⟨g, 1, none⟩ (.bool false)).setCell ⟨g, 0, none⟩ (.slice a' (r.drop k).length c')) (some (r.drop k)) from ⟨⟨a', c', (h1.put 1 (.bool false)).put 0 _, cut.below (h.put _ _), fun hh => by cases hh⟩, h.hb⟩)
      have hkk : ((k : Int) == 0) = false := by rw [beq_eq_false_iff_ne]; omega
      have e : passS (some r) k = some (r.drop k) := by unfold passS; rw [if_neg hk0]; rfl
      rw [e]
      clear h h1 h2 h3 hk cut hv' e
      go_enter Try.func65, Try.ntmps65
      go_wp2_with fail
      go_end0
      exact ⟨rfl, by have := FIN.out; rwa [List.length_drop] at this, BUT.out _ _⟩
def numS (s : Option (List UInt8)) : Nat × Option (List UInt8) := match s.bind rdNum with
  | none => (0, none)
  | some p => (p.1, some p.2)
theorem numS_lt (s : Option (List UInt8)) : (numS s).1 < 18446744073709551616 := by
  unfold numS
  cases h : s.bind rdNum with
  | none => simp
  | some p =>
    obtain ⟨r, _, hr⟩ := Option.bind_eq_some_iff.1 h
    exact (rdNum_len (u := p.1) (r := p.2) hr).1
theorem numS_len (s : Option (List UInt8)) : ((numS s).2.getD []).length ≤ (s.getD []).length := by
  unfold numS
  cases h : s.bind rdNum with
  | none => simp
  | some p =>
    obtain ⟨r, hs, hr⟩ := Option.bind_eq_some_iff.1 h
    subst hs
    have := (rdNum_len (u := p.1) (r := p.2) hr).2.1
    show p.2.length ≤ r.length
    omega
def NumPost (B g : Nat) (w : World) (v : Value) (s : Option (List UInt8)) (e : Ending) (w' : World) : Prop := e = .returned v ∧ SR B g w' s ∧ But (· = g) w w'
theorem hnum_any (B g : Nat) (s : Option (List UInt8)) (w : World) (h : SR B g w s) (hl : (s.getD []).length ≤ 1000000) :
    Calls Try.prog 41 #[.pointer (some ⟨g, 0, none⟩)] w (NumPost B g w (.int .u64 ((numS s).1 : Int)) (numS s).2) := by
  obtain ⟨a, c, h1, h2, h3⟩ := h.ex
  have c0 := h1.cell 0 rfl
  have G := Lib.hid (Get_any (.slice a (s.getD []).length c) (s.getD []) B w h2 hl)
  obtain ⟨u, k, hk, hg, hp⟩ : ∃ u k : Nat, k ≤ (s.getD []).length ∧ getV (getL 0 0 (s.getD [])) = .returned (.tuple #[.int .u64 (u : Int), .int .i64 (k : Int)]) ∧ numS s = (u, passS s k) := by
    cases s with
    | none => exact ⟨0, 0, by simp, rfl, rfl⟩
    | some r =>
      rcases hgl : getL 0 0 r with _ | ⟨u, k⟩
      · refine ⟨0, 0, by simp, by rw [Option.getD_some, hgl]; rfl, ?_⟩
        unfold numS rdNum; rw [Option.bind_some, hgl]; rfl
      · have hp := getL0_pos' hgl
        refine ⟨u, k, hp.2, by rw [Option.getD_some, hgl]; rfl, ?_⟩
        unfold numS rdNum passS; rw [Option.bind_some, hgl, if_neg (by omega)]; rfl
  have P := Lib.hid (hpass_any B g k s w h hk)
  rw [hp]
  rw [hg] at G
  clear h h1 h2 h3 hg hp hk
  go_enter Try.func41, Try.ntmps41
  go_wp2_with fail
  refine G.out.mono ?_
  rintro e w1 ⟨rfl, rfl⟩
  go_wp2_with fail
  refine P.out.mono ?_
  rintro e w2 ⟨rfl, hs, hb⟩
  have HS := Lib.hid hs; have HB := Lib.hid hb; clear hs hb
  go_wp2_with fail
  go_ret
  exact ⟨rfl, HS.out, HB.out⟩
theorem hint_int (B g : Nat) (s : Option (List UInt8)) (w : World) (h : SR B g w s) (hl : (s.getD []).length ≤ 1000000) :
    Calls Try.prog 40 #[.pointer (some ⟨g, 0, none⟩)] w (NumPost B g w (.int .i64 (zagI (numS s).1)) (numS s).2) := by
  have N := Lib.hid (hnum_any B g s w h hl)
  have Z := Lib.hid (fun W => Zag_any (numS s).1 (numS_lt s) W)
  generalize numS s = q at *
  clear h
  go_enter Try.func40, Try.ntmps40
  go_wp2_with fail
  refine N.out.mono ?_
  rintro e w1 ⟨rfl, hs, hb⟩
  have HS := Lib.hid hs; have HB := Lib.hid hb; clear hs hb
  go_wp2_with fail
  refine (Z.out _).mono ?_
  rintro e w2 ⟨rfl, rfl⟩
  go_wp2_with fail
  go_ret
  exact ⟨rfl, HS.out, HB.out⟩
end Go.Proofs.Ytefndmjimmbhnaa
end
