/- making and copying rows of elements of many cells; contract of hints' copied. No condition but room. Contract of hints' copied. Condition: room. Contracts of hints' All, and of its methods at nil and at hints that no call made. Condition: room. -/
import Derived.Test.YtefndmjimmbhnaaZ40
import Derived.Laws.MakeOwn
import Derived.Test.YtefndmjimmbhnaaZ09
section
set_option linter.unusedVariables false
set_option linter.unusedSimpArgs false
set_option maxRecDepth 50000
namespace Go.Proofs.Ytefndmjimmbhnaa
open Go.RowKit Go.Shelf

/-- a new slice of n zero elements -/
theorem made_many {α : Type} (E : El α) (z0 : α) (hz : E.z.cells.toList = E.enc z0) (w : World) (n : Nat) (hb : E.bytes * n ≤ 281474976710656) (h63 : n ≤ 9223372036854775807) (kl : IntKind) :
    ∃ cs, (Instr.makeSlice E.st (.int kl (n : Int)) (.int kl (n : Int))).run Try.prog w = .ok (.slice (some ⟨w.heap.size, 0, none⟩) n n) (w.alloc (.cells cs E.t)) ∧ OwnX E (w.alloc (.cells cs E.t)) w.heap.size (.slice (some ⟨w.heap.size, 0, none⟩) n n) (List.replicate n z0) := by
  obtain ⟨i0, hi, hz0, hz2, hz3⟩ := info_parts E.info
  have hr := run_make (P := Try.prog) w E.st E.t i0 E.z E.und hi hz0 kl kl (n : Int) (n : Int) (by omega) (Int.le_refl _) (by rw [hz3]; have h : ((E.bytes * n : Nat) : Int) ≤ 281474976710656 := (by omega); rwa [Int.natCast_mul] at h) (by omega)
  rw [Int.toNat_natCast, hz2] at hr
  refine ⟨_, hr, ?_⟩
  have h := World.ownsRow_lit (base := w.heap.size) (e := E.t) (size := E.size) w (madeCells E.z.cells (n * E.size)) n (Nat.le_refl _) (by unfold maxLen; omega) (size_madeCells _ _)
  unfold OwnX
  rw [List.length_replicate]
  have hsz : E.z.cells.size = E.size := by
    have := congrArg List.length hz
    rw [E.len] at this
    simpa using this
  have ec : (madeCells E.z.cells (n * E.size)).toList = E.cells (List.replicate n z0) := by
    refine List.ext_getElem? fun j => ?_
    by_cases hj : j < n * E.size
    · have hp := E.pos
      have hq : j / E.size < n := Nat.div_lt_of_lt_mul (by rw [Nat.mul_comm]; exact hj)
      have hm : j % E.size < E.size := Nat.mod_lt _ hp
      have e1 : j = j / E.size * E.size + j % E.size := by rw [Nat.mul_comm]; exact (Nat.div_add_mod _ _).symm
      have h1 : (E.cells (List.replicate n z0))[j]? = (E.enc z0)[j % E.size]? := by
        conv => lhs; rw [e1]
        rw [El.cells_get E (List.replicate n z0) (j / E.size) (j % E.size) (by simpa using hq) hm]
        rw [List.getElem_replicate]
      rw [h1, ← hz, Array.getElem?_toList, Array.getElem?_toList]
      unfold madeCells
      rw [Array.getElem?_map, Array.getElem?_range, if_pos hj, Option.map_some, hsz]
      rw [Array.getElem?_eq_getElem (by rw [hsz]; exact hm), getElem!_pos _ _ (by rw [hsz]; exact hm)]
    · rw [List.getElem?_eq_none (by rw [Array.length_toList, size_madeCells]; omega), List.getElem?_eq_none (by rw [El.cells_len, List.length_replicate]; omega)]
  rw [ec] at h
  exact h
/-- all cells of a row are written -/
theorem OwnX.fill {α : Type} {E : El α} {w : World} {base g n cap : Nat} {l l2 : List α} (h : OwnX E w base (.slice (some ⟨g, 0, none⟩) n cap) l) (hl : l2.length = l.length) : OwnX E (w.setCells g 0 (E.cells l2)) base (.slice (some ⟨g, 0, none⟩) n cap) l2 := by
  obtain ⟨h1, h2⟩ := h
  rcases h2 with ⟨h2, _⟩ | ⟨g', cap', cur, e, hg, hh, hn, hm, hs, ht⟩
  · cases h2
  · simp only [Value.slice.injEq, Option.some.injEq, Addr.mk.injEq, and_true] at e
    obtain ⟨rfl, hl1, rfl⟩ := e
    obtain ⟨cs', k1, k2, k3, k4⟩ := Blk.setCells (E.cells l2) 0 w cur hh
    have hfit : (E.cells l2).length ≤ cur.size := by rw [El.cells_len, hs, hl]; exact Nat.mul_le_mul_right _ hn
    refine ⟨by rw [El.cells_len], .inr ⟨g, cap, cs', by rw [hl, hl1], hg, k1, by omega, hm, by rw [k2, hs], ?_⟩⟩
    refine List.ext_getElem? fun j => ?_
    by_cases hj : j < l2.length * E.size
    · rw [List.getElem?_take_of_lt hj, Array.getElem?_toList]
      have := k4 j (by rw [El.cells_len]; exact hj) (by rw [Nat.zero_add]; exact hfit)
      rwa [Nat.zero_add] at this
    · rw [List.getElem?_eq_none (by simp; omega), List.getElem?_eq_none (by rw [El.cells_len]; omega)]
/-- a row of as many elements is copied over one that is owned -/
theorem copy_many {α : Type} (E : El α) (w : World) (base B g n c : Nat) (ty : TypeId) (cur L : List α) (a : Option Addr) (sc : Nat) (HO : OwnX E w base (.slice (some ⟨g, 0, none⟩) n c) cur) (HV : SlX E B w (.slice a n sc) L) (hn : L.length = cur.length) :
    ∃ w', (Builtin.copy_ #[E.st, E.st] ty #[.slice (some ⟨g, 0, none⟩) n c, .slice a n sc]).run Try.prog w = .ok (goInt n) w' ∧ w.grownBy w' (some g) ∧ OwnX E w' base (.slice (some ⟨g, 0, none⟩) n c) L := by
  have hnl : n = L.length := by
    obtain ⟨a', c', e, _⟩ := HV.ex
    injection e
  obtain ⟨i0, hi, hz0, hz2, hz3⟩ := info_parts E.info
  have hcell : ∀ j, j < (E.cells L).length → (w.cell? ⟨g, 0 + 0 + j, none⟩).isSome = true := fun j hj => by
    rw [El.cells_len] at hj
    have hcc := World.ownsRow.cells HO (g := g) rfl j
    have hx : j < (E.cells cur).length := by rw [El.cells_len, ← hn]; exact hj
    have := hcc _ (List.getElem?_eq_getElem hx)
    rw [add0] at this
    rw [show 0 + 0 + j = 0 + j by omega, this]; rfl
  have hst := run_storeCells_cells (P := Try.prog) g 0 (E.cells L) 0 w hcell (fun j hj => HO.frozen _) (fun u hu => E.cells_one L u hu)
  have hd := E.und
  refine ⟨w.setCells g 0 (E.cells L), ?_, gb_setCells _ _ _ _ (World.grownBy.refl _ _), HO.fill hn⟩
  obtain ⟨a', c', e, hc, hx⟩ := HV.ex
  injection e with e1 e2 e3
  subst e1 e3
  rcases Nat.eq_zero_or_pos L.length with h0 | h0
  · have hL : L = [] := List.eq_nil_of_length_eq_zero h0
    subst hL
    have hn0 : n = 0 := by simpa using hnl
    subst hn0
    have hl : ∀ (x : Addr), (loadCells x 0).run Try.prog w = .ok #[] w := fun x => by simpa using run_loadCells_list (P := Try.prog) w x [] (by simp)
    cases a <;> simp [Builtin.copy_, run_underlying hd, Builtin.lenOf, Builtin.firstCells, sizeOf, typeInfo, hi, storeCells, hl, El.cells, World.setCells]
  · obtain ⟨g1, o1, rfl, _, hcells⟩ := hx h0
    have hl := run_loadCells_list (P := Try.prog) w ⟨g1, o1, none⟩ (E.cells L) (fun j u hj => by rw [Addr.add_lit]; exact hcells j u hj)
    rw [El.cells_len, ← hnl] at hl
    simp [Builtin.copy_, run_underlying hd, Builtin.lenOf, Builtin.firstCells, sizeOf, typeInfo, hi, hz2, hl, hst]
end Go.Proofs.Ytefndmjimmbhnaa
end

section
set_option linter.unusedVariables false
set_option linter.unusedSimpArgs false
set_option maxRecDepth 50000
namespace Go.Proofs.Ytefndmjimmbhnaa
open Go.RowKit Go.Shelf

def cel0 : Cel := ⟨⟨⟨#[]⟩, ⟨#[]⟩, 0, ⟨#[]⟩⟩, ⟨0, false, 0, 0, 0, ⟨#[]⟩⟩⟩
/-- hints of which the first i have cells of their own -/
structure CopyS (B : Nat) (w : World) (L : List Hn) (qs : List Hq) (i : Nat) (cur : List Hq) : Prop where
  len : cur.length = qs.length
  at_ : ∀ (j : Nat) (h1 : j < cur.length) (h2 : j < L.length), cur[j].id = L[j].id ∧ cur[j].nd = L[j].nd ∧ cur[j].tm = L[j].tm ∧ (j < i → OwnX eC w B cur[j].val L[j].L)
  rest : ∀ (j : Nat) (h1 : j < cur.length) (h2 : j < qs.length), i ≤ j → cur[j] = qs[j]
def CopPost (w : World) (L : List Hn) (e : Ending) (w' : World) : Prop := ∃ v qs, e = .returned v ∧ OwnX eT w' w.heap.size v qs ∧ HnsO w' w.heap.size qs L ∧ Below w.heap.size w w'
theorem hq_cells_set (a : Option Addr) (n c : Nat) : ∀ (l : List Hq) (j : Nat) (hj : j < l.length), eT.cells (l.set j { l[j] with a := a, n := n, c := c }) = (eT.cells l).set (j * 4 + 3) (.slice a n c)
  | [], j, hj => absurd hj (by simp)
  | x :: l, 0, _ => rfl
  | x :: l, j + 1, hj => by
    have ih := hq_cells_set a n c l j (by simpa using hj)
    rw [List.set_cons_succ, El.cells_cons, El.cells_cons, List.getElem_cons_succ, ih]
    rw [List.set_append_right _ _ (by show 4 ≤ _; omega)]
    rw [show (j + 1) * 4 + 3 - (eT.enc x).length = j * 4 + 3 by show (j + 1) * 4 + 3 - 4 = _; omega]
theorem hq_put {w : World} {base g n c : Nat} {l : List Hq} (h : OwnX eT w base (.slice (some ⟨g, 0, none⟩) n c) l) (j : Nat) (hj : j < l.length) (a2 : Option Addr) (n2 c2 : Nat) :
    OwnX eT (w.setCell ⟨g, j * 4 + 3, none⟩ (.slice a2 n2 c2)) base (.slice (some ⟨g, 0, none⟩) n c) (l.set j { l[j] with a := a2, n := n2, c := c2 }) := by
  have hn : n = l.length := by
    rcases h.form with ⟨h0, _⟩ | ⟨_, _, h0, _⟩
    · cases h0
    · injection h0
  subst hn
  have := World.ownsRow.stored h (j * 4 + 3) (.slice a2 n2 c2)
  rw [← hq_cells_set a2 n2 c2 l j hj] at this
  unfold OwnX
  rw [List.length_set]
  exact this.1
theorem CopyS.start {B : Nat} {w w1 : World} {L : List Hn} {qs : List Hq} (h : HnsW w qs L) : CopyS B w1 L qs 0 qs := ⟨rfl, fun j h1 h2 => by
  obtain ⟨a, b, c, _⟩ := h.at_ j h1 h2
  exact ⟨a, b, c, fun h => absurd h (by omega)⟩, fun _ _ _ _ => rfl⟩
theorem CopyS.hns {B : Nat} {w1 : World} {L : List Hn} {qs cur : List Hq} {n : Nat} (h : CopyS B w1 L qs n cur) (hn : qs.length = n) (hl : L.length = n) : HnsO w1 B cur L := ⟨by rw [h.len, hn, hl], fun j h1 h2 => by
  obtain ⟨a, b, c, d⟩ := h.at_ j h1 h2
  exact ⟨a, b, c, d (by omega)⟩⟩
theorem CopyS.next {B : Nat} {w w1 : World} {L : List Hn} {qs cur : List Hq} {i : Nat} {a2 : Option Addr} {n2 c2 : Nat} (h : CopyS B w L qs i cur) (hi : i < cur.length) (hL : i < L.length)
    (hk : ∀ (v : Value) (l : List Cel), OwnX eC w B v l → OwnX eC w1 B v l) (ho : OwnX eC w1 B (.slice a2 n2 c2) L[i].L) : CopyS B w1 L qs (i + 1) (cur.set i { cur[i] with a := a2, n := n2, c := c2 }) := by
  refine ⟨by rw [List.length_set, h.len], fun j h1 h2 => ?_, fun j h1 h2 hj => ?_⟩
  · rw [List.length_set] at h1
    obtain ⟨a, b, c, d⟩ := h.at_ j h1 h2
    by_cases he : i = j
    · subst he
      rw [List.getElem_set_self]
      exact ⟨a, b, c, fun _ => ho⟩
    · rw [List.getElem_set_ne he]
      exact ⟨a, b, c, fun hh => hk _ _ (d (by omega))⟩
  · rw [List.length_set] at h1
    rw [List.getElem_set_ne (by omega)]
    exact h.rest j h1 h2 (by omega)
set_option maxHeartbeats 2000000 in
theorem copied_any (v : Value) (qs : List Hq) (L : List Hn) (w : World) (hv : SlX eT w.heap.size w v qs) (hq : HnsW w qs L) (hl : L.length ≤ 1000000) (hlc : ∀ h ∈ L, h.L.length ≤ 1000000) :
    Calls Try.prog 25 #[v] w (CopPost w L) := by
  obtain ⟨n, hn⟩ : ∃ n, qs.length = n := ⟨_, rfl⟩
  have HN := Lib.hid hn; have HLN := Lib.hid (hq.len.symm.trans hn)
  have hn2 : n ≤ 1000000 := by rw [← HLN.out]; exact hl
  have C := Lib.hid (hcloneT v qs w hv (by omega))
  have HQ := Lib.hid hq
  have HLC := Lib.hid hlc
  clear hv hq hlc hl hn
  go_enter Try.func25, Try.ntmps25
  go_wp2_with fail
  refine C.out.mono ?_
  rintro e w1 ⟨v1, rfl, ho, hb⟩
  have HB := Lib.hid hb
  have FORM := ho.form
  rw [HN.out] at FORM
  rcases FORM with ⟨rfl, h0⟩ | ⟨g, c, rfl, hc, hg, hgw, hcs⟩
  · have H0 := Lib.hid h0
    clear ho hb C h0
    go_wp2_with fail
    go_loopw [3, 4, 5, 10] (fun _ _ _ v10 wr => v10 = .int .i64 0 ∧ w1 = wr) (fun _ _ _ _ _ => 0)
    case atStart => exact ⟨rfl, rfl⟩
    case round =>
      obtain ⟨rfl, rfl⟩ := hrel
      go_wp2_with fail
      go_ret
      refine ⟨.slice none 0 0, [], rfl, OwnX.nil _ _, ⟨?_, by intro i h1; simp at h1⟩, HB.out⟩
      have h1 := HN.out; have h2 := HLN.out
      rw [H0.out] at h1
      rw [h2]; exact h1
  · have HO := Lib.hid ho; have HG := Lib.hid hg
    have S0 := Lib.hid (CopyS.start (B := w.heap.size) (w1 := w1) HQ.out)
    clear ho hb C hg hc hgw hcs
    go_wp2_with fail
    go_loopw [3, 4, 5, 10] (fun _ _ _ v10 wr => ∃ (i : Nat) (cur : List Hq), v10 = .int .i64 (i : Int) ∧ i ≤ n ∧ Hid (CopyS w.heap.size wr L qs i cur) ∧ Hid (OwnX eT wr w.heap.size (.slice (some ⟨g, 0, none⟩) n c) cur) ∧ Hid (Below w.heap.size w wr)) (fun _ _ _ v10 _ => n - (intOf v10).toNat)
    case atStart => exact ⟨0, qs, rfl, by omega, S0, HO, HB⟩
    case round =>
      obtain ⟨i, cur, rfl, hi, ST, OW, BW⟩ := hrel
      by_cases hlt : i < n
      · have hz : (i : Int) < (n : Int) := by omega
        have hci : i < cur.length := by rw [ST.out.len, HN.out]; exact hlt
        have hqi : i < qs.length := by rw [HN.out]; exact hlt
        have hLi : i < L.length := by rw [HLN.out]; exact hlt
        have qua := OW.out.qua i hci
        have SRC := Lib.hid (((HQ.out.at_ i hqi hLi).2.2.2).keep BW.out)
        have NXT := Lib.hid (fun W a2 n2 c2 hk ho => ST.out.next (w1 := W) (a2 := a2) (n2 := n2) (c2 := c2) hci hLi hk ho)
        have PUT := Lib.hid (fun W (hW : Below wr.heap.size wr W) a2 n2 c2 => hq_put (OW.out.below hW) i hci a2 n2 c2)
        have LEN := Lib.hid (HLC.out L[i] (List.getElem_mem hLi))
        rw [ST.out.rest i hci hqi (Nat.le_refl _)] at qua NXT PUT
        generalize qs[i] = q at *
        generalize L[i].L = Lc at *
        have c0 := qua.c0; have c1 := qua.c1; have c2 := qua.c2; have c3 := qua.c3
        obtain ⟨xi, xn, xt, xa, xl, xc⟩ := q
        have hxl : xl = Lc.length := by
          obtain ⟨_, _, e, _, _⟩ := SRC.out.ex
          injection e
        have HXL := Lib.hid hxl
        have hx6 : xl ≤ 1000000 := by rw [hxl]; exact LEN.out
        clear qua hxl
        simp only at *
        have A1 := Lib.hid (below_alloc (Below.refl _ wr) (.cells #[.int .i64 xi, .int .i64 xn, .int .i64 xt, .slice xa xl xc] 64))
        have hbk : Blk (wr.alloc (.cells #[.int .i64 xi, .int .i64 xn, .int .i64 xt, .slice xa xl xc] 64)) wr.heap.size 64 #[.int .i64 xi, .int .i64 xn, .int .i64 xt, .slice xa xl xc] := Blk.new wr _ _
        have BK := Lib.hid hbk
        clear hbk
        go_upto_region 5 with (fail)
        generalize hW1 : wr.alloc (.cells #[.int .i64 xi, .int .i64 xn, .int .i64 xt, .slice xa xl xc] 64) = W1 at *
        clear c0 c1 c2 c3
        obtain ⟨CS, hmk, hmo⟩ := made_many eC cel0 rfl W1 xl (by show 112 * xl ≤ _; omega) (by omega) .i64
        have f3 := BK.out.cell 3 rfl
        have hsz : W1.heap.size = wr.heap.size + 1 := by rw [← hW1]; simp
        have mk2 : (Instr.makeSlice 26 (.int .i64 (xl : Int)) (.int .i64 (xl : Int))).run Try.prog W1 = .ok (.slice (some ⟨W1.heap.size, 0, none⟩) xl xl) (W1.alloc (.cells CS 62)) := hmk
        have AA := below_alloc A1.out (.cells CS 62)
        have BK2 := BK.out.alloc (.cells CS 62)
        obtain ⟨W3, hcp, hg3, ho3⟩ := copy_many eC (W1.alloc (.cells CS 62)) W1.heap.size (W1.alloc (.cells CS 62)).heap.size W1.heap.size xl xl 3 (List.replicate xl cel0) Lc xa xc hmo (SRC.out.keep AA) (by rw [List.length_replicate]; exact HXL.out.symm)
        have cp2 : (Builtin.copy_ #[26, 26] 3 #[.slice (some ⟨W1.heap.size, 0, none⟩) xl xl, .slice xa xl xc]).run Try.prog (W1.alloc (.cells CS 62)) = .ok (goInt xl) W3 := hcp
        have f3' := BK2.cell 3 rfl
        have B3 := Below.grown AA hg3 (by simp; omega) (fun k hk => by injection hk with hk; omega)
        have HB3 := Lib.hid (show Below wr.heap.size wr W3 from B3); have HO3 := Lib.hid ho3
        have HSZ := Lib.hid hsz
        clear hW1 hmk hmo hcp hg3 ho3 AA BK2 B3 SRC hsz
        go_upto_region 7 with (fail)
        clear f3 f3' mk2 cp2
        have O3 := OW.out.below HB3.out
        have qua3 := O3.qua i hci
        have m3 := qua3.c3
        have fz := O3.frozen (i * 4 + 3)
        clear qua3
        have BF := Lib.hid (BW.out.trans (Below.mono HB3.out BW.out.size))
        have HO33 := Lib.hid O3
        clear O3
        have KEEP := Lib.hid (fun (u : Value) (v : Value) (l : List Cel) (h : OwnX eC W3 w.heap.size v l) => show OwnX eC (W3.setCell ⟨g, i * 4 + 3, none⟩ u) w.heap.size v l from h.grown (gb_set (World.grownBy.refl _ _) (i * 4 + 3) u) (own_ne h HO33.out (by decide)))
        have K2 := Lib.hid (fun (v : Value) (l : List Cel) (h : OwnX eC wr w.heap.size v l) => h.below HB3.out)
        have ho5 := HO3.out.weaken (base' := w.heap.size) (by have h1 := HSZ.out; have h2 := BW.out.size; omega)
        have NX := Lib.hid (NXT.out (W3.setCell ⟨g, i * 4 + 3, none⟩ (.slice (some ⟨W1.heap.size, 0, none⟩) xl xl)) (some ⟨W1.heap.size, 0, none⟩) xl xl (fun v l h => KEEP.out _ v l (K2.out v l h)) (KEEP.out _ _ _ ho5))
        have PX := Lib.hid (PUT.out W3 HB3.out (some ⟨W1.heap.size, 0, none⟩) xl xl)
        have BX := Lib.hid (BF.out.setCell (p := ⟨g, i * 4 + 3, none⟩) HG.out (.slice (some ⟨W1.heap.size, 0, none⟩) xl xl))
        clear ho5 K2 KEEP NXT PUT
        go_wp2_with fail
        exact ⟨⟨i + 1, _, by first | rfl | go_num, by omega, NX, PX, BX⟩, by simp [intOf]; omega⟩
      · have hz : ¬ (i : Int) < (n : Int) := by omega
        obtain rfl : i = n := by omega
        have HN2 := Lib.hid (ST.out.hns HN.out HLN.out)
        go_wp2_with fail
        go_ret
        exact ⟨_, cur, rfl, OW.out, HN2.out, BW.out⟩
end Go.Proofs.Ytefndmjimmbhnaa
end

section
set_option linter.unusedVariables false
set_option linter.unusedSimpArgs false
set_option maxRecDepth 50000
namespace Go.Proofs.Ytefndmjimmbhnaa
open Go.RowKit Go.Shelf

set_option maxHeartbeats 1000000 in
theorem hAll_any (D : Dsk) (gh : Nat) (nx : Int) (l : List Hn) (dead : Bool) (w : World) (h : HW w D gh nx l dead) (hl : l.length ≤ 1000000) (hlc : ∀ h ∈ l, h.L.length ≤ 1000000) :
    Calls Try.prog 10 #[ptrV gh] w (CopPost w l) := by
  have M := Lib.hid (made_any D gh nx l dead w h)
  have HH := Lib.hid h
  have CP := Lib.hid (fun W v qs (hv : SlX eT W.heap.size W v qs) (hq : HnsW W qs l) => copied_any v qs l W hv hq hl hlc)
  clear h hl hlc
  simp only [ptrV] at *
  go_enter Try.func10, Try.ntmps10
  go_wp2_with fail
  refine M.out.mono ?_
  rintro e w1 ⟨rfl, hb⟩
  have HH1 := Lib.hid (HH.out.below hb); have HB := Lib.hid hb
  clear hb M HH
  obtain ⟨qs, a, c, h1, h2, h3⟩ := HH1.out.ex
  have c2 : w1.cell? ⟨gh, 2, none⟩ = some (.slice a qs.length c) := h1.cell 2 rfl
  have CP1 := Lib.hid (CP.out w1 _ qs h2.sl h3.w)
  clear h1 h2 h3 CP
  go_wp2_with fail
  refine CP1.out.mono ?_
  rintro e w2 ⟨v, qs2, rfl, ho, hq, hb⟩
  have HO := Lib.hid (ho.weaken HB.out.size); have HB2 := Lib.hid (below_tr HB.out hb)
  have HQ := Lib.hid (show HnsO w2 w.heap.size qs2 l from ⟨hq.len, fun i h1 h2 => by
    obtain ⟨a, b, c, d⟩ := hq.at_ i h1 h2
    exact ⟨a, b, c, d.weaken HB.out.size⟩⟩)
  clear ho hq hb CP1
  go_wp2_with fail
  go_ret
  exact ⟨v, qs2, rfl, HO.out, HQ.out, HB2.out⟩

/-- a pointer to hints that no call made -/
structure UnM (w : World) (p : Option Addr) : Prop where
  ex : p = none ∨ ∃ g, p = some ⟨g, 0, none⟩ ∧ w.cell? ⟨g, 0, none⟩ = some (.pointer none)
theorem UnM.keep {w w1 : World} {p : Option Addr} (h : UnM w p) (hb : Below w.heap.size w w1) : UnM w1 p := by
  rcases h.ex with h | ⟨g, h1, h2⟩
  · exact ⟨.inl h⟩
  · exact ⟨.inr ⟨g, h1, cell_keep hb h2⟩⟩
theorem unmade (w : World) (p : Option Addr) (h : UnM w p) : Calls Try.prog 24 #[.pointer p] w fun e w' => e = .returned (.bool false) ∧ Below w.heap.size w w' := by
  rcases h.ex with rfl | ⟨g, rfl, hc⟩
  · exact made_nil w
  · clear h
    go_enter Try.func24, Try.ntmps24
    go_wp2_with fail
    go_ret
    exact ⟨rfl, Below.refl _ _⟩
theorem unmay (w : World) (p : Option Addr) (h : UnM w p) : Calls Try.prog 26 #[.pointer p] w fun e w' => e = .returned (.int .i64 1) ∧ Below w.heap.size w w' := by
  have M := Lib.hid (unmade w p h)
  clear h
  go_enter Try.func26, Try.ntmps26
  go_wp2_with fail
  refine M.out.mono ?_
  rintro e w1 ⟨rfl, hb⟩
  have HB := Lib.hid hb
  clear hb M
  go_wp2_with fail
  go_ret
  exact ⟨rfl, HB.out⟩
theorem unAdd (w : World) (p : Option Addr) (a b : Int) (v : Value) (h : UnM w p) : Calls Try.prog 11 #[.pointer p, .int .i64 a, .int .i64 b, v] w fun e w' => e = .returned (.tuple #[.int .i64 0, .int .i64 1]) ∧ Below w.heap.size w w' := by
  have M := Lib.hid (unmay w p h)
  clear h
  go_enter Try.func11, Try.ntmps11
  go_wp2_with fail
  refine M.out.mono ?_
  rintro e w1 ⟨rfl, hb⟩
  have HB := Lib.hid hb
  clear hb M
  go_wp2_with fail
  refine bodyPost_ret (v := .tuple #[.int .i64 0, .int .i64 1]) (by simp [results, Try.results11, go_sem]) rfl ⟨rfl, HB.out⟩
theorem unExpire (w : World) (p : Option Addr) (a b : Int) (h : UnM w p) : Calls Try.prog 19 #[.pointer p, .int .i64 a, .int .i64 b] w fun e w' => e = .returned (.tuple #[.int .i64 0, .int .i64 1]) ∧ Below w.heap.size w w' := by
  have A1 := below_alloc (Below.refl _ w) (.cells #[.int .i64 a] 3)
  have A2 := below_alloc A1 (.cells #[.int .i64 b] 3)
  have M := Lib.hid (unmay _ p (h.keep A2)); have HA := Lib.hid A2
  clear h A1 A2
  go_enter Try.func19, Try.ntmps19
  go_wp2_with fail
  refine M.out.mono ?_
  rintro e w1 ⟨rfl, hb⟩
  have HB := Lib.hid (below_tr HA.out hb)
  clear hb M
  go_wp2_with fail
  refine bodyPost_ret (v := .tuple #[.int .i64 0, .int .i64 1]) (by simp [results, Try.results19, go_sem]) rfl ⟨rfl, HB.out⟩
theorem unDrop (w : World) (p : Option Addr) (a : Int) (h : UnM w p) : Calls Try.prog 13 #[.pointer p, .int .i64 a] w fun e w' => e = .returned (.int .i64 1) ∧ Below w.heap.size w w' := by
  have A1 := below_alloc (Below.refl _ w) (.cells #[.int .i64 a] 3)
  have M := Lib.hid (unmay _ p (h.keep A1)); have HA := Lib.hid A1
  clear h A1
  go_enter Try.func13, Try.ntmps13
  go_wp2_with fail
  refine M.out.mono ?_
  rintro e w1 ⟨rfl, hb⟩
  have HB := Lib.hid (below_tr HA.out hb)
  clear hb M
  go_wp2_with fail
  go_ret
  exact ⟨rfl, HB.out⟩
theorem unAll (w : World) (p : Option Addr) (h : UnM w p) : Calls Try.prog 10 #[.pointer p] w fun e w' => e = .returned (.slice none 0 0) ∧ Below w.heap.size w w' := by
  have M := Lib.hid (unmade w p h)
  clear h
  go_enter Try.func10, Try.ntmps10
  go_wp2_with fail
  refine M.out.mono ?_
  rintro e w1 ⟨rfl, hb⟩
  have HB := Lib.hid hb
  clear hb M
  go_wp2_with fail
  go_ret
  exact ⟨rfl, HB.out⟩
theorem delH_nil (f : Nat) (caps : Array Value) (eg : ∀ args w, (callFunc f args).run Try.prog w = .ok (.enter f args) w) (w : World) :
    Calls Try.prog 36 #[.slice none 0 0, .func (.func f) #[] caps] w fun e w' => e = .returned (.slice none 0 0) ∧ Below w.heap.size w w' := by
  have C := Lib.hid (idxH_any f caps eg 0 w [] (fun _ => false) (.slice none 0 0) w (fun W hW x hx => absurd hx (by simp)) (OwnX.nil w 0).sl (But.refl _ _) (by simp))
  clear eg
  go_enter Try.func36, Try.ntmps36
  go_wp2_with fail
  refine C.out.mono ?_
  rintro e w1 ⟨r, rfl, hr, hb⟩
  have HB := Lib.hid hb
  clear hb C
  rcases hr with ⟨rfl, _⟩ | ⟨k, hk, _⟩
  · go_wp2_with fail
    go_ret
    exact ⟨rfl, HB.out⟩
  · simp at hk
theorem unFor (w : World) (p : Option Addr) (a : Int) (h : UnM w p) : Calls Try.prog 20 #[.pointer p, .int .i64 a] w fun e w' => e = .returned (.slice none 0 0) ∧ Below w.heap.size w w' := by
  have A1 := below_alloc (Below.refl _ w) (.cells #[.int .i64 a] 3)
  have M := Lib.hid (unAll _ p (h.keep A1)); have HA := Lib.hid A1
  have DN := Lib.hid (fun caps W => delH_nil 37 caps (fun _ _ => rfl) W)
  clear h A1
  go_enter Try.func20, Try.ntmps20
  go_wp2_with fail
  refine M.out.mono ?_
  rintro e w1 ⟨rfl, hb⟩
  have HB := Lib.hid (below_tr HA.out hb)
  clear hb M
  go_wp2_with fail
  refine (DN.out _ _).mono ?_
  rintro e w2 ⟨rfl, hb⟩
  have HB2 := Lib.hid (below_tr HB.out hb)
  clear hb
  go_wp2_with fail
  go_ret
  exact ⟨rfl, HB2.out⟩
end Go.Proofs.Ytefndmjimmbhnaa
end
