/- Contracts of the table laws' weigh and at. Condition: the row's own bounds. Plain laws of the document's Open: while it goes on, what it has read is a beginning of the table, if there is one. No program in sight; no condition. Contracts of the codec's reader of cells: its methods give up by a panic where bytes are none. Condition: at most a million bytes. -/
import Derived.Test.YtplghaoflmaadaaGreatDoorZ26
import Derived.Test.YtplghaoflmaadaaGreatDoorZ28
import Derived.Test.YtplghaoflmaadaaGreatDoorZ25
import Derived.Test.YtplghaoflmaadaaGreatDoorZ21
import Derived.Recover
import Derived.Laws.Pointers
section
set_option linter.unusedVariables false
set_option linter.unusedSimpArgs false
set_option maxRecDepth 50000
namespace Go.Proofs.YtplghaoflmaadaaGreatDoor
open Go.RowKit Go.Sort
open Go.Lib hiding intOf

/-- a cell's texts are within the form's reach -/
structure CelRe (c : Cel) : Prop where
  ht : c.k.t.size ≤ 140737488351232
  hp : c.k.p.size ≤ 140737488351232
  hq : c.k.c.size ≤ 140737488351232
  hs : c.v.s.size ≤ 140737488351232
set_option maxHeartbeats 2000000 in
theorem weigh_ex (v : Value) (L : List Cel) (m : Nat) (w : World) (hv : SlX eC w.heap.size w v L) (hl : Room L.length) (re : ∀ c ∈ L, CelRe c) (hm : m ≤ 10000) :
    Calls Tryz.prog 10 #[v, .int .i64 (m : Int)] w fun e w' => ∃ r : Nat, e = .returned (.int .i64 (r : Int)) ∧ (r ≤ m → wt L ≤ m) ∧ Below w.heap.size w w' := by
  have HV := Lib.hid hv
  obtain ⟨a, cap, rfl, hc, hx⟩ := hv.ex
  have HX := Lib.hid hx; have HRE := Lib.hid re; clear hx hv re
  unfold Room at hl
  go_enter Tryz.func10, Tryz.ntmps10
  go_wp2_with fail
  go_loopw [5, 7, 10] (fun v5 _ v10 wr => ∃ i n : Nat, v5 = .int .i64 (n : Int) ∧ v10 = .int .i64 (i : Int) ∧ i ≤ L.length ∧ n ≤ m ∧ Hid (n = wt (L.take i)) ∧ Hid (Below w.heap.size w wr)) (fun _ _ v10 _ => L.length - (intOf v10).toNat)
  case atStart => exact ⟨0, 0, rfl, rfl, Nat.zero_le _, Nat.zero_le _, Lib.hid (by simp [wt]), Lib.hid (Below.refl _ _)⟩
  case round =>
    obtain ⟨i, n, rfl, rfl, hi, hnm, HN, HB⟩ := hrel
    by_cases hlt : i < L.length
    · have hz : (i : Int) < (L.length : Int) := by omega
      obtain ⟨gl, o, rfl, hgl2, _⟩ := HX.out (by omega)
      have ten := (Ten.of HV.out i hlt).keep HB.out
      have NX := Lib.hid (show n + wC L[i] = wt (L.take (i + 1)) by rw [List.take_succ_eq_append_getElem hlt, wt_snoc, ← HN.out])
      have RE := HRE.out L[i] (List.getElem_mem hlt)
      have LE := Lib.hid (show wt (L.take (i + 1)) ≤ wt L by
        conv => rhs; rw [← List.take_append_drop (i + 1) L]
        unfold wt; rw [List.map_append, List.sum_append]; omega)
      generalize L[i] = x at *
      obtain ⟨r1, r2, r3, r4⟩ := RE
      obtain ⟨z, hzz⟩ : ∃ z, wC x = z := ⟨_, rfl⟩
      have hzz2 := hzz
      unfold wC txtC at hzz2
      rw [hzz] at NX
      obtain ⟨c0, c1, c2, c3, c4, c5, c6, c7, c8, c9⟩ := ten
      have HB1 := Lib.hid (below_alloc HB.out (.cells (celEnc x).toArray 61))
      obtain ⟨⟨t, p, r, q⟩, ⟨tm, dd, lc, kd, nn, ss⟩⟩ := x
      simp only [celEnc] at *
      go_upto_region 5 with (fail)
      clear c0 c1 c2 c3 c4 c5 c6 c7 c8 c9
      generalize hW1 : wr.alloc (.cells #[.string t, .string p, .int .i64 r, .string q, .int .i64 tm, .bool dd, .int .i64 lc, .int .i64 kd, .int .i64 nn, .string ss] 61) = W1 at *
      have bk := (show Blk W1 wr.heap.size 61 #[.string t, .string p, .int .i64 r, .string q, .int .i64 tm, .bool dd, .int .i64 lc, .int .i64 kd, .int .i64 nn, .string ss] from by rw [← hW1]; exact Blk.new _ _ _)
      have c0 := bk.cell 0 rfl; have c1 := bk.cell 1 rfl; have c3 := bk.cell 3 rfl; have c9 := bk.cell 9 rfl
      clear bk hW1
      obtain ⟨s1, hs1⟩ : ∃ s1, t.size + p.size = s1 := ⟨_, rfl⟩
      obtain ⟨s2, hs2⟩ : ∃ s2, s1 + q.size = s2 := ⟨_, rfl⟩
      obtain ⟨s3, hs3⟩ : ∃ s3, s2 + ss.size = s3 := ⟨_, rfl⟩
      obtain ⟨d, hd⟩ : ∃ d, s3 / 20 = d := ⟨_, rfl⟩
      obtain ⟨y, hy⟩ : ∃ y, n + z = y := ⟨_, rfl⟩
      rw [hs1, hs2, hs3, hd] at hzz2
      rw [hy] at NX
      have e1 : IntKind.i64.wrap ((t.size : Int) + (p.size : Int)) = (s1 : Int) := by rw [IntKind.wrap_i64]; omega
      have e2 : IntKind.i64.wrap ((s1 : Int) + (q.size : Int)) = (s2 : Int) := by rw [IntKind.wrap_i64]; omega
      have e3 : IntKind.i64.wrap ((s2 : Int) + (ss.size : Int)) = (s3 : Int) := by rw [IntKind.wrap_i64]; omega
      have e4 : (s3 : Int).tdiv 20 = (d : Int) := by rw [Int.tdiv_eq_ediv_of_nonneg (by omega)]; omega
      have e5 : IntKind.i64.wrap (1 + (d : Int)) = (z : Int) := by rw [IntKind.wrap_i64]; omega
      have e6 : IntKind.i64.wrap ((n : Int) + (z : Int)) = (y : Int) := by rw [IntKind.wrap_i64]; omega
      have e7 : IntKind.i64.wrap (d : Int) = (d : Int) := by rw [IntKind.wrap_i64]; omega
      have hyb : y ≤ 1000000000000000 := by omega
      clear hs1 hs2 hs3 hd hy hzz hzz2 r1 r2 r3 r4
      by_cases hym : m < y
      · have hq : (m : Int) < (y : Int) := by omega
        go_wp2_with fail
        go_ret
        exact ⟨y, rfl, fun h => by omega, HB1.out⟩
      · have hq : ¬ (m : Int) < (y : Int) := by omega
        go_wp2_with fail
        go_roundw
        case rel => exact ⟨i + 1, y, rfl, by first | rfl | go_num, by omega, by omega, NX, HB1⟩
        case measure => simp [intOf]; omega
    · have hz : ¬ (i : Int) < (L.length : Int) := by omega
      have FIN := Lib.hid (show wt L = n by rw [HN.out, List.take_of_length_le (by omega)])
      go_wp2_with fail
      go_ret
      exact ⟨n, rfl, fun _ => by rw [FIN.out]; exact hnm, HB.out⟩
end Go.Proofs.YtplghaoflmaadaaGreatDoor
end

section
set_option linter.unusedVariables false
set_option linter.unusedSimpArgs false
set_option maxRecDepth 50000
namespace Go.Proofs.YtplghaoflmaadaaGreatDoor

structure OpnOk (b : List UInt8) (bs : List (List Cel)) : Prop where
  ok : OkT bs.flatten
  fit : FitT bs.flatten
  ct : ∀ c ∈ bs.flatten, CelT c
  ch : bs = chunk8 bs.flatten
  tab : tableL bs.flatten = b
theorem endN_len2 {b : List UInt8} {l : List Nat} {body : List UInt8} (h : endN b = some (l, body)) : body.length ≤ b.length := by
  unfold endN at h
  split at h
  · cases h
  · split at h
    · cases h
    · split at h
      · split at h
        · cases h
        · split at h
          · simp only [Option.some.injEq, Prod.mk.injEq] at h
            obtain ⟨rfl, rfl⟩ := h
            rw [List.length_take]; exact Nat.min_le_right _ _
          · cases h
      · cases h
theorem openN_all {b : List UInt8} {bs : List (List Cel)} (hl : b.length ≤ 120000) (h : openN b = some bs) : OpnOk b bs := by
  have h0 := h
  unfold openN at h
  cases e : endN b with
  | none => rw [e] at h; cases h
  | some p =>
    obtain ⟨l, body⟩ := p
    rw [e] at h
    have hb := endN_len2 e
    simp only at h
    split at h
    · cases h
    · rename_i hc
      cases e2 : rdBlocks (l.getD 1 0) (body.take (l.getD 1 0)) with
      | none => rw [e2] at h; cases h
      | some bs2 =>
        rw [e2] at h
        simp only at h
        split at h
        · rename_i h1
          injection h with h; subst h
          obtain ⟨f1, f2⟩ := rdBlocks_flat _ _ _ e2
          rw [List.length_take] at f1
          obtain ⟨g1, g2⟩ := fit_read bs2.flatten f2 (by omega)
          refine ⟨h1.1, g1, g2, ?_, h1.2⟩
          have := openN_table bs2.flatten h1.1 g1
          rw [h1.2, h0] at this
          injection this
        · cases h
/-- what lies behind a table's blocks -/
def tailT (L : List Cel) : List UInt8 := frameL (indexL L) ++ frameL (filtL L) ++ frameL (endL L) ++ [UInt8.ofNat (frameL (endL L)).length]
theorem tableL_tail (L : List Cel) : tableL L = (chunk8 L).flatMap blockL ++ tailT L := by
  unfold tableL outL tailT blocksL
  simp [List.append_assoc]
theorem OpnOk.eq {b : List UInt8} {bs : List (List Cel)} (h : OpnOk b bs) : b = bs.flatMap blockL ++ tailT bs.flatten := by
  rw [← h.tab, tableL_tail, ← h.ch]
theorem OpnOk.blk {b : List UInt8} {bs : List (List Cel)} (h : OpnOk b bs) : ∀ x ∈ bs, 0 < x.length ∧ x.length ≤ 8 ∧ (∀ c ∈ x, CelBy c) ∧ (cellsL x).length ≤ 262144 ∧ (x.flatMap cellL).length ≤ 120000 := by
  intro x hx
  rw [h.ch] at hx
  obtain ⟨h1, h2, h3⟩ := chunk8_mem bs.flatten.length bs.flatten (Nat.le_refl _) x hx
  have hb2 : (x.flatMap cellL).length ≤ 120000 := by
    rw [chunk8_get bs.flatten.length bs.flatten (Nat.le_refl _) _ rfl] at hx
    obtain ⟨k, _, rfl⟩ := List.mem_map.1 hx
    exact Nat.le_trans (ckL_flat bs.flatten k) h.fit.flat
  have := cellsL_len x (by omega)
  exact ⟨h1, h2, fun c hc => good_by c (h.ok.good c (h3 c hc)) (h.fit.cin c (h3 c hc)) (Nat.le_trans (flat_mem (h3 c hc)) h.fit.flat), by omega, hb2⟩
/-- while the document's Open goes on -/
structure RO (b : List UInt8) (l : List Cel) (at_ : Nat) : Prop where
  le : at_ ≤ b.length
  size : (l.flatMap cellL).length + (b.length - at_) ≤ b.length
  read : ∀ c ∈ l, CelR c
  head : ∀ bs, openN b = some bs → ∃ j, j < bs.length ∧ l = (bs.take j).flatten ∧ b.drop at_ = (bs.drop j).flatMap blockL ++ tailT bs.flatten
theorem RO.start {b : List UInt8} (hl : b.length ≤ 120000) : RO b [] 0 := by
  refine ⟨Nat.zero_le _, by simp, by simp, fun bs h => ?_⟩
  have H := openN_all hl h
  refine ⟨0, ?_, by simp, ?_⟩
  · rcases Nat.eq_zero_or_pos bs.length with e | e
    · have := List.length_eq_zero_iff.1 e
      subst this
      have := H.ok.pos
      simp at this
    · exact e
  · rw [List.drop_zero, List.drop_zero]; exact H.eq
theorem RO.next1 {b : List UInt8} {l : List Cel} {at_ : Nat} (hl : b.length ≤ 120000) (h : RO b l at_) {bs : List (List Cel)} (ho : openN b = some bs) :
    ∃ j, ∃ hj : j < bs.length, l = (bs.take j).flatten ∧ unframeL (b.drop at_) = (cellsL bs[j], (blockL bs[j]).length, 0) ∧ rdCells (cellsL bs[j]) = some bs[j] ∧ 0 < bs[j].length ∧ l.length + bs[j].length ≤ 20000 ∧ b.drop (at_ + (blockL bs[j]).length) = (bs.drop (j + 1)).flatMap blockL ++ tailT bs.flatten := by
  have H := openN_all hl ho
  obtain ⟨j, hj, h1, h2⟩ := h.head bs ho
  obtain ⟨b1, b2, b3, b4, b5⟩ := H.blk _ (List.getElem_mem hj)
  have e : (bs.drop j).flatMap blockL = blockL bs[j] ++ (bs.drop (j + 1)).flatMap blockL := by rw [List.drop_eq_getElem_cons hj, List.flatMap_cons]
  have hbl : (blockL bs[j]).length = (cellsL bs[j]).length + 8 := frameL_length _ b4
  refine ⟨j, hj, h1, ?_, rdCells_cells _ b3 (by omega), b1, ?_, ?_⟩
  · rw [h2, e, List.append_assoc, hbl]
    exact unframe_frame _ _ b4
  · have hm := H.ok.most
    have e2 : bs.flatten = (bs.take j).flatten ++ (bs[j] ++ (bs.drop (j + 1)).flatten) := by
      conv => lhs; rw [← List.take_append_drop j bs, List.drop_eq_getElem_cons hj]
      rw [List.flatten_append, List.flatten_cons]
    rw [e2, List.length_append, List.length_append, ← h1] at hm
    omega
  · rw [← List.drop_drop, h2, e, List.append_assoc, List.drop_left' rfl]
/-- where it fails there is none -/
theorem RO.none {b : List UInt8} {l : List Cel} {at_ : Nat} (hl : b.length ≤ 120000) (h : RO b l at_)
    (hf : (unframeL (b.drop at_)).2.2 ≠ 0 ∨ rdCells (unframeL (b.drop at_)).1 = none ∨ rdCells (unframeL (b.drop at_)).1 = some [] ∨ ∃ cs, rdCells (unframeL (b.drop at_)).1 = some cs ∧ 20000 < l.length + cs.length) : openN b = none := by
  cases ho : openN b with
  | none => rfl
  | some bs =>
    obtain ⟨j, hj, h1, h2, h3, h4, h5, _⟩ := h.next1 hl ho
    rw [h2] at hf
    simp only at hf
    rw [h3] at hf
    rcases hf with hf | hf | hf | ⟨cs, hf, hf2⟩
    · exact absurd rfl hf
    · cases hf
    · injection hf with hf; rw [hf] at h4; simp at h4
    · injection hf with hf; subst hf; omega
theorem RO.next {b : List UInt8} {l : List Cel} {at_ : Nat} (hl : b.length ≤ 120000) (h : RO b l at_) {cs : List Cel} (hu : (unframeL (b.drop at_)).2.2 = 0) (hc : rdCells (unframeL (b.drop at_)).1 = some cs) :
    (((l ++ cs).flatMap cellL).length + (b.length - (at_ + (unframeL (b.drop at_)).2.1)) ≤ b.length ∧ at_ + (unframeL (b.drop at_)).2.1 ≤ b.length ∧ 8 ≤ (unframeL (b.drop at_)).2.1 ∧ (∀ c ∈ l ++ cs, CelR c)) ∧ (¬ (OkT (l ++ cs) ∧ tableL (l ++ cs) = b) → RO b (l ++ cs) (at_ + (unframeL (b.drop at_)).2.1)) := by
  have hk := unframe_ok _ hu
  rw [List.length_drop] at hk
  obtain ⟨e1, e2⟩ := rdCells_canon hc
  have h5 := cellsL_flat cs
  rw [← e1] at h5
  have hs := h.size
  have hle := h.le
  have hsz : ((l ++ cs).flatMap cellL).length + (b.length - (at_ + (unframeL (b.drop at_)).2.1)) ≤ b.length := by
    rw [List.flatMap_append, List.length_append]; omega
  have hrd : ∀ c ∈ l ++ cs, CelR c := fun c hc => by
    rcases List.mem_append.1 hc with hc | hc
    · exact h.read c hc
    · exact e2 c hc
  refine ⟨⟨hsz, by omega, by omega, hrd⟩, fun hn => ⟨by omega, hsz, hrd, fun bs ho => ?_⟩⟩
  obtain ⟨j, hj, h1, h2, h3, h4, _, h6⟩ := h.next1 hl ho
  rw [h2] at hc ⊢
  simp only at hc ⊢
  rw [h3] at hc
  injection hc with hc
  subst hc
  have H := openN_all hl ho
  have et : (bs.take (j + 1)).flatten = l ++ bs[j] := by rw [List.take_succ_eq_append_getElem hj, List.flatten_append, h1]; simp
  refine ⟨j + 1, ?_, et.symm, h6⟩
  rcases Nat.lt_or_ge (j + 1) bs.length with hq | hq
  · exact hq
  · exfalso
    rw [List.take_of_length_le hq] at et
    exact hn ⟨by rw [← et]; exact H.ok, by rw [← et]; exact H.tab⟩
/-- where it ends -/
theorem RO.hit {b : List UInt8} {l : List Cel} (hl : b.length ≤ 120000) (hs : (l.flatMap cellL).length ≤ b.length) (hr : ∀ c ∈ l, CelR c) (hk : OkT l) (ht : tableL l = b) : openN b = some (chunk8 l) := by
  rw [← ht]
  exact openN_table l hk (fit_read l hr (by omega)).1
end Go.Proofs.YtplghaoflmaadaaGreatDoor
end

section
set_option linter.unusedVariables false
set_option linter.unusedSimpArgs false
set_option maxRecDepth 50000
namespace Go.Proofs.YtplghaoflmaadaaGreatDoor
open Go.RowKit

/-- A reader's one cell. -/
structure Rd (B : Nat) (W : World) (g : Nat) (v : Value) (l : List UInt8) : Prop where
  blk : Blk W g 152 #[v]
  sl : SlB B W v l
  hB : B ≤ g
def wrongC : List PanicEntry := [{ v := .iface 149 (.agg #[]), recovered := false }]
/-- What a reader's method leaves: the rest of the bytes; or a panic. -/
def RdPost (B : Nat) (W : World) (g : Nat) (o : Option (Value × List UInt8)) (e : Ending) (w' : World) : Prop :=
  W.grownBy w' (some g) ∧ match o with
    | some (x, r) => e = .returned x ∧ ∃ v', Rd B w' g v' r
    | none => e = .panicked wrongC
theorem pass_any (B : Nat) (W : World) (g : Nat) (v : Value) (l : List UInt8) (h : Rd B W g v l) (n : Nat) (h0 : 0 < n) (hn : n ≤ l.length) (hl : l.length ≤ 1000000) :
    Calls Tryz.prog 134 #[.pointer (some ⟨g, 0, none⟩), .int .i64 (n : Int)] W (RdPost B W g (some (.tuple #[], l.drop n))) := by
  have H := Lib.hid h
  have cr := h.sl.cut_run n hn
  have cut := h.sl.cut n hn
  have c0 := h.blk.cell 0 rfl
  have f0 := h.blk.frozen 0
  have hb0 : ((n : Int) == 0) = false := by rw [beq_eq_false_iff_ne]; omega
  obtain ⟨a, c, e, _⟩ := h.sl.ex
  obtain ⟨v', hv'⟩ : ∃ v', cutV v n = v' := ⟨_, rfl⟩
  rw [hv'] at cr cut
  have CUT := Lib.hid cut
  have E := Lib.hid e
  clear h cut hv' e
  obtain ⟨a', c', e', _⟩ := CUT.out.ex
  subst e'
  go_enter Tryz.func134, Tryz.ntmps134
  go_wp2_with fail
  go_end0
  have hlen : l.length - n = (l.drop n).length := by rw [List.length_drop]
  refine ⟨⟨rfl, rfl, rfl, by simp [World.setCell], fun k _ hk => Below.heap_setCell _ _ _ _ (fun e => hk (by rw [e]))⟩, rfl, .slice a' (l.length - n) c', ?_, ?_, H.out.hB⟩
  · exact H.out.blk.put 0 _
  · rw [hlen]
    exact CUT.out.below ((Below.refl _ _).setCell (p := ⟨g, 0, none⟩) H.out.hB _)
theorem pass_none (W : World) (p : Value) :
    Calls Tryz.prog 134 #[p, .int .i64 0] W fun e w' => e = .panicked wrongC ∧ W = w' := by
  go_enter Tryz.func134, Tryz.ntmps134
  go_wp2_with fail
  exact ⟨rfl, rfl, rfl⟩
theorem num_any (B : Nat) (W : World) (g : Nat) (v : Value) (l : List UInt8) (h : Rd B W g v l) (hl : l.length ≤ 1000000) :
    Calls Tryz.prog 114 #[.pointer (some ⟨g, 0, none⟩)] W (RdPost B W g ((rdNum l).map fun p => (.int .u64 (p.1 : Int), p.2))) := by
  have C := Lib.hid (Get_any v l B W h.sl hl)
  have c0 := h.blk.cell 0 rfl
  have H := Lib.hid h
  cases hg : getL 0 0 l with
  | none =>
    have hr : (rdNum l).map (fun p => (Value.int .u64 (p.1 : Int), p.2)) = none := by unfold rdNum; rw [hg]; rfl
    rw [hr]; rw [hg] at C
    clear h hg hr
    go_enter Tryz.func114, Tryz.ntmps114
    go_wp2_with fail
    refine C.out.mono ?_
    rintro e w' ⟨rfl, rfl⟩
    unfold getV
    go_wp2_with fail
    refine (pass_none _ _).mono ?_
    rintro e w' ⟨rfl, rfl⟩
    exact ⟨rfl, grown_rfl _ _, rfl⟩
  | some q =>
    obtain ⟨u, n⟩ := q
    have hb := getL_bound l 0 0 u n (by decide) (by decide) hg
    have hr : (rdNum l).map (fun p => (Value.int .u64 (p.1 : Int), p.2)) = some (.int .u64 (u : Int), l.drop n) := by unfold rdNum; rw [hg]; rfl
    rw [hr]; rw [hg] at C
    have P := Lib.hid (pass_any B W g v l h n (by omega) (by omega) hl)
    clear h hg hr hb
    go_enter Tryz.func114, Tryz.ntmps114
    go_wp2_with fail
    refine C.out.mono ?_
    rintro e w' ⟨rfl, rfl⟩
    unfold getV
    go_wp2_with fail
    refine P.out.mono ?_
    rintro e w' ⟨hg, rfl, hx⟩
    have HX := Lib.hid hx; have HG := Lib.hid hg; clear hx hg
    go_wp2_with fail
    go_ret
    exact ⟨HG.out, rfl, HX.out⟩
theorem int_any (B : Nat) (W : World) (g : Nat) (v : Value) (l : List UInt8) (h : Rd B W g v l) (hl : l.length ≤ 1000000) :
    Calls Tryz.prog 136 #[.pointer (some ⟨g, 0, none⟩)] W (RdPost B W g ((rdInt l).map fun p => (.int .i64 p.1, p.2))) := by
  have C := Lib.hid (num_any B W g v l h hl)
  unfold rdInt
  cases hr : rdNum l with
  | none =>
    rw [hr] at C
    clear h hr
    go_enter Tryz.func136, Tryz.ntmps136
    go_wp2_with fail
    refine C.out.mono ?_
    rintro e w' ⟨hg, rfl⟩
    exact ⟨rfl, hg, rfl⟩
  | some q =>
    obtain ⟨u, r⟩ := q
    rw [hr] at C
    have Z := Lib.hid (fun W => Zag_any u (rdNum_len hr).1 W)
    clear h hr
    go_enter Tryz.func136, Tryz.ntmps136
    go_wp2_with fail
    refine C.out.mono ?_
    rintro e w' ⟨hg, rfl, hx⟩
    have HX := Lib.hid hx; have HG := Lib.hid hg; clear hx hg
    go_wp2_with fail
    refine (Z.out _).mono ?_
    rintro e w' ⟨rfl, rfl⟩
    go_wp2_with fail
    go_ret
    exact ⟨HG.out, rfl, HX.out⟩
theorem rtxt_any (B : Nat) (W : World) (g : Nat) (v : Value) (l : List UInt8) (h : Rd B W g v l) (hl : l.length ≤ 1000000) :
    Calls Tryz.prog 135 #[.pointer (some ⟨g, 0, none⟩)] W (RdPost B W g ((rdText l).map fun p => (sv p.1, p.2))) := by
  have C := Lib.hid (GetText_any v l B W h.sl hl)
  have c0 := h.blk.cell 0 rfl
  unfold rdText
  cases hr : getT l with
  | none =>
    rw [hr] at C
    clear h hr
    go_enter Tryz.func135, Tryz.ntmps135
    go_wp2_with fail
    refine C.out.mono ?_
    rintro e w' ⟨rfl, rfl⟩
    unfold getTV
    go_wp2_with fail
    refine (pass_none _ _).mono ?_
    rintro e w' ⟨rfl, rfl⟩
    exact ⟨rfl, grown_rfl _ _, rfl⟩
  | some q =>
    obtain ⟨u, n⟩ := q
    rw [hr] at C
    have hn : 0 < n ∧ n ≤ l.length := by
      rcases getT_cases l with ⟨_, h2⟩ | ⟨m, k, h1, h2, h3, h4, h5⟩
      · rw [hr] at h2; cases h2
      · rw [hr] at h5
        split at h5
        · injection h5 with h5; injection h5 with _ h6; omega
        · cases h5
    have P := Lib.hid (pass_any B W g v l h n hn.1 hn.2 hl)
    clear h hr hn
    go_enter Tryz.func135, Tryz.ntmps135
    go_wp2_with fail
    refine C.out.mono ?_
    rintro e w' ⟨rfl, rfl⟩
    unfold getTV
    go_wp2_with fail
    refine P.out.mono ?_
    rintro e w' ⟨hg, rfl, hx⟩
    have HX := Lib.hid hx; have HG := Lib.hid hg; clear hx hg
    go_wp2_with fail
    go_ret
    exact ⟨HG.out, rfl, HX.out⟩
theorem flag_any (B : Nat) (W : World) (g : Nat) (v : Value) (l : List UInt8) (h : Rd B W g v l) (hl : l.length ≤ 1000000) :
    Calls Tryz.prog 137 #[.pointer (some ⟨g, 0, none⟩)] W (RdPost B W g ((rdFlag l).map fun p => (.bool p.1, p.2))) := by
  have c0 := h.blk.cell 0 rfl
  have H := Lib.hid h
  obtain ⟨a, c, rfl, hc, hx⟩ := h.sl.ex
  clear h
  cases l with
  | nil =>
    clear hx H
    go_enter Tryz.func137, Tryz.ntmps137
    go_wp2_with fail
    exact ⟨rfl, grown_rfl _ _, rfl⟩
  | cons x r =>
    obtain ⟨gb, o, rfl, hgb, hcell⟩ := hx (by simp)
    have h0 := hcell 0 (by simp)
    simp only [Nat.add_zero, List.getElem_cons_zero] at h0
    have hlen : ((r.length + 1 : Nat) : Int) = (r.length : Int) + 1 := by omega
    have hcap : r.length + 1 ≤ c := hc
    simp only [List.length_cons] at *
    have q1 : ((r.length : Int) + 1 == 0) = false := by rw [beq_eq_false_iff_ne]; omega
    have hxl := x.toNat_lt
    rw [show rdFlag (x :: r) = if 1 < x.toNat then none else some (x.toNat == 1, r) from rfl]
    clear hcell hx
    by_cases h1 : 1 < x.toNat
    · rw [if_pos h1]
      have q2 : (1 : Int) < (x.toNat : Int) := by omega
      clear H
      go_enter Tryz.func137, Tryz.ntmps137
      go_wp2_with fail
      exact ⟨rfl, grown_rfl _ _, rfl⟩
    · rw [if_neg h1]
      have q2 : ¬ (1 : Int) < (x.toNat : Int) := by omega
      have P := Lib.hid (pass_any B W g _ _ H.out 1 (by omega) (by simp) (by simpa using hl))
      have HB := Lib.hid (show ((x.toNat : Int) == 1) = (x.toNat == 1) by rw [Bool.eq_iff_iff]; simp; omega)
      clear H h1
      go_enter Tryz.func137, Tryz.ntmps137
      go_wp2_with fail
      refine P.out.mono ?_
      rintro e w' ⟨hg, rfl, hx⟩
      have HX := Lib.hid hx; have HG := Lib.hid hg; clear hx hg
      go_wp2_with fail
      go_ret
      exact ⟨HG.out, ret_b HB.out, HX.out⟩
end Go.Proofs.YtplghaoflmaadaaGreatDoor
end
