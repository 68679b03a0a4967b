/- Contracts of slices.Clone at bytes and of the disk's Read. No condition but room. Contract of the disk's soil. No condition but what a disk is. Contract of the closure of the disk's Append. Conditions: there is room on the disk. -/
import Derived.Test.YtefndmjimmbhnaaZ34
section
set_option linter.unusedVariables false
set_option linter.unusedSimpArgs false
set_option maxRecDepth 50000
namespace Go.Proofs.Ytefndmjimmbhnaa
open Go.RowKit Go.Shelf

theorem cloneB_any (v : Value) (L : List UInt8) (w : World) (HV : SlX eB w.heap.size w v L) (hl : L.length ≤ 140737488355328) :
    Calls Try.prog 38 #[v] w fun e w' => ∃ v', e = .returned v' ∧ OwnB w' w.heap.size v' L ∧ Below w.heap.size w w' := by
  obtain ⟨a, c, rfl, hc, hx⟩ := HV.ex
  have q22 : ∀ (w : World), (binOp .eql 69 (.slice a L.length c) (.slice none 0 0)).run Try.prog w = .ok (.bool a.isNone) w := fun w => Lib.run_eql_slice_nil w _ _ _ L.length c 0 0 Try.underlying69
  have H0 := Lib.hid (OwnX.lit (E := eB) w w.heap.size #[] [] 0 (Nat.le_refl _) rfl (by simp) rfl)
  have HB0 := Lib.hid (below_alloc (Below.refl _ w) (.cells #[] 5))
  have HVa := Lib.hid (HV.below HB0.out)
  have hlx : ([] : List UInt8).length + L.length ≤ 9223372036854775807 := by simp; omega
  have hly : (([] : List UInt8).length + L.length) * eB.bytes ≤ 140737488355328 := by show (_ + _) * 1 ≤ _; simp; omega
  have HX := Lib.hid hx
  clear HV hx
  cases a with
  | none =>
    have h0 : L = [] := by
      rcases Nat.eq_zero_or_pos L.length with h | h
      · exact List.eq_nil_of_length_eq_zero h
      · obtain ⟨g, o, e, _⟩ := HX.out h; cases e
    subst h0
    clear hlx hly
    simp only [Option.isNone_none, List.length_nil] at q22 ⊢
    go_enter Try.func38, Try.ntmps38
    go_wp2_with fail
    go_ret
    exact ⟨_, rfl, own_eB.1 (OwnX.nil _ _), Below.refl _ _⟩
  | some ad =>
    simp only [Option.isNone_some] at q22
    go_enter Try.func38, Try.ntmps38
    go_wp2_with (at_builtin; go_must (refine ap_x (E := eB) rfl (.tmp 5) (.tmp 6) rfl w.heap.size (.slice (some ⟨w.heap.size, 0, none⟩) 0 0) [] w.heap.size _ L rfl rfl HVa.out H0.out HB0.out HB0.out.size hlx hly ?_); intro v2 w2 hO2 hB2 hz2 _)
    go_ret
    exact ⟨v2, rfl, own_eB.1 hO2, hB2⟩
set_option maxHeartbeats 2000000 in
theorem read_any (D : Dsk) (nm : ByteArray) (f : Fil) (w : World) (h : DiskW w D) (hd : D.dark = false) (hg : diskNameB nm = true) (hf : D.get nm = some f) :
    Calls Try.prog 21 #[ptrV D.d, .string nm] w fun e w' => ∃ v, e = .returned (.tuple #[v, .int .i64 0]) ∧ OwnB w' w.heap.size v f.b ∧ Below w.heap.size w w' := by
  have hz := good_size hg
  have B1 := below_alloc (Below.refl _ w) (.cells #[.string nm] 9)
  have FT := fault_any D _ [nm] true _ (h.below B1) (by simp) (by simp; omega) (.inl (asked_new _ nm)) (by simp)
  rw [faultC_one hd hg true (by simp [hf])] at FT
  have FTH := Lib.hid FT
  have BB1 := Lib.hid B1; have HH := Lib.hid h; have HF := Lib.hid hf; have HZ := Lib.hid hz
  clear h hf hd hg hz B1 FT
  simp only [ptrV] at *
  go_enter Try.func21, Try.ntmps21
  go_wp2_with fail
  refine FTH.out.mono ?_
  rintro e w1 ⟨rfl, hb⟩
  have BX := Lib.hid (below_tr BB1.out hb)
  have dw1 := HH.out.below BX.out
  obtain ⟨ops, lc, hm, _⟩ := dw1.main
  have d1 : w1.cell? ⟨D.d, 1, none⟩ = some (.map (some D.m)) := hm.cell 1 rfl
  have LK := dw1.look nm (by have := HZ.out; omega)
  rw [HF.out] at LK
  obtain ⟨hfm, _⟩ := get_mem HF.out
  obtain ⟨c, hpb, hpo⟩ := (dw1.pg f hfm).ex
  have p0 := hpb.cell 0 rfl
  have CL := Lib.hid (cloneB_any _ _ w1 (OwnX.sl (own_eB.2 hpo)) (by have := size_len dw1.ok hfm; omega))
  have SZ := Lib.hid BX.out.size
  clear hb BB1 FTH hm dw1 hpb hpo hfm
  simp only [ptrV, rowV, Option.map_some] at *
  go_wp2_with fail
  refine CL.out.mono ?_
  rintro e w2 ⟨v, rfl, hO, hb⟩
  have HO := Lib.hid hO; have HB := Lib.hid (below_tr BX.out hb)
  clear hO hb CL p0 LK d1
  go_wp2_with fail
  go_ret2
  exact ⟨v, rfl, own_eB.1 (OwnX.weaken (own_eB.2 HO.out) SZ.out), HB.out⟩
end Go.Proofs.Ytefndmjimmbhnaa
end

section
set_option linter.unusedVariables false
set_option linter.unusedSimpArgs false
set_option maxRecDepth 50000
namespace Go.Proofs.Ytefndmjimmbhnaa
open Go.RowKit Go.Shelf

theorem own_row {α : Type} {E : El α} {w : World} {base : Nat} {v : Value} {l : List α} (h : OwnX E w base v l) : ∃ r c, v = rowV r l.length c ∧ v.ownBlock = r ∧ l.length ≤ c ∧ (r = none → l = []) := by
  rcases h.2 with ⟨e, h0⟩ | ⟨g, cap, cur, e, _, _, h3, _⟩
  · exact ⟨none, 0, by rw [e, h0]; rfl, by rw [e]; rfl, by omega, fun _ => List.eq_nil_of_length_eq_zero h0⟩
  · exact ⟨some g, cap, e, by rw [e]; rfl, h3, fun e => by cases e⟩
theorem soilL_snoc (line : List (Nat × Nat)) (a s i : Nat) (h : s ≤ i) : soilL line a s (i + 1) = if (a, i) ∈ soilL line a s i then soilL line a s i else soilL line a s i ++ [(a, i)] := by
  obtain ⟨k, rfl⟩ := Nat.exists_eq_add_of_le h
  unfold soilL
  rw [show s + k + 1 - s = k + 1 by omega, show s + k - s = k by omega, List.range'_concat, List.foldl_append]
  simp
theorem soilL_start (line : List (Nat × Nat)) (a s : Nat) : soilL line a s s = line := by unfold soilL; rw [Nat.sub_self]; rfl
theorem soilL_over (line : List (Nat × Nat)) (a s e : Nat) (h : e ≤ s) : soilL line a s e = line := by unfold soilL; rw [show e - s = 0 by omega]; rfl
theorem soil_ok {D : Dsk} (o : D.Ok) {f : Fil} (hf : f ∈ D.l) (s i : Nat) (hi : i ≤ sect f.b.length ∨ i ≤ s) (lr : Option Nat) (hl : lr = none → soilL D.line f.a s i = []) : ({ D with line := soilL D.line f.a s i, lr := lr } : Dsk).Ok := by
  obtain ⟨h1, h2, h3⟩ := soilL_to f.a s i D.line o.nodup
  have hu := size_used o hf
  have h4 := o.used; have h5 := o.room1
  refine { o with lnil := hl, line := fun p hp => ?_, nodup := h1 }
  rcases h2 p hp with hp | ⟨e1, e2, e3⟩
  · exact o.line p hp
  · exact ⟨f, hf, e1.symm, by omega⟩
theorem Mv.lineGrown {w W1 : World} {D : Dsk} (h : DiskW w D) (line : List (Nat × Nat)) (lr : Option Nat) (hB : But (fun k => k = D.d ∨ D.lr = some k) w W1) (main : MainW W1 { D with line := line, lr := lr }) (hlr : ∀ k, lr = some k → D.lr = some k ∨ w.heap.size ≤ k) (ok : ({ D with line := line, lr := lr } : Dsk).Ok) : Mv w D W1 { D with line := line, lr := lr } := by
  have hd := h.dist
  refine Mv.mk' hB (fun k hk => ?_) rfl main ?_ (fun f hf => ?_) ok (fun k hk => ?_)
  · rcases hk with hk | hk
    · exact .inl hk
    · exact .inr (.inr (.inl hk))
  · refine h.mp.but hB ?_
    rintro (e | e)
    · exact hd.dm e.symm
    · exact hd.ml e
  · refine (h.pg f hf).but hB ?_ (fun k e => ?_)
    · rintro (e | e)
      · exact hd.da f hf e
      · exact hd.la f hf e
    · rintro (e2 | e2)
      · exact hd.dr f hf (by rw [e, e2])
      · rcases hd.lr f hf with h1 | h1
        · rw [h1] at e; cases e
        · exact h1 (by rw [e, e2])
  · rcases hk with hk | hk | hk | hk
    · exact .inl (.inl hk)
    · exact .inl (.inr (.inl hk))
    · rcases hlr k hk with h1 | h1
      · exact .inl (.inr (.inr (.inl h1)))
      · exact .inr h1
    · exact .inl (.inr (.inr (.inr hk)))
theorem nat_few : ∀ (n : Nat) (l : List Nat), l.Nodup → (∀ x ∈ l, x < n) → l.length ≤ n
  | 0, l, _, h => by
    cases l with
    | nil => exact Nat.le_refl _
    | cons x l => exact absurd (h x (List.mem_cons_self ..)) (by omega)
  | n + 1, l, hn, h => by
    by_cases hm : n ∈ l
    · have := nat_few n (l.erase n) (hn.erase n) (fun x hx => by
        obtain ⟨h1, h2⟩ := (hn.mem_erase_iff).1 hx
        have := h x h2; omega)
      rw [List.length_erase_of_mem hm] at this
      omega
    · have := nat_few n l hn (fun x hx => by
        have := h x hx
        have : x ≠ n := fun e => hm (e ▸ hx)
        omega)
      omega
theorem map_nodup {α β : Type} (g : α → β) : ∀ (l : List α), l.Nodup → (∀ x ∈ l, ∀ y ∈ l, g x = g y → x = y) → (l.map g).Nodup
  | [], _, _ => by simp
  | x :: l, hn, hi => by
    rw [List.nodup_cons] at hn
    rw [List.map_cons, List.nodup_cons]
    refine ⟨fun hm => ?_, map_nodup g l hn.2 (fun a ha b hb => hi a (List.mem_cons_of_mem _ ha) b (List.mem_cons_of_mem _ hb))⟩
    obtain ⟨y, hy, e⟩ := List.mem_map.1 hm
    exact hn.1 (hi y (List.mem_cons_of_mem _ hy) x (List.mem_cons_self ..) e ▸ hy)
theorem line_few {w : World} {D : Dsk} (h : DiskW w D) : D.line.length ≤ 1000000000000 := by
  have ok := h.ok
  have hmem : ∀ p ∈ D.line, p.1 ∈ D.l.map Fil.a ∧ p.2 ≤ 1073741824 := fun p hp => by
    obtain ⟨f, hf, e1, e2⟩ := ok.line p hp
    exact ⟨List.mem_map.2 ⟨f, hf, e1⟩, e2⟩
  have hat : ∀ p ∈ D.line, ∃ hlt : (D.l.map Fil.a).idxOf p.1 < (D.l.map Fil.a).length, (D.l.map Fil.a)[(D.l.map Fil.a).idxOf p.1] = p.1 := fun p hp =>
    ⟨List.idxOf_lt_length_of_mem (hmem p hp).1, List.getElem_idxOf _⟩
  have hlen : (D.l.map Fil.a).length ≤ 48 := by rw [List.length_map]; exact ok.few
  have h1 := nat_few (48 * 1073741825) (D.line.map fun p => (D.l.map Fil.a).idxOf p.1 * 1073741825 + p.2) (map_nodup _ _ ok.nodup (fun x hx y hy e => by
    have e1 := (hmem x hx).2; have e2 := (hmem y hy).2
    have e3 : (D.l.map Fil.a).idxOf x.1 = (D.l.map Fil.a).idxOf y.1 := by omega
    obtain ⟨l1, g1⟩ := hat x hx
    obtain ⟨l2, g2⟩ := hat y hy
    refine Prod.ext ?_ (by rw [e3] at e; omega)
    rw [← g1, ← g2]
    congr 1)) (fun n hn => by
      obtain ⟨p, hp, rfl⟩ := List.mem_map.1 hn
      obtain ⟨l1, _⟩ := hat p hp
      have := (hmem p hp).2
      show (D.l.map Fil.a).idxOf p.1 * 1073741825 + p.2 < _
      omega)
  rw [List.length_map] at h1
  omega
set_option maxHeartbeats 4000000 in
theorem soil_any (D : Dsk) (f : Fil) (start : Nat) (w : World) (h : DiskW w D) (hf : f ∈ D.l) (hst : start ≤ 17179869184) :
    Calls Try.prog 86 #[ptrV D.d, ptrV f.a, .int .i64 (start : Int)] w fun e w' => e = .returned (.tuple #[]) ∧ ∃ lr, Mv w D w' { D with line := soilL D.line f.a (start / 16) (sect f.b.length), lr := lr } := by
  have h1 : (start : Int).tdiv 16 = ((start / 16 : Nat) : Int) := by rw [Int.tdiv_eq_ediv_of_nonneg (by omega)]; omega
  have hlen := size_len h.ok hf
  have HL := Lib.hid hlen; have HF := Lib.hid hf; have HH := Lib.hid h
  obtain ⟨s, hs⟩ : ∃ s, start / 16 = s := ⟨_, rfl⟩
  have HS1 := Lib.hid (show s ≤ 17179869184 by omega)
  obtain ⟨e, he⟩ : ∃ e, sect f.b.length = e := ⟨_, rfl⟩
  have HE := Lib.hid he
  have HE1 := Lib.hid (show e ≤ 17179869184 by have := sect_le f.b.length; omega)
  rw [hs] at h1 ⊢
  rw [he]
  have ST := Lib.hid (show Mv w D w { D with line := soilL D.line f.a s s, lr := D.lr } by rw [soilL_start]; exact Mv.refl h (Below.refl _ _))
  have qs : wrap64 (s : Int) = (s : Int) := by have := HS1.out; unfold wrap64; omega
  have QS := Lib.hid qs
  clear h hf hlen hst hs he
  simp only [ptrV] at *
  go_enter Try.func86, Try.ntmps86
  go_wp2_with fail
  clear h1 qs
  go_loopw [6, 7] (fun v6 _ wr => ∃ i : Nat, v6 = .int .i64 (i : Int) ∧ Hid (s ≤ i) ∧ Hid (i ≤ e ∨ i ≤ s) ∧ ∃ lr, Hid (Mv w D wr { D with line := soilL D.line f.a s i, lr := lr })) (fun v6 _ _ => e - (intOf v6).toNat)
  case atStart => exact ⟨s, by rw [QS.out], Lib.hid (Nat.le_refl _), Lib.hid (.inr (Nat.le_refl _)), D.lr, ST⟩
  case round =>
    obtain ⟨i, rfl, HI, HI2, lr, HM⟩ := hrel
    obtain ⟨c, hpb, _⟩ := (HM.out.dw.pg f HF.out).ex
    have c0 := hpb.cell 0 rfl
    have SEC := Lib.hid (fun W => sectors_any f.b.length (by have := HL.out; omega) W)
    rw [HE.out] at SEC
    clear hpb
    simp only [rowV] at *
    go_wp2_with fail
    refine (SEC.out _).mono ?_
    rintro e1 w2 ⟨rfl, hb2⟩
    have HM2 := Lib.hid (HM.out.tail hb2)
    clear hb2 c0 SEC HM
    by_cases hlt : i < e
    · have hz : (i : Int) < (e : Int) := by omega
      have HLT := Lib.hid hlt
      have Q4 := Lib.hid (show wrap64 ((i : Int) + 1) = (i : Int) + 1 by have := HE1.out; unfold wrap64; omega)
      obtain ⟨ops, lc, hm, hrow⟩ := HM2.out.dw.main
      have B3 := below_alloc (Below.refl _ w2) (.cells #[.pointer (some ⟨f.a, 0, none⟩), .int .i64 (i : Int)] 84)
      have kb := Blk.new w2 84 #[.pointer (some ⟨f.a, 0, none⟩), .int .i64 (i : Int)]
      have k0 := kb.cell 0 rfl; have k1 := kb.cell 1 rfl
      have HM3 := Lib.hid (HM2.out.tail B3)
      have d2 : (w2.alloc (.cells #[.pointer (some ⟨f.a, 0, none⟩), .int .i64 (i : Int)] 84)).cell? ⟨D.d, 2, none⟩ = some (rowV lr (soilL D.line f.a s i).length lc) := (hm.below B3).cell 2 rfl
      have KBX0 := Lib.hid kb
      have FARB0 := Lib.hid (show ¬ ({ D with line := soilL D.line f.a s i, lr := lr } : Dsk).foot w2.heap.size from HM2.out.dw.fresh (Nat.le_refl _))
      clear B3 kb hm hrow
      simp only [rowV] at *
      go_wp2_with fail
      generalize w2.alloc (.cells #[.pointer (some ⟨f.a, 0, none⟩), .int .i64 (i : Int)] 84) = W3 at *
      obtain ⟨L, hL⟩ : ∃ L, soilL D.line f.a s i = L := ⟨_, rfl⟩
      have SN := Lib.hid (soilL_snoc D.line f.a s i HI.out)
      rw [hL] at d2 HM3 SN FARB0
      have D3 := HM3.out.dw
      have IS := D3.pageIs (show f ∈ D.l from HF.out)
      have LNF := Lib.hid D3.ok.line
      have ISX := fun x (hx : x ∈ L) => show Is W3 x.1 from by
        obtain ⟨g, hg, e1, _⟩ := LNF.out x hx
        rw [← e1]; exact D3.pageIs hg
      obtain ⟨ops3, lc3, hm3, hrow3⟩ := D3.main
      have e2 : W3.cell? ⟨D.d, 2, none⟩ = some (rowV lr L.length lc3) := hm3.cell 2 rfl
      have elc : rowV lr L.length lc = rowV lr L.length lc3 := by
        have := d2.symm.trans e2; injection this
      have hll : L.length ≤ 9223372036854775807 := own_len hrow3
      have CON := Lib.hid (fun W' (hW : InW W3 W') => conM_any (rowV lr L.length lc3) L f.a i W' (OwnX.sl (show OwnX eM W' 0 (rowV lr L.length lc3) L from OwnX.below hrow3 hW)) hll (IS.below hW) (fun x hx => (ISX x hx).below hW))
      have HI3 := Lib.hid (show i + 1 ≤ e ∨ i + 1 ≤ s from .inl hlt)
      obtain ⟨b, hb⟩ : ∃ b, decide ((f.a, i) ∈ L) = b := ⟨_, rfl⟩
      rw [hb] at CON
      have HBB := Lib.hid hb
      have K0 := Lib.hid k0; have K1 := Lib.hid k1; have E2 := Lib.hid e2
      have MS := Lib.hid (show e - ((i : Int) + 1).toNat < e - ((i : Int)).toNat by omega)
      have HSI := Lib.hid (show s ≤ i + 1 from Nat.le_succ_of_le HI.out)
      clear d2 elc D3 IS ISX hm3 hrow3 hll hb hL HM2
      simp only [ptrV, rowV] at *
      generalize w2.heap.size = box at *
      have KBX := Lib.hid (show Blk W3 box 84 #[.pointer (some ⟨f.a, 0, none⟩), .int .i64 (i : Int)] from KBX0.out)
      have FARB := Lib.hid (show ¬ ({ D with line := L, lr := lr } : Dsk).foot box from FARB0.out)
      clear KBX0 FARB0
      go_region_held3 (fun W' => InW W3 W' ∧ W'.cell? ⟨D.d, 2, none⟩ = some (.slice (lr.map fun g => ⟨g, 0, none⟩) L.length lc3) ∧ W'.cell? ⟨box, 0, none⟩ = some (.pointer (some ⟨f.a, 0, none⟩)) ∧ W'.cell? ⟨box, 1, none⟩ = some (.int .i64 (i : Int)))
        (first
          | with_reducible assumption
          | (refine ⟨InW.drew (InW.refl _), ?_, ?_, ?_⟩ <;> first | exact e2 | exact k0 | exact k1)
          | (have iw := (by with_reducible assumption : InW W3 _ ∧ _); exact ⟨InW.tr iw.1 (by with_reducible assumption), cell_keep (by with_reducible assumption) iw.2.1, cell_keep (by with_reducible assumption) iw.2.2.1, cell_keep (by with_reducible assumption) iw.2.2.2⟩))
        (first
          | (go_at_call 95; with_reducible refine (CON.out _ (And.left (by with_reducible assumption))).mono ?_; rintro e1 wA ⟨rfl, hbA⟩)
          | fail)
      have IWA := Lib.hid (show InW W3 wA from InW.tr (InW.drew (InW.refl _)) hbA)
      have k0 := cell_keep IWA.out K0.out; have k1 := cell_keep IWA.out K1.out; have e2 := cell_keep IWA.out E2.out
      have HM4 := Lib.hid (HM3.out.tail IWA.out)
      clear CON hbA K0 K1 E2 HM3
      cases b with
      | true =>
        have SN2 := Lib.hid (show soilL D.line f.a s (i + 1) = L by rw [SN.out, if_pos (of_decide_eq_true HBB.out)])
        clear k0 k1 e2
        go_wp2_with fail
        rw [Q4.out]
        exact ⟨⟨i + 1, rfl, HSI, HI3, lr, by rw [SN2.out]; exact HM4⟩, MS.out⟩
      | false =>
        have SN2 := Lib.hid (show soilL D.line f.a s (i + 1) = L ++ [(f.a, i)] by rw [SN.out, if_neg (of_decide_eq_false HBB.out)])
        obtain ⟨ops4, lc4, hm4, hrow4⟩ := HM4.out.dw.main
        have elc : (Value.slice (lr.map fun g => ⟨g, 0, none⟩) L.length lc3) = rowV lr L.length lc4 := by
          have := e2.symm.trans (show wA.cell? ⟨D.d, 2, none⟩ = some (rowV lr L.length lc4) from hm4.cell 2 rfl); injection this
        unfold rowV at elc
        simp only [Value.slice.injEq, true_and] at elc
        subst elc
        have hrow4' : OwnX eM wA 0 (rowV lr L.length lc3) L := hrow4
        have B5 := Below.drew (below_alloc (Below.refl wA.heap.size wA) (.cells #[.pointer (some ⟨f.a, 0, none⟩), .int .i64 (i : Int)] 84))
        have A5 := below_alloc (Below.refl wA.heap.size wA) (.cells #[.pointer (some ⟨f.a, 0, none⟩), .int .i64 (i : Int)] 84)
        have hsl : SlX eM (wA.alloc (.cells #[.pointer (some ⟨f.a, 0, none⟩), .int .i64 (i : Int)] 84)).heap.size (wA.alloc (.cells #[.pointer (some ⟨f.a, 0, none⟩), .int .i64 (i : Int)] 84)) (.slice (some ⟨wA.heap.size, 0, none⟩) 1 1) [(f.a, i)] := (SlX.lit (E := eM) wA #[.pointer (some ⟨f.a, 0, none⟩), .int .i64 (i : Int)] [(f.a, i)] 1 1 rfl (by simp) rfl)
        have LNH := Lib.hid (line_few HM4.out.dw)
        have hrob : (rowV lr L.length lc3).ownBlock = lr := rowV_own _ _ _
        have hdl : lr ≠ some D.d := HM4.out.dw.dist.dl
        have hdd : D.d < wA.heap.size := HM4.out.dw.foot_lt D.d (.inl rfl)
        have hbx := KBX.out
        have hbA : Blk wA box 84 #[.pointer (some ⟨f.a, 0, none⟩), .int .i64 (i : Int)] := hbx.below IWA.out
        have hbl : lr ≠ some box := fun e9 => FARB.out (.inr (.inr (.inl e9)))
        have STEP := Lib.hid (fun (v1 : Value) (w5 : World) (hO5 : OwnX eM w5 0 v1 (L ++ [(f.a, i)])) (hg5 : (wA.alloc (.cells #[.pointer (some ⟨f.a, 0, none⟩), .int .i64 (i : Int)] 84)).drew.grownBy w5 (rowV lr L.length lc3).ownBlock)
            (hw5 : v1.ownBlock = (rowV lr L.length lc3).ownBlock ∨ v1.ownBlock = some (wA.alloc (.cells #[.pointer (some ⟨f.a, 0, none⟩), .int .i64 (i : Int)] 84)).drew.heap.size) =>
          show (But (fun k => k = D.d ∨ lr = some k) wA w5 ∧ w5.cell? ⟨D.d, 2, none⟩ = some (rowV lr L.length lc3) ∧ w5.cell? ⟨box, 0, none⟩ = some (.pointer (some ⟨f.a, 0, none⟩)) ∧ w5.cell? ⟨box, 1, none⟩ = some (.int .i64 (i : Int))) ∧ w5.frozen? ⟨D.d, 2, none⟩ = false ∧ (∃ ad n' c', v1 = .slice ad n' c') ∧ ∃ lr', Mv w D (w5.setCell ⟨D.d, 2, none⟩ v1) { D with line := L ++ [(f.a, i)], lr := lr' } from by
          obtain ⟨r', c', rfl, hob, hc', hnil⟩ := own_row hO5
          rw [hrob] at hg5 hw5
          have hsz : ((wA.alloc (.cells #[.pointer (some ⟨f.a, 0, none⟩), .int .i64 (i : Int)] 84)).drew).heap.size = wA.heap.size + 1 := by simp [World.drew]
          have hm5 := (hm4.below B5).grown hg5 (fun e => hdl e.symm)
          have hb5 := (hbA.below B5).grown hg5 (fun e => hbl e.symm)
          have hbu : But (fun k => lr = some k) wA w5 := (But.of_below _ B5).trans ⟨hg5.os, hg5.tape, hg5.output, hg5.size, fun k hk hn => hg5.block k hk (fun e => hn e.symm)⟩
          have hrd : r' ≠ some D.d := by
            rw [hob] at hw5
            rcases hw5 with h9 | h9
            · rw [h9]; exact hdl
            · rw [h9, hsz]; intro h8; injection h8 with h8; omega
          refine ⟨⟨hbu.mono (fun k _ e => .inr e), hm5.cell 2 rfl, hb5.cell 0 rfl, hb5.cell 1 rfl⟩, hm5.frozen 2, ⟨_, _, _, rfl⟩, r', ?_⟩
          exact HM4.out.trans (Mv.lineGrown HM4.out.dw (L ++ [(f.a, i)]) r' (W1 := w5.setCell ⟨D.d, 2, none⟩ (rowV r' (L ++ [(f.a, i)]).length c'))
            ((hbu.mono (fun k _ e => .inr e)).trans ((But.put w5 D.d 2 _).mono (fun k _ e => .inl e)))
            ⟨ops4, c', hm5.put 2 _, ownX_but hO5 (But.put w5 D.d 2 _) (by rw [hob]; exact fun k e e2 => hrd (by rw [e, e2]))⟩
            (fun k e => by
              rw [hob, e] at hw5
              rcases hw5 with h9 | h9
              · exact .inl h9.symm
              · rw [hsz] at h9; injection h9 with h9; exact .inr (by omega))
            (by have := soil_ok HH.out.ok HF.out s (i + 1) (by rw [HE.out]; exact HI3.out) r' (by rw [SN2.out]; exact hnil); rw [SN2.out] at this; exact this)))
        have HV5 := Lib.hid (SlX.keep hsl (Below.drew (Below.refl _ _)))
        have HO5 := Lib.hid (OwnX.below hrow4' B5)
        have H63 := Lib.hid (show L.length + [(f.a, i)].length ≤ 9223372036854775807 by have := LNH.out; simp at *; omega)
        have HBY := Lib.hid (show (L.length + [(f.a, i)].length) * eM.bytes ≤ 140737488355328 by have := LNH.out; simp at *; show _ * 16 ≤ _; omega)
        have z0 := cell_keep A5 k0; have z1 := cell_keep A5 k1; have z2 := cell_keep A5 e2
        have S0 := Lib.hid (show But (fun k => k = D.d ∨ lr = some k) wA wA.drew from (But.refl _ wA).drew)
        have S1 := Lib.hid (show But (fun k => k = D.d ∨ lr = some k) wA _ from But.of_below _ B5)
        clear hm4 hrow4 hrow4' hsl B5 A5 hdl hdd hbx hbA hbl hrob HM4 IWA
        simp only [rowV] at *
        go_wp2_with fail
        go_region_law (refine st_x (E := eM) rfl (.tmp 34) (.tmp 36) rfl 0 _ L _ _ [(f.a, i)] rfl rfl HV5.out HO5.out (Nat.zero_le _) H63.out HBY.out ?_; intro v1 w5 hO5 hg5 hw5; obtain ⟨s5, g2, ⟨ad, n', c', rfl⟩, lr', FIN⟩ := STEP.out v1 w5 hO5 hg5 hw5; have y2 := s5.2.1)
        all_goals (
          try go_wp2_with fail
          rw [Q4.out]
          exact ⟨⟨i + 1, rfl, HSI, HI3, lr', by rw [SN2.out]; exact Lib.hid FIN⟩, MS.out⟩)
    · have hz : ¬ (i : Int) < (e : Int) := by omega
      have FIN := Lib.hid (show Mv w D w2 { D with line := soilL D.line f.a s e, lr := lr } by
        have : soilL D.line f.a s i = soilL D.line f.a s e := by
          rcases HI2.out with h1 | h1
          · rw [show i = e by omega]
          · have := HI.out
            rw [soilL_over _ _ _ _ h1, soilL_over _ _ _ _ (show e ≤ s by omega)]
        rw [← this]; exact HM2.out)
      clear HM2
      go_wp2_with fail
      go_end0
      exact ⟨rfl, lr, FIN.out⟩
end Go.Proofs.Ytefndmjimmbhnaa
end

section
set_option linter.unusedVariables false
set_option linter.unusedSimpArgs false
set_option maxRecDepth 50000
namespace Go.Proofs.Ytefndmjimmbhnaa
open Go.RowKit Go.Shelf

def Dsk.grow (D : Dsk) (nm : ByteArray) (x : List UInt8) (r : Option Nat) : Dsk := D.setF nm fun f : Fil => { f with b := f.b ++ x, r := r }
theorem append_eq {D : Dsk} {nm : ByteArray} {f : Fil} (hg : D.get nm = some f) (x : List UInt8) (r lr : Option Nat) : D.append nm x r lr = { D.grow nm x r with line := if x = [] then D.line else soilL D.line f.a (f.b.length / 16) (sect (f.b.length + x.length)), lr := lr } := by unfold Dsk.append; rw [hg]; rfl
theorem grow_mem {D : Dsk} {nm : ByteArray} {f : Fil} (hf : f ∈ D.l) (ef : f.n = nm) (x : List UInt8) (r : Option Nat) : ({ f with b := f.b ++ x, r := r } : Fil) ∈ (D.grow nm x r).l := List.mem_map.2 ⟨f, hf, by rw [if_pos ef]⟩
theorem grow_ok {D : Dsk} {nm : ByteArray} {f : Fil} (o : D.Ok) (hg : D.get nm = some f) (x : List UInt8) (r : Option Nat) (hx : (sect (f.b.length + x.length) : Int) - sect f.b.length ≤ D.room - D.used)
    (hr : r = f.r ∨ ∀ g ∈ D.l, r = none ∨ r ≠ g.r) (hrn : r = none → f.b ++ x = []) : (D.grow nm x r).Ok := by
  have o2 := o.append nm x r (some 0) hg hx hr hrn (by simp)
  rw [append_eq hg] at o2
  refine { o2 with lnil := o.lnil, line := fun p hp => ?_, nodup := o.nodup }
  obtain ⟨g, hgm, e1, e2⟩ := o.line p hp
  refine ⟨if g.n = nm then { g with b := g.b ++ x, r := r } else g, List.mem_map.2 ⟨g, hgm, rfl⟩, ?_, e2⟩
  split <;> exact e1
theorem Mv.grow {w W1 : World} {D : Dsk} {nm : ByteArray} {f : Fil} {x : List UInt8} {r : Option Nat} (h : DiskW w D) (hg : D.get nm = some f) (hB : But (fun k => k = f.a ∨ f.r = some k) w W1)
    (hp : PgW W1 { f with b := f.b ++ x, r := r }) (hr : ∀ k, r = some k → f.r = some k ∨ w.heap.size ≤ k) (ok : (D.grow nm x r).Ok) : Mv w D W1 (D.grow nm x r) := by
  obtain ⟨hf, ef⟩ := get_mem hg
  have hd := h.dist
  have mem : ∀ g ∈ (D.grow nm x r).l, g = { f with b := f.b ++ x, r := r } ∨ (g ∈ D.l ∧ g.n ≠ f.n) := fun g hg2 => by
    obtain ⟨g', hg', rfl⟩ := List.mem_map.1 hg2
    by_cases e : g'.n = nm
    · have := fil_uniq h.ok.names hg' hf (e.trans ef.symm)
      subst this
      rw [if_pos e]; exact .inl rfl
    · rw [if_neg e]; exact .inr ⟨hg', by rw [ef]; exact e⟩
  refine Mv.mk' hB (fun k hk => .inr (.inr (.inr ⟨f, hf, hk⟩))) rfl ?_ ?_ (fun g hg2 => ?_) ok (fun k hk => ?_)
  · refine MainW.but (D := D) h.main hB ?_ (fun k e => ?_)
    · rintro (e | e)
      · exact hd.da f hf e.symm
      · exact hd.dr f hf e
    · rintro (e2 | e2)
      · exact hd.la f hf (by rw [e, e2])
      · rcases hd.lr f hf with h1 | h1
        · rw [h1] at e2; cases e2
        · exact h1 (by rw [e, e2])
  · have e : ((D.grow nm x r).l.map fun f => (f.n, f.a)) = D.l.map fun f => (f.n, f.a) := by
      show ((D.l.map _).map _) = _
      rw [List.map_map]
      refine List.map_congr_left fun g _ => ?_
      show ((if g.n = nm then ({ g with b := g.b ++ x, r := r } : Fil) else g).n, (if g.n = nm then ({ g with b := g.b ++ x, r := r } : Fil) else g).a) = _
      split <;> rfl
    rw [e]
    refine h.mp.but hB ?_
    rintro (e | e)
    · exact hd.ma f hf e.symm
    · exact hd.mr f hf e
  · rcases mem g hg2 with rfl | ⟨hg3, hne⟩
    · exact hp
    · refine (h.pg g hg3).but hB ?_ (fun k e => ?_)
      · rintro (e | e)
        · exact h.ok.pages g hg3 f hf hne e
        · exact hd.ar f hf g hg3 e
      · rintro (e2 | e2)
        · exact hd.ar g hg3 f hf (by rw [e, e2])
        · rcases h.ok.rows g hg3 f hf hne with h1 | h1
          · rw [h1] at e; cases e
          · exact h1 (by rw [e, e2])
  · rcases hk with hk | hk | hk | ⟨g, hg2, hk⟩
    · exact .inl (.inl hk)
    · exact .inl (.inr (.inl hk))
    · exact .inl (.inr (.inr (.inl hk)))
    · rcases mem g hg2 with rfl | ⟨hg3, _⟩
      · rcases hk with hk | hk
        · exact .inl (.inr (.inr (.inr ⟨f, hf, .inl hk⟩)))
        · rcases hr k hk with h1 | h1
          · exact .inl (.inr (.inr (.inr ⟨f, hf, .inr h1⟩)))
          · exact .inr h1
      · exact .inl (.inr (.inr (.inr ⟨g, hg3, hk⟩)))
set_option maxHeartbeats 4000000 in
theorem append1_any (D : Dsk) (nm : ByteArray) (f : Fil) (x : List UInt8) (xv : Value) (bp bx bd bn : Nat) (w : World) (h : DiskW w D) (hg : D.get nm = some f) (hv : SlX eB w.heap.size w xv x) (hx : (sect (f.b.length + x.length) : Int) - sect f.b.length ≤ D.room - D.used)
    (h0 : w.cell? ⟨bp, 0, none⟩ = some (ptrV f.a)) (h1 : w.cell? ⟨bx, 0, none⟩ = some xv) (h2 : w.cell? ⟨bd, 0, none⟩ = some (ptrV D.d)) (h3 : w.cell? ⟨bn, 0, none⟩ = some (.int .i64 (f.b.length : Int))) (o0 : ¬ D.foot bp) (o1 : ¬ D.foot bx) (o2 : ¬ D.foot bd) (o3 : ¬ D.foot bn) :
    Calls Try.prog 85 #[ptrV bp, ptrV bx, ptrV bd, ptrV bn] w fun e w' => e = .returned (.tuple #[]) ∧ ∃ F, (∃ r lr, F = D.append nm x r lr) ∧ Mv w D w' F := by
  obtain ⟨hf, ef⟩ := get_mem hg
  have hlen := size_len h.ok hf
  have hu := h.ok.used; have hrm := h.ok.room1; have hus := size_used h.ok hf
  have hsum : f.b.length + x.length ≤ 17179869184 := by have := sect_eq (f.b.length + x.length); omega
  obtain ⟨c, hpb, hpo⟩ := (h.pg f hf).ex
  have p0 : w.cell? ⟨f.a, 0, none⟩ = some (rowV f.r f.b.length c) := hpb.cell 0 rfl
  have hd := h.dist
  have har := hd.ar f hf f hf
  have hlt := h.foot_lt f.a (.inr (.inr (.inr ⟨f, hf, .inl rfl⟩)))
  have hrob : (rowV f.r f.b.length c).ownBlock = f.r := rowV_own _ _ _
  have HH := Lib.hid h
  have STEP := Lib.hid (fun (v1 : Value) (w5 : World) (hO5 : OwnX eB w5 0 v1 (f.b ++ x)) (hg5 : w.drew.grownBy w5 (rowV f.r f.b.length c).ownBlock) (hw5 : v1.ownBlock = (rowV f.r f.b.length c).ownBlock ∨ v1.ownBlock = some w.drew.heap.size) =>
    show w5.cell? ⟨bp, 0, none⟩ = some (ptrV f.a) ∧ w5.cell? ⟨f.a, 0, none⟩ = some (rowV f.r f.b.length c) ∧ w5.frozen? ⟨f.a, 0, none⟩ = false ∧ (∃ ad n' c', v1 = .slice ad n' c') ∧ ∃ r', Mv w D (w5.setCell ⟨f.a, 0, none⟩ v1) (D.grow nm x r') from by
    obtain ⟨r', c', rfl, hob, hc', hnil⟩ := own_row hO5
    rw [hrob] at hg5 hw5
    have hb5 := hpb.drew.grown hg5 (fun e => har e.symm)
    have hnew : ∀ k, r' = some k → f.r = some k ∨ w.heap.size ≤ k := fun k e => by
      rw [hob, e] at hw5
      rcases hw5 with h9 | h9
      · exact .inl h9.symm
      · injection h9 with h9; exact .inr (by rw [h9]; exact Nat.le_refl _)
    have hra : r' ≠ some f.a := fun e => by
      rcases hnew f.a e with h9 | h9
      · exact har h9
      · omega
    have hbu : But (fun k => k = f.a ∨ f.r = some k) w (w5.setCell ⟨f.a, 0, none⟩ (rowV r' (f.b ++ x).length c')) :=
      (((But.refl _ w).drew).trans ⟨hg5.os, hg5.tape, hg5.output, hg5.size, fun k hk hn => hg5.block k hk (fun e => hn (.inr e.symm))⟩).trans ((But.put w5 f.a 0 _).mono (fun k _ e => .inl e))
    have hb0 : But (fun k => f.r = some k) w w5 := ((But.refl _ w).drew).trans ⟨hg5.os, hg5.tape, hg5.output, hg5.size, fun k hk hn => hg5.block k hk (fun e => hn e.symm)⟩
    refine ⟨hb0.cell h0 (fun e => o0 (.inr (.inr (.inr ⟨f, hf, .inr e⟩)))), hb5.cell 0 rfl, hb5.frozen 0, ⟨_, _, _, rfl⟩, r', Mv.grow h hg hbu ?_ hnew (grow_ok h.ok hg x r' hx ?_ hnil)⟩
    · exact ⟨c', hb5.put 0 _, ownB_but (own_eB.1 hO5) (But.put w5 f.a 0 _) (by rw [hob]; exact fun k e e2 => hra (by rw [e, e2]))⟩
    · cases hr' : r' with
      | none => exact .inr fun g _ => .inl rfl
      | some k =>
        rcases hnew k hr' with h9 | h9
        · exact .inl h9.symm
        · refine .inr fun g hg2 => .inr fun e => ?_
          have := h.foot_lt k (.inr (.inr (.inr ⟨g, hg2, .inr e.symm⟩)))
          omega)
  have HV5 := Lib.hid (hv.keep (Below.drew (Below.refl _ w)))
  have HO5 := Lib.hid (OwnX.below (own_eB.2 hpo) (Below.drew (Below.refl _ w)))
  have H63 := Lib.hid (show f.b.length + x.length ≤ 9223372036854775807 by omega)
  have HBY := Lib.hid (show (f.b.length + x.length) * eB.bytes ≤ 140737488355328 by show _ * 1 ≤ _; omega)
  have H0 := Lib.hid h0; have H1 := Lib.hid h1; have H2 := Lib.hid h2; have H3 := Lib.hid h3
  have O1 := Lib.hid o1; have O2 := Lib.hid o2; have O3 := Lib.hid o3; have O0 := Lib.hid o0
  have HG := Lib.hid hg; have HL := Lib.hid hlen
  obtain ⟨xa, xc, rfl, hxc, _⟩ := hv.ex
  clear h hd har hlt hrob hpb hpo hg hv hx o0 o1 o2 o3 hu hrm hus hlen
  simp only [ptrV, rowV] at *
  go_enter Try.func85, Try.ntmps85
  go_wp2_with fail
  go_region_law (refine st_x (E := eB) rfl (.tmp 8) (.tmp 9) rfl 0 _ f.b _ _ x rfl rfl HV5.out HO5.out (Nat.zero_le _) H63.out HBY.out ?_; intro v1 w5 hO5 hg5 hw5; obtain ⟨y0, y2, g2, ⟨ad, n', c', rfl⟩, r', FIN⟩ := STEP.out v1 w5 hO5 hg5 hw5)
  all_goals (
    have FH := Lib.hid FIN
    have z1 := FIN.but.cell H1.out O1.out; have z2 := FIN.but.cell H2.out O2.out; have z3 := FIN.but.cell H3.out O3.out; have z0 := FIN.but.cell H0.out O0.out
    clear FIN h0 h1 h2 h3 y0 y2 g2 hO5 hg5 hw5 p0
    by_cases hxe : 0 < x.length
    · have hz : (0 : Int) < (x.length : Int) := by omega
      have HXE := Lib.hid hxe
      have SO := Lib.hid (soil_any (D.grow nm x r') { f with b := f.b ++ x, r := r' } f.b.length _ FH.out.dw (grow_mem hf ef x r') HL.out)
      clear hxe
      go_wp2_with fail
      refine SO.out.mono ?_
      rintro e w6 ⟨rfl, lr, hmv⟩
      have FIN2 := Lib.hid (show Mv w D w6 (D.append nm x r' lr) by
        rw [append_eq HG.out, if_neg (fun e => by have := HXE.out; rw [e] at this; simp at this), ← List.length_append]
        exact FH.out.trans hmv)
      clear hmv SO z0 z1 z2 z3
      go_wp2_with fail
      go_end0
      exact ⟨rfl, _, ⟨_, _, rfl⟩, FIN2.out⟩
    · have hz : ¬ (0 : Int) < (x.length : Int) := by omega
      have hxn : x = [] := List.eq_nil_of_length_eq_zero (by omega)
      have FIN2 := Lib.hid (show Mv w D (w5.setCell ⟨f.a, 0, none⟩ (.slice ad n' c')) (D.append nm x r' D.lr) by
        rw [append_eq HG.out, if_pos hxn]; exact FH.out)
      clear hxe hxn
      go_wp2_with fail
      go_end0
      exact ⟨rfl, _, ⟨_, _, rfl⟩, FIN2.out⟩)
end Go.Proofs.Ytefndmjimmbhnaa
end
