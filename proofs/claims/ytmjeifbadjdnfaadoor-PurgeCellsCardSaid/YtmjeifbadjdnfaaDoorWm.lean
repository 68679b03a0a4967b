/- Contracts of the reference's Like, of purge.Cells beside any lists, of the reference's Cells. Condition: the row's own bounds. -/
import Derived.Test.YtmjeifbadjdnfaaDoorWl
set_option linter.unusedVariables false
set_option linter.unusedSimpArgs false
set_option maxRecDepth 50000
namespace Go.Proofs.YtmjeifbadjdnfaaDoor
open Go.RowKit Go.Sort
open Go.Lib hiding intOf

set_option maxHeartbeats 2000000 in
theorem like_any (v1 v2 : Value) (L : List Cel) (w : World) (hv1 : SlX eC w.heap.size w v1 L) (hv2 : SlX eC w.heap.size w v2 L) (hl : Room L.length) :
    Calls Tryd.prog 15 #[v1, v2] w fun e w' => e = .returned (.bool true) ∧ Below w.heap.size w w' := by
  have HV1 := Lib.hid hv1; have HV2 := Lib.hid hv2
  obtain ⟨a1, cap1, rfl, hc1, hx1⟩ := hv1.ex
  obtain ⟨a2, cap2, rfl, hc2, hx2⟩ := hv2.ex
  have HX1 := Lib.hid hx1; have HX2 := Lib.hid hx2; clear hx1 hx2 hv1 hv2
  unfold Room at hl
  have hne : ((L.length : Int) != (L.length : Int)) = false := by simp
  go_enter Tryd.func15, Tryd.ntmps15
  go_wp2_with fail
  clear hne
  go_loopw [5, 13] (fun _ v13 wr => ∃ i : Nat, v13 = .int .i64 (i : Int) ∧ i ≤ L.length ∧ Below w.heap.size w wr) (fun _ v13 _ => L.length - (intOf v13).toNat)
  case atStart => exact ⟨0, rfl, by omega, Below.refl _ _⟩
  case round =>
    obtain ⟨i, rfl, hi, hb⟩ := hrel
    have HB := Lib.hid hb; clear hb
    by_cases hlt : i < L.length
    · have hz : (i : Int) < (L.length : Int) := by omega
      obtain ⟨g1, o1, rfl, hg1, _⟩ := HX1.out (by omega)
      obtain ⟨g2, o2, rfl, hg2, _⟩ := HX2.out (by omega)
      have ten1 := (Ten.of HV1.out i hlt).keep HB.out
      have ten2 := (Ten.of HV2.out i hlt).keep HB.out
      have NQ := Lib.hid (fun w => cel_neq w L[i])
      generalize L[i] = x at *
      have k1 := fun dr os => ten1.keep (below_regrown wr dr os)
      have k2 := fun dr os => ten2.keep (below_regrown wr dr os)
      have f0 := fun dr os => (k1 dr os).c0; have f1 := fun dr os => (k1 dr os).c1; have f2 := fun dr os => (k1 dr os).c2; have f3 := fun dr os => (k1 dr os).c3; have f4 := fun dr os => (k1 dr os).c4
      have f5 := fun dr os => (k1 dr os).c5; have f6 := fun dr os => (k1 dr os).c6; have f7 := fun dr os => (k1 dr os).c7; have f8 := fun dr os => (k1 dr os).c8; have f9 := fun dr os => (k1 dr os).c9
      have h0 := fun dr os => (k2 dr os).c0; have h1 := fun dr os => (k2 dr os).c1; have h2 := fun dr os => (k2 dr os).c2; have h3 := fun dr os => (k2 dr os).c3; have h4 := fun dr os => (k2 dr os).c4
      have h5 := fun dr os => (k2 dr os).c5; have h6 := fun dr os => (k2 dr os).c6; have h7 := fun dr os => (k2 dr os).c7; have h8 := fun dr os => (k2 dr os).c8; have h9 := fun dr os => (k2 dr os).c9
      clear k1 k2 ten1 ten2
      obtain ⟨⟨t, p, r, q⟩, ⟨tm, dd, lc, kd, nn, ss⟩⟩ := x
      simp only [celEnc] at *
      have nq := NQ.out
      go_wp2_with fail
      refine wp_region_quiet_below (by kernel_rfl) (by kernel_rfl) ?_
      repeat (quiet_step (fail))
      refine wpQuiet_nil ?_
      intro w3 hw3
      have HB3 := Lib.hid (below_tr HB.out (regrown_below hw3))
      clear hw3 f0 f1 f2 f3 f4 f5 f6 f7 f8 f9 h0 h1 h2 h3 h4 h5 h6 h7 h8 h9
      go_wp2_with fail
      exact ⟨⟨i + 1, by first | rfl | go_num, by omega, HB3.out⟩, by simp [intOf]; omega⟩
    · have hz : ¬ (i : Int) < (L.length : Int) := by omega
      go_wp2_with fail
      go_ret
      exact ⟨rfl, HB.out⟩

/-- is a key in one of the lists? -/
def anyK (k : Ky) (ls : List (List Cel)) : Bool := ls.any fun l => decide (k ∈ l.map (·.k))
theorem anyK_find (k : Ky) (ls : List (List Cel)) : (ls.any fun l => (findC l k).isSome) = anyK k ls := by
  unfold anyK
  congr 1
  funext l
  rw [Bool.eq_iff_iff]
  unfold findC
  simp [List.find?_isSome]
structure AskT (w : World) (a : Ask) : Prop where
  ex : ∃ b, Blk w a.1 98 #[.map (some b)] ∧ MapK w b a.2
theorem AskT.ok {w : World} {a : Ask} (h : AskT w a) : AskOk w a := by
  obtain ⟨b, h1, h2⟩ := h.ex
  exact ⟨b, h1.cell 0 rfl, h2⟩
theorem AskT.below {w w1 : World} {a : Ask} (h : AskT w a) (hb : Below w.heap.size w w1) : AskT w1 a := by
  obtain ⟨b, h1, h2⟩ := h.ex
  exact ⟨b, h1.below hb, h2.below hb⟩
theorem AskT.grown {w w1 : World} {a : Ask} {base : Nat} {v : Value} {asks : List Ask} (h : AskT w a) (hO : OwnX eF w base v asks) (hg : w.grownBy w1 v.ownBlock) : AskT w1 a := by
  obtain ⟨b, h1, h2⟩ := h.ex
  have hcur : ∀ g, v.ownBlock = some g → ∃ cur, w.heap[g]? = some (.cells cur eF.t (0, 0)) := fun g e => by
    rcases hO.2 with ⟨rfl, _⟩ | ⟨g', cap', cur, rfl, _, hh, _⟩
    · cases e
    · injection e with e; subst e; exact ⟨cur, hh⟩
  have n1 : some a.1 ≠ v.ownBlock := fun e => by
    obtain ⟨cur, hh⟩ := hcur a.1 e.symm
    unfold Blk at h1
    rw [h1] at hh
    injection hh with hh
    injection hh with _ hh
    exact absurd hh (by decide)
  have n2 : some b ≠ v.ownBlock := fun e => by
    obtain ⟨cur, hh⟩ := hcur b e.symm
    obtain ⟨es, ck, hm, _⟩ := h2.ex
    rw [hm] at hh
    injection hh with hh
    cases hh
  refine ⟨b, h1.grown hg n1, ?_⟩
  obtain ⟨⟨es, ck, hm, h3⟩, h4⟩ := h2
  exact ⟨⟨es, ck, (hg.block b (MapK.lt ⟨⟨es, ck, hm, h3⟩, h4⟩) n2).trans hm, h3⟩, h4⟩

set_option maxHeartbeats 4000000 in
theorem cellsG_any (v vo : Value) (L : List Cel) (hs : List Hd) (ls : List (List Cel)) (now gr : Int) (w : World) (HV : SlX eC w.heap.size w v L) (hl : Room L.length) (ok : ∀ c ∈ L, CelOk c) (hvo : SlX eH w.heap.size w vo hs) (hls : Lists w hs ls) (okl : ∀ l ∈ ls, ∀ c ∈ l, CelOk c) (hn : hs.length ≤ 6000000000000) (i2 : In64 now) (i3 : In64 gr) :
    Calls Tryd.prog 16 #[v, vo, .int .i64 now, .int .i64 gr] w
      fun e w' => ∃ v', e = .returned v' ∧ SlX eC w'.heap.size w' v' ((normC L).filter fun c => !(oldV c.v now gr && !anyK c.k ls)) ∧ Below w.heap.size w w' := by
  have W := Lib.hid (fun W (hW : Below w.heap.size w W) val (asks : List Ask) (hO : SlX eF W.heap.size W val asks) (ha : ∀ a ∈ asks, AskOk W a) (hla : asks.length ≤ 6000000000000) => without_any v L now gr val asks W (HV.keep hW) hl ok hO ha i2 i3 hla)
  obtain ⟨F, hFF⟩ : ∃ F, ((normC L).filter fun c => !(oldV c.v now gr && !anyK c.k ls)) = F := ⟨_, rfl⟩
  rw [hFF]
  have HFF := Lib.hid hFF
  clear hFF
  have HVO := Lib.hid hvo; have LS := Lib.hid hls; have OKL := Lib.hid okl
  obtain ⟨a, cap, rfl, _⟩ := HV.ex
  obtain ⟨ao, capo, rfl, _, hx⟩ := hvo.ex
  have HX := Lib.hid hx
  clear HV hl ok i2 i3 hvo hls okl hx
  go_enter Tryd.func16, Tryd.ntmps16
  go_wp2_with fail
  go_loopw [9, 11, 14] (fun v9 _ v14 wr => ∃ (i : Nat) (asks : List Ask), v14 = .int .i64 (i : Int) ∧ i ≤ hs.length ∧ asks.length = i ∧ Hid (asks.map (·.2) = (ls.take i).map (fun l => l.map (·.k)) ∧ ∀ a ∈ asks, AskT wr a) ∧ OwnX eF wr w.heap.size v9 asks ∧ Below w.heap.size w wr) (fun _ _ v14 _ => hs.length - (intOf v14).toNat)
  case atStart => exact ⟨0, [], rfl, by omega, rfl, Lib.hid ⟨by simp, by simp⟩, OwnX.nil _ _, Below.refl _ _⟩
  case round =>
    obtain ⟨i, asks, rfl, hi, hlen, HA, hO, hb⟩ := hrel
    have HB := Lib.hid hb; have OW := Lib.hid hO; have HLN := Lib.hid hlen
    clear hb hO hlen
    by_cases hlt : i < hs.length
    · have hz : (i : Int) < (hs.length : Int) := by omega
      obtain ⟨gl, o, rfl, hgl2, _⟩ := HX.out (by omega)
      have hil : i < ls.length := by rw [← LS.out.len]; exact hlt
      have hcell := cell_keep HB.out (eH_cell HVO.out i hlt)
      have C := Lib.hid (having_blk hs[i].val ls[i] wr ((LS.out.at_ i hlt hil).1.keep HB.out) (fun c hc => (OKL.out _ (List.getElem_mem hil) c hc).1) (by have := (LS.out.at_ i hlt hil).2; unfold Room at this; omega))
      have TK := Lib.hid (show (ls.take (i + 1)).map (fun l => l.map (·.k)) = (ls.take i).map (fun l => l.map (·.k)) ++ [ls[i].map (·.k)] by rw [List.take_succ_eq_append_getElem hil, List.map_append]; rfl)
      generalize ls[i].map (·.k) = ks at *
      generalize hs[i] = hd at *
      obtain ⟨ha, hn1, hc1⟩ := hd
      simp only [Hd.val] at *
      clear hil
      go_wp2_with fail
      refine C.out.mono ?_
      rintro e w1 ⟨gm, b, rfl, h1, h2, hb⟩
      have HB1 := Lib.hid (below_tr HB.out hb)
      have O1 := Lib.hid (OW.out.below hb)
      have A1 := Lib.hid (fun x (hx : x ∈ asks) => (HA.out.2 x hx).below hb)
      have AN := Lib.hid (show AskT w1 (gm, ks) from ⟨b, h1, h2⟩)
      have HBX := Lib.hid (below_alloc HB1.out (.cells #[.func (.func 60) #[] #[.pointer (some ⟨gm, 0, none⟩)]] 79))
      have OX := Lib.hid (O1.out.alloc (.cells #[.func (.func 60) #[] #[.pointer (some ⟨gm, 0, none⟩)]] 79))
      have SX := Lib.hid (SlX.lit (E := eF) w1 #[.func (.func 60) #[] #[.pointer (some ⟨gm, 0, none⟩)]] [(gm, ks)] 1 1 rfl (by simp) rfl)
      have l1 : asks.length + [(gm, ks)].length ≤ 9223372036854775807 := by rw [HLN.out]; simp; omega
      have l2 : (asks.length + [(gm, ks)].length) * eF.bytes ≤ 140737488355328 := by rw [HLN.out]; simp [eF]; omega
      clear hb h1 h2 C hcell
      go_wp2_with (at_builtin; go_must (refine ap_x (E := eF) rfl (.tmp 18) (.tmp 21) rfl w.heap.size u9 asks _ _ [(gm, ks)] rfl rfl SX.out OX.out HBX.out HBX.out.size l1 l2 ?_); intro v2 w2 hO2 hB2 hz2 hg2)
      have HN := Lib.hid (show (asks ++ [(gm, ks)]).map (·.2) = (ls.take (i + 1)).map (fun l => l.map (·.k)) ∧ ∀ x ∈ asks ++ [(gm, ks)], AskT w2 x from ⟨by rw [List.map_append, HA.out.1, TK.out]; rfl, fun x hx => by
        have hal : AskT (w1.alloc (.cells #[.func (.func 60) #[] #[.pointer (some ⟨gm, 0, none⟩)]] 79)) x := by
          rcases List.mem_append.1 hx with hx | hx
          · exact (A1.out x hx).below (below_alloc (Below.refl _ _) _)
          · rw [List.mem_singleton.1 hx]; exact AN.out.below (below_alloc (Below.refl _ _) _)
        exact hal.grown OX.out hg2⟩)
      have LN := Lib.hid (show (asks ++ [(gm, ks)]).length = i + 1 by rw [List.length_append, HLN.out]; rfl)
      have O2 := Lib.hid hO2; have B2 := Lib.hid hB2
      clear hO2 hB2 hg2 hz2
      exact ⟨⟨i + 1, _, by first | rfl | go_num, by omega, LN.out, HN, O2.out, B2.out⟩, by simp [intOf]; omega⟩
    · have hz : ¬ (i : Int) < (hs.length : Int) := by omega
      have hie : i = hs.length := by omega
      have hF : (normC L).filter (fun c => !goneB now gr asks c) = (normC L).filter fun c => !(oldV c.v now gr && !anyK c.k ls) := by
        have e : ∀ k, anyIn k asks = anyK k ls := fun k => by
          have h := HA.out.1
          rw [hie, LS.out.len, List.take_length] at h
          unfold anyIn anyK
          have h1 : (asks.any fun a => decide (k ∈ a.2)) = ((asks.map (·.2)).any fun l => decide (k ∈ l)) := by rw [List.any_map]; rfl
          have h2 : (ls.any fun l => decide (k ∈ l.map (·.k))) = ((ls.map fun l => l.map (·.k)).any fun l => decide (k ∈ l)) := by rw [List.any_map]; rfl
          rw [h1, h2, h]
        congr 1
        funext c
        unfold goneB
        rw [e]
      have C := Lib.hid (W.out wr HB.out u9 asks OW.out.sl (fun x hx => (HA.out.2 x hx).ok) (by rw [HLN.out]; omega))
      rw [hF, HFF.out] at C
      clear hF hie
      rcases OW.out.form with ⟨rfl, _⟩ | ⟨g7, cp7, rfl, _⟩
      all_goals
        go_wp2_with fail
        refine C.out.mono ?_
        rintro e w1 ⟨v', rfl, hs', hb⟩
        have HB1 := Lib.hid (below_tr HB.out hb); have HS := Lib.hid hs'; clear hb hs'
        obtain ⟨a', c', rfl, _⟩ := HS.out.ex
        go_wp2_with fail
        go_ret
        exact ⟨_, rfl, HS.out, HB1.out⟩
end Go.Proofs.YtmjeifbadjdnfaaDoor
