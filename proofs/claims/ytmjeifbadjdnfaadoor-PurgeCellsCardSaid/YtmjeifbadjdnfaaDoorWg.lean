/- Contracts of slices.IndexFunc and DeleteFunc at cells, by whatever function that answers of each. Condition: room. -/
import Derived.Test.YtmjeifbadjdnfaaDoorWf
import Derived.Test.YtmjeifbadjdnfaaDoorHf
set_option linter.unusedVariables false
set_option linter.unusedSimpArgs false
set_option maxRecDepth 50000
namespace Go.Proofs.YtmjeifbadjdnfaaDoor
open Go.RowKit Go.Sort
open Go.Lib hiding intOf

/-- a function on cells that answers b, in every world that w0 (of B blocks) grows into -/
def Asks (f : Nat) (caps : Array Value) (B : Nat) (w0 : World) (L : List Cel) (b : Cel → Bool) : Prop :=
  ∀ W, Below B w0 W → ∀ x ∈ L, Calls Tryd.prog f (#[.agg (celEnc x).toArray] ++ caps) W fun e w' => e = .returned (.bool (b x)) ∧ Below W.heap.size W w'
def IdxP (L : List Cel) (b : Cel → Bool) (r : Int) : Prop := (r = -1 ∧ ∀ x ∈ L, b x = false) ∨ ∃ k : Nat, ∃ h : k < L.length, r = k ∧ b L[k] = true ∧ ∀ x ∈ L.take k, b x = false

set_option maxHeartbeats 1000000 in
theorem idxG_any (f : Nat) (caps : Array Value) (eg : ∀ args w, (callFunc f args).run Tryd.prog w = .ok (.enter f args) w) (B : Nat) (w0 : World) (L : List Cel) (b : Cel → Bool) (v : Value) (w : World) (GA : Asks f caps B w0 L b) (hv : SlX eC w.heap.size w v L) (hB : Below B w0 w) (hBs : B ≤ w.heap.size) (hl : Room L.length) :
    Calls Tryd.prog 42 #[v, .func (.func f) #[] caps] w fun e w' => ∃ r, e = .returned (.int .i64 r) ∧ IdxP L b r ∧ Below w.heap.size w w' := by
  have HV := Lib.hid hv
  obtain ⟨a, cap, rfl, hc, hx⟩ := hv.ex
  have HX := Lib.hid hx; clear hx hv
  unfold Room at hl
  have GH := Lib.hid GA; have HB := Lib.hid hB
  clear GA hB
  go_enter Tryd.func42, Tryd.ntmps42
  go_wp2_with fail
  go_loopw [5, 8] (fun _ v8 wr => ∃ i : Nat, v8 = .int .i64 (i : Int) ∧ i ≤ L.length ∧ Hid (∀ x ∈ L.take i, b x = false) ∧ Below w.heap.size w wr) (fun _ v8 _ => L.length - (intOf v8).toNat)
  case atStart => exact ⟨0, rfl, by omega, Lib.hid (by simp), Below.refl _ _⟩
  case round =>
    obtain ⟨i, rfl, hi, HN, hb⟩ := hrel
    have HBw := Lib.hid hb; clear hb
    by_cases hlt : i < L.length
    · have hz : (i : Int) < (L.length : Int) := by omega
      obtain ⟨gl, o, rfl, hgl2, _⟩ := HX.out (by omega)
      have ten := (Ten.of HV.out i hlt).keep HBw.out
      have GI := Lib.hid (fun W hW => GH.out W hW L[i] (List.getElem_mem hlt))
      have YES := Lib.hid (fun (h : b L[i] = true) => show IdxP L b (i : Int) from .inr ⟨i, hlt, rfl, h, HN.out⟩)
      have NO := Lib.hid (fun (h : b L[i] = false) => show ∀ x ∈ L.take (i + 1), b x = false by
        rw [List.take_succ_eq_append_getElem hlt]
        intro x hx
        rcases List.mem_append.1 hx with hx | hx
        · exact HN.out x hx
        · rw [List.mem_singleton.1 hx]; exact h)
      generalize b L[i] = bi at *
      generalize L[i] = x at *
      obtain ⟨c0, c1, c2, c3, c4, c5, c6, c7, c8, c9⟩ := ten
      obtain ⟨⟨t, p, r, q⟩, ⟨tm, dd, lc, kd, nn, ss⟩⟩ := x
      simp only [celEnc] at *
      have CALL := Lib.hid (GI.out wr (Below.trans HB.out (Below.mono HBw.out hBs)))
      go_wp2_with fail
      refine CALL.out.mono ?_
      rintro e w1 ⟨rfl, hb⟩
      have HB1 := Lib.hid (below_tr HBw.out hb); clear hb c0 c1 c2 c3 c4 c5 c6 c7 c8 c9
      cases bi with
      | true =>
        go_wp2_with fail
        go_ret
        exact ⟨_, rfl, YES.out (by trivial), HB1.out⟩
      | false =>
        have N := Lib.hid (NO.out (by trivial))
        go_wp2_with fail
        exact ⟨⟨i + 1, by first | rfl | go_num, by omega, N, HB1.out⟩, by simp [intOf]; omega⟩
    · have hz : ¬ (i : Int) < (L.length : Int) := by omega
      have e : L.take i = L := List.take_of_length_le (by omega)
      have hn := HN.out
      rw [e] at hn
      have FIN := Lib.hid (show IdxP L b (-1) from .inl ⟨rfl, hn⟩)
      clear hn e HN
      go_wp2_with fail
      go_ret
      exact ⟨_, rfl, FIN.out, HBw.out⟩

theorem clearG (w : World) (g i m cap c base n : Nat) (l : List Cel) (ty : TypeId) (HO : OwnX eC w base (.slice (some ⟨g, 0, none⟩) n cap) l) (him : i + m ≤ l.length) (hm : 0 < m) :
    ∃ w', (Builtin.clear_ #[22] ty #[.slice (some ⟨g, i * 10, none⟩) m c]).run Tryd.prog w = .ok (.tuple #[]) w' ∧ w.grownBy w' (some g) ∧ ∀ k, k < i * 10 → w'.cell? ⟨g, k, none⟩ = w.cell? ⟨g, k, none⟩ := by
  have hz : (zeroValue 35).run Tryd.prog w = .ok zCel w := by unfold zCel; go_simp
  have hlen : (Builtin.zeroCells zCel.cells m).toList.length = m * 10 := by rw [Array.length_toList]; simp only [Builtin.zeroCells, Array.size_map, Array.size_range]; rfl
  have hone : ∀ u ∈ (Builtin.zeroCells zCel.cells m).toList, u.oneCell' = true := by
    intro u hu
    unfold Builtin.zeroCells at hu
    simp only [Array.toList_map, List.mem_map] at hu
    obtain ⟨i, _, rfl⟩ := hu
    have e : zCel.cells.size = 10 := rfl
    rw [e]
    have h10 : i % 10 = 0 ∨ i % 10 = 1 ∨ i % 10 = 2 ∨ i % 10 = 3 ∨ i % 10 = 4 ∨ i % 10 = 5 ∨ i % 10 = 6 ∨ i % 10 = 7 ∨ i % 10 = 8 ∨ i % 10 = 9 := by omega
    rcases h10 with h | h | h | h | h | h | h | h | h | h <;> rw [h] <;> rfl
  have hcell : ∀ j, j < m * 10 → (w.cell? ⟨g, i * 10 + 0 + j, none⟩).isSome = true := fun j hj => by
    have hk : i + j / 10 < l.length := by omega
    have hlt : j % 10 < eC.size := Nat.mod_lt _ (by decide)
    have h10 : (celEnc l[i + j / 10]).length = 10 := rfl
    have := HO.cell (i + j / 10) (j % 10) hk (u := (celEnc l[i + j / 10])[j % 10]'(by rw [h10]; exact hlt)) (List.getElem?_eq_getElem _)
    rw [show (i + j / 10) * eC.size + j % 10 = i * 10 + 0 + j by show (i + j / 10) * 10 + j % 10 = _; omega] at this
    rw [this]; rfl
  have hst := run_storeCells_cells (P := Tryd.prog) g (i * 10) (Builtin.zeroCells zCel.cells m).toList 0 w (fun j hj => hcell j (by omega)) (fun j hj => HO.frozen _) hone
  refine ⟨w.setCells g (i * 10 + 0) (Builtin.zeroCells zCel.cells m).toList, ?_, ?_, fun k hk => ?_⟩
  · obtain ⟨m', rfl⟩ : ∃ m', m = m' + 1 := ⟨m - 1, by omega⟩
    unfold Builtin.clear_
    simp [run_underlying Tryd.underlying22, hz, hst, Result.andThen]
  · have : ∀ (vs : List Value) (o : Nat) (w1 : World), w.grownBy w1 (some g) → w.grownBy (w1.setCells g o vs) (some g) := by
      intro vs
      induction vs with
      | nil => intro o w1 h; exact h
      | cons u vs ih => intro o w1 h; exact ih _ _ (gb_set h o u)
    exact this _ _ _ (World.grownBy.refl _ _)
  · exact World.cell?_setCells_out g _ _ w ⟨g, k, none⟩ (fun _ _ => .inl (by simp; omega))

def DelSt (L : List Cel) (b : Cel → Bool) (i j : Nat) (cur : List Cel) : Prop := cur.length = L.length ∧ i < j ∧ j ≤ L.length ∧ cur.take i = (L.take j).filter (fun x => !b x) ∧ cur.drop j = L.drop j
theorem DelSt.start {L : List Cel} {b : Cel → Bool} {k : Nat} (h : k < L.length) (hb : b L[k] = true) (hn : ∀ x ∈ L.take k, b x = false) : DelSt L b k (k + 1) L := by
  refine ⟨rfl, Nat.lt_succ_self _, h, ?_, rfl⟩
  rw [List.take_succ_eq_append_getElem h, List.filter_append, List.filter_cons_of_neg (by simp [hb]), List.filter_nil, List.append_nil]
  exact (List.filter_eq_self.2 fun x hx => by simp [hn x hx]).symm
theorem DelSt.get {L cur : List Cel} {b : Cel → Bool} {i j : Nat} (h : DelSt L b i j cur) (hj : j < L.length) : cur[j]'(by rw [h.1]; exact hj) = L[j] := by
  have := congrArg (fun l => l[0]?) h.2.2.2.2
  simp only [List.getElem?_drop, Nat.add_zero] at this
  rw [List.getElem?_eq_getElem (by rw [h.1]; exact hj), List.getElem?_eq_getElem hj] at this
  exact Option.some.inj this
theorem DelSt.skip {L cur : List Cel} {b : Cel → Bool} {i j : Nat} (h : DelSt L b i j cur) (hj : j < L.length) (hb : b L[j] = true) : DelSt L b i (j + 1) cur := by
  obtain ⟨h1, h2, h3, h4, h5⟩ := h
  refine ⟨h1, by omega, hj, ?_, ?_⟩
  · rw [List.take_succ_eq_append_getElem hj, List.filter_append, List.filter_cons_of_neg (by simp [hb]), List.filter_nil, List.append_nil, h4]
  · rw [← List.drop_drop, ← List.drop_drop, h5]
theorem DelSt.keep {L cur : List Cel} {b : Cel → Bool} {i j : Nat} (h : DelSt L b i j cur) (hj : j < L.length) (hb : b L[j] = false) : DelSt L b (i + 1) (j + 1) (cur.set i L[j]) := by
  obtain ⟨h1, h2, h3, h4, h5⟩ := h
  refine ⟨by rw [List.length_set, h1], by omega, hj, ?_, ?_⟩
  · rw [List.take_succ_eq_append_getElem hj, List.filter_append, List.filter_cons_of_pos (by simp [hb]), List.filter_nil, ← h4]
    rw [List.take_succ_eq_append_getElem (by rw [List.length_set]; omega), List.getElem_set_self, List.take_set_of_le (Nat.le_refl _)]
  · rw [List.drop_set_of_lt (by omega), ← List.drop_drop, h5, List.drop_drop]
/-- a slice that holds a beginning of what a call owned -/
theorem OwnX.front {w w1 : World} {base g n c i : Nat} {l : List Cel} (h : OwnX eC w base (.slice (some ⟨g, 0, none⟩) n c) l) (hi : i ≤ l.length) (hc : i ≤ c) (hs : g < w1.heap.size) (hk : ∀ k, k < i * 10 → w1.cell? ⟨g, k, none⟩ = w.cell? ⟨g, k, none⟩) :
    SlX eC w1.heap.size w1 (.slice (some ⟨g, 0, none⟩) i c) (l.take i) := by
  have e : (l.take i).length = i := by simp; omega
  refine ⟨some ⟨g, 0, none⟩, c, by rw [e], by rw [e]; exact hc, fun _ => ⟨g, 0, rfl, hs, fun j u hj => ?_⟩⟩
  have hlen : j < i * 10 := by
    have := (List.getElem?_eq_some_iff.1 hj).1
    rw [El.cells_len, e] at this
    exact this
  rw [Nat.zero_add, hk j hlen]
  have hx : (eC.cells l)[j]? = some u := by
    have : l = l.take i ++ l.drop i := (List.take_append_drop i l).symm
    rw [this, El.cells_app, List.getElem?_append_left (by rw [El.cells_len, e]; exact hlen)]
    exact hj
  rcases h.form with ⟨h0, _⟩ | ⟨g', c', h0, _, _, _, hc⟩
  · cases h0
  · injection h0 with h0
    injection h0 with h0
    injection h0 with h0
    subst h0
    exact hc j u hx

set_option maxHeartbeats 4000000 in
theorem delG_any (f : Nat) (caps : Array Value) (eg : ∀ args w, (callFunc f args).run Tryd.prog w = .ok (.enter f args) w) (B : Nat) (w0 : World) (L : List Cel) (b : Cel → Bool) (g cap base : Nat) (w : World) (GA : Asks f caps B w0 L b)
    (HO : OwnX eC w base (.slice (some ⟨g, 0, none⟩) L.length cap) L) (hBb : B ≤ base) (hB : Below B w0 w) (hl : Room L.length) (hcap : L.length ≤ cap) (hcap2 : cap ≤ 9223372036854775807) (hbw : base ≤ w.heap.size) :
    Calls Tryd.prog 64 #[.slice (some ⟨g, 0, none⟩) L.length cap, .func (.func f) #[] caps] w
      fun e w' => ∃ i, e = .returned (.slice (some ⟨g, 0, none⟩) i cap) ∧ SlX eC w'.heap.size w' (.slice (some ⟨g, 0, none⟩) i cap) (L.filter (fun x => !b x)) ∧ Below base w w' := by
  have C1 := Lib.hid (idxG_any f caps eg B w0 L b _ w GA HO.sl hB (Nat.le_trans hBb hbw) hl)
  have HOw := Lib.hid HO; have GH := Lib.hid GA; have HB := Lib.hid hB; have HBB := Lib.hid hBb; have HBW := Lib.hid hbw
  have GB := Lib.hid (show base ≤ g from HO.base g rfl)
  unfold Room at hl
  obtain ⟨n, hn⟩ : ∃ n, L.length = n := ⟨_, rfl⟩
  rw [hn] at C1 HOw hl hcap ⊢
  have HN := Lib.hid hn
  clear HO GA hB hn hBb hbw
  go_enter Tryd.func64, Tryd.ntmps64
  go_wp2_with fail
  refine C1.out.mono ?_
  rintro e w1 ⟨r, rfl, hr, hb⟩
  have O1 := Lib.hid (HOw.out.below hb); have B1 := Lib.hid (Below.mono hb HBW.out)
  clear hb C1
  rcases hr with ⟨rfl, hall⟩ | ⟨k, hk, rfl, hbk, hno⟩
  · have FIN := Lib.hid (show L.filter (fun x => !b x) = L from List.filter_eq_self.2 fun x hx => by simp [hall x hx])
    clear hall
    go_wp2_with fail
    go_ret
    exact ⟨_, rfl, by rw [FIN.out]; exact O1.out.sl, B1.out⟩
  · have ST0 := Lib.hid (DelSt.start hk hbk hno)
    have hk' : k < n := by rw [← HN.out]; exact hk
    have kz : ((k : Int) == -1) = false := by first | (simp; done) | (simp; omega)
    clear hbk hno hk
    go_wp2_with fail
    clear kz
    go_loopw [5, 6, 7] (fun v5 v6 _ wr => ∃ (i j : Nat) (cur : List Cel), v5 = .int .i64 (i : Int) ∧ v6 = .int .i64 (j : Int) ∧ i < j ∧ j ≤ n ∧ Hid (DelSt L b i j cur) ∧ OwnX eC wr base (.slice (some ⟨g, 0, none⟩) n cap) cur ∧ Below base w wr) (fun _ v6 _ _ => n - (intOf v6).toNat)
    case atStart => exact ⟨k, k + 1, L, rfl, by first | rfl | go_num, by omega, hk', ST0, O1.out, B1.out⟩
    case round =>
      obtain ⟨i, j, cur, rfl, rfl, hij, hj, ST, hO, hB⟩ := hrel
      have OW := Lib.hid hO; have BW := Lib.hid hB
      clear hO hB
      by_cases hlt : j < n
      · have hz : (j : Int) < (n : Int) := by omega
        have ten := OW.out.ten j (by rw [ST.out.1, HN.out]; exact hlt)
        rw [ST.out.get (by rw [HN.out]; exact hlt)] at ten
        obtain ⟨y, tnf⟩ : ∃ y, Ten wr g (i * 10) y := ⟨_, OW.out.ten i (by rw [ST.out.1, HN.out]; omega)⟩
        have CALL := Lib.hid (fun W hW => GH.out W hW (L[j]'(by rw [HN.out]; exact hlt)) (List.getElem_mem _))
        have SK := Lib.hid (fun h => ST.out.skip (by rw [HN.out]; exact hlt) h)
        have KP := Lib.hid (fun h => ST.out.keep (by rw [HN.out]; exact hlt) h)
        have PUT := Lib.hid (fun W (hW : Below wr.heap.size wr W) => (OW.out.below hW).put i (by rw [ST.out.1, HN.out]; omega) (L[j]'(by rw [HN.out]; exact hlt)))
        have TNF := Lib.hid tnf
        generalize b (L[j]'_) = bj at *
        generalize (L[j]'_) = x at *
        obtain ⟨c0, c1, c2, c3, c4, c5, c6, c7, c8, c9⟩ := ten
        obtain ⟨⟨t, p, r, q⟩, ⟨tm, dd, lc, kd, nn, ss⟩⟩ := x
        simp only [celEnc] at *
        have hbk : Blk (wr.alloc (.cells #[.string t, .string p, .int .i64 r, .string q, .int .i64 tm, .bool dd, .int .i64 lc, .int .i64 kd, .int .i64 nn, .string ss] 35)) wr.heap.size 35 #[.string t, .string p, .int .i64 r, .string q, .int .i64 tm, .bool dd, .int .i64 lc, .int .i64 kd, .int .i64 nn, .string ss] := Blk.new wr _ _
        have BK := Lib.hid hbk
        have BW2 := Lib.hid (below_alloc (Below.refl _ wr) (.cells #[.string t, .string p, .int .i64 r, .string q, .int .i64 tm, .bool dd, .int .i64 lc, .int .i64 kd, .int .i64 nn, .string ss] 35))
        clear hbk
        have CALL2 := Lib.hid (CALL.out (wr.alloc (.cells #[.string t, .string p, .int .i64 r, .string q, .int .i64 tm, .bool dd, .int .i64 lc, .int .i64 kd, .int .i64 nn, .string ss] 35)) (Below.trans HB.out (Below.mono (Below.trans BW.out (Below.mono BW2.out (Nat.le_trans HBW.out BW.out.size))) HBB.out)))
        go_wp2_with fail
        clear c0 c1 c2 c3 c4 c5 c6 c7 c8 c9 tnf
        generalize hW1 : wr.alloc (.cells #[.string t, .string p, .int .i64 r, .string q, .int .i64 tm, .bool dd, .int .i64 lc, .int .i64 kd, .int .i64 nn, .string ss] 35) = W1 at *
        clear hW1
        generalize hgx : wr.heap.size = gx at *
        have HGX := Lib.hid hgx
        clear hgx
        refine CALL2.out.mono ?_
        rintro e w2 ⟨rfl, hb⟩
        have BG := Lib.hid (show Below gx wr w2 from Below.trans BW2.out (Below.mono hb (Nat.le_of_lt BK.out.lt)))
        have BG' := Lib.hid (show Below wr.heap.size wr w2 by rw [HGX.out]; exact BG.out)
        have BX := Lib.hid (BK.out.below hb)
        clear hb
        obtain ⟨f0, f1, f2, f3, f4, f5, f6, f7, f8, f9⟩ := Blk.ten (x := (⟨⟨t, p, r, q⟩, ⟨tm, dd, lc, kd, nn, ss⟩⟩ : Cel)) BX.out
        simp only [Nat.zero_add] at f0 f1 f2 f3 f4 f5 f6 f7 f8 f9
        have BB := Lib.hid (Below.trans BW.out (Below.mono BG'.out (Nat.le_trans HBW.out BW.out.size)))
        cases bj with
        | true =>
          have S2 := Lib.hid (SK.out (by trivial))
          have O2 := Lib.hid (OW.out.below BG'.out)
          clear SK KP f0 f1 f2 f3 f4 f5 f6 f7 f8 f9
          go_wp2_with fail
          exact ⟨⟨i, j + 1, cur, rfl, by first | rfl | go_num, by omega, hlt, S2, O2.out, BB.out⟩, by simp [intOf]; omega⟩
        | false =>
          have S2 := Lib.hid (KP.out (by trivial))
          have TN2 := TNF.out.keep BG'.out
          have O2 := Lib.hid (OW.out.below BG'.out)
          have fz := O2.out.frozen
          have ib : (i : Int) < (n : Int) := by omega
          clear SK KP
          obtain ⟨m0, m1, m2, m3, m4, m5, m6, m7, m8, m9⟩ := TN2
          go_upto_region 10 with (fail)
          refine wp_gen (fun w3 => OwnX eC w3 base (.slice (some ⟨g, 0, none⟩) n cap) (cur.set i (⟨⟨t, p, r, q⟩, ⟨tm, dd, lc, kd, nn, ss⟩⟩ : Cel)) ∧ w2.grownBy w3 (some g)) (PUT.out _ BG.out) ?_
          rintro w3 ⟨hO3, hg3⟩
          have O3 := Lib.hid hO3
          have B3 := Lib.hid (Below.grown BB.out hg3 (Nat.le_trans HBW.out BB.out.size) (fun k hk => by injection hk with hk; subst hk; exact GB.out))
          clear hO3 hg3 m0 m1 m2 m3 m4 m5 m6 m7 m8 m9 f0 f1 f2 f3 f4 f5 f6 f7 f8 f9 fz
          go_wp2_with fail
          exact ⟨⟨i + 1, j + 1, _, by first | rfl | go_num, by first | rfl | go_num, by omega, hlt, S2, O3.out, B3.out⟩, by simp [intOf]; omega⟩
      · have hz : ¬ (j : Int) < (n : Int) := by omega
        obtain rfl : j = n := by omega
        obtain ⟨m, hm⟩ : ∃ m, j - i = m := ⟨_, rfl⟩
        obtain ⟨m2, hm2⟩ : ∃ m, cap - i = m := ⟨_, rfl⟩
        obtain ⟨w3, hr, hg3, hkeep⟩ := clearG wr g i m cap m2 base j cur 0 OW.out (by rw [ST.out.1, HN.out]; omega) (by omega)
        have ib : (i : Int) ≤ (j : Int) := by omega
        have ic : (i : Int) ≤ (cap : Int) := by omega
        have ib2 : (0 : Int) ≤ (i : Int) := by omega
        have jc : (j : Int) ≤ (cap : Int) := by omega
        have B3 := Lib.hid (Below.grown BW.out hg3 (Nat.le_trans HBW.out BW.out.size) (fun k hk => by injection hk with hk; subst hk; exact GB.out))
        have hgl : g < w3.heap.size := Nat.lt_of_lt_of_le (World.ownsRow.lt OW.out g rfl).2 hg3.size
        have FR := Lib.hid (show SlX eC w3.heap.size w3 (.slice (some ⟨g, 0, none⟩) i cap) (L.filter (fun x => !b x)) by
          have h := OW.out.front (w1 := w3) (i := i) (by rw [ST.out.1, HN.out]; omega) (by omega) hgl hkeep
          rw [ST.out.2.2.2.1, show j = L.length from HN.out.symm, List.take_length] at h
          exact h)
        clear hg3 hkeep hgl
        go_wp2_with fail
        go_ret
        exact ⟨i, rfl, FR.out, B3.out⟩
end Go.Proofs.YtmjeifbadjdnfaaDoor
