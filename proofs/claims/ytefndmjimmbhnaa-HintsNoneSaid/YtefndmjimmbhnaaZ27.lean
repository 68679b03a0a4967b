/- Contracts of slices.IndexFunc and DeleteFunc at the disk's marks, by whatever function that answers of each; of slices.Contains. No condition but room. -/
import Derived.Test.YtefndmjimmbhnaaZ26
section
set_option linter.unusedVariables false
set_option linter.unusedSimpArgs false
set_option maxRecDepth 50000
namespace Go.Proofs.Ytefndmjimmbhnaa
open Go.RowKit

/-- the two cells of a mark -/
structure Duo (w : World) (g o : Nat) (p : Nat × Nat) : Prop where
  c0 : w.cell? ⟨g, o, none⟩ = some (ptrV p.1)
  c1 : w.cell? ⟨g, o + 1, none⟩ = some (.int .i64 (p.2 : Int))
theorem SlX.duo {B : Nat} {w : World} {l : List (Nat × Nat)} {g o n c : Nat} (h : SlX eM B w (.slice (some ⟨g, o, none⟩) n c) l) (j : Nat) (hj : j < l.length) : Duo w g (o + j * 2) l[j] := ⟨h.cell j 0 hj rfl, h.cell j 1 hj rfl⟩
theorem OwnX.duo {w : World} {base g n c : Nat} {l : List (Nat × Nat)} (h : OwnX eM w base (.slice (some ⟨g, 0, none⟩) n c) l) (j : Nat) (hj : j < l.length) : Duo w g (j * 2) l[j] := ⟨h.cell j 0 hj rfl, h.cell j 1 hj rfl⟩
theorem Duo.keep {w w1 : World} {g o : Nat} {p : Nat × Nat} (h : Duo w g o p) (hb : Below w.heap.size w w1) : Duo w1 g o p := ⟨cell_keep hb h.c0, cell_keep hb h.c1⟩

/-- a function on marks that answers b, in every world that is w0 but for block g -/
def AsksM (f : Nat) (caps : Array Value) (g : Nat) (w0 : World) (L : List (Nat × Nat)) (b : Nat × Nat → Bool) : Prop :=
  ∀ W, But (· = g) w0 W → ∀ x ∈ L, Calls Try.prog f (#[.agg #[ptrV x.1, .int .i64 (x.2 : Int)]] ++ caps) W fun e w' => e = .returned (.bool (b x)) ∧ Below W.heap.size W w'
def IdxM (L : List (Nat × Nat)) (b : Nat × Nat → Bool) (r : Int) : Prop := (r = -1 ∧ ∀ x ∈ L, b x = false) ∨ ∃ k : Nat, ∃ h : k < L.length, r = k ∧ b L[k] = true ∧ ∀ x ∈ L.take k, b x = false

set_option maxHeartbeats 1000000 in
theorem idxM_any (f : Nat) (caps : Array Value) (eg : ∀ args w, (callFunc f args).run Try.prog w = .ok (.enter f args) w) (g : Nat) (w0 : World) (L : List (Nat × Nat)) (b : Nat × Nat → Bool) (v : Value) (w : World) (GA : AsksM f caps g w0 L b) (hv : SlX eM w.heap.size w v L) (hB : But (· = g) w0 w) (hl : L.length ≤ 9223372036854775807) :
    Calls Try.prog 105 #[v, .func (.func f) #[] caps] w fun e w' => ∃ r, e = .returned (.int .i64 r) ∧ IdxM L b r ∧ Below w.heap.size w w' := by
  have HV := Lib.hid hv
  obtain ⟨a, cap, rfl, hc, hx⟩ := hv.ex
  have HX := Lib.hid hx; clear hx hv
  have GH := Lib.hid GA; have HB := Lib.hid hB
  clear GA hB
  go_enter Try.func105, Try.ntmps105
  go_wp2_with fail
  go_loopw [5, 8] (fun _ v8 wr => ∃ i : Nat, v8 = .int .i64 (i : Int) ∧ i ≤ L.length ∧ Hid (∀ x ∈ L.take i, b x = false) ∧ Below w.heap.size w wr) (fun _ v8 _ => L.length - (intOf v8).toNat)
  case atStart => exact ⟨0, rfl, by omega, Lib.hid (by simp), Below.refl _ _⟩
  case round =>
    obtain ⟨i, rfl, hi, HN, hb⟩ := hrel
    have HBw := Lib.hid hb; clear hb
    by_cases hlt : i < L.length
    · have hz : (i : Int) < (L.length : Int) := by omega
      obtain ⟨gl, o, rfl, hgl2, _⟩ := HX.out (by omega)
      have duo := (HV.out.duo i hlt).keep HBw.out
      have GI := Lib.hid (fun W hW => GH.out W hW L[i] (List.getElem_mem hlt))
      have YES := Lib.hid (fun (h : b L[i] = true) => show IdxM L b (i : Int) from .inr ⟨i, hlt, rfl, h, HN.out⟩)
      have NO := Lib.hid (fun (h : b L[i] = false) => show ∀ x ∈ L.take (i + 1), b x = false by
        rw [List.take_succ_eq_append_getElem hlt]
        intro x hx
        rcases List.mem_append.1 hx with hx | hx
        · exact HN.out x hx
        · rw [List.mem_singleton.1 hx]; exact h)
      generalize b L[i] = bi at *
      generalize L[i] = x at *
      have c0 := duo.c0; have c1 := duo.c1
      obtain ⟨pa, pn⟩ := x
      simp only [ptrV] at *
      clear duo
      have CALL := Lib.hid (GI.out wr (HB.out.tail HBw.out))
      go_wp2_with fail
      refine CALL.out.mono ?_
      rintro e w1 ⟨rfl, hb⟩
      have HB1 := Lib.hid (below_tr HBw.out hb); clear hb c0 c1
      cases bi with
      | true =>
        go_wp2_with fail
        go_ret
        exact ⟨_, rfl, YES.out (by trivial), HB1.out⟩
      | false =>
        have N := Lib.hid (NO.out (by trivial))
        go_wp2_with fail
        exact ⟨⟨i + 1, by first | rfl | go_num, by omega, N, HB1.out⟩, by simp [intOf]; omega⟩
    · have hz : ¬ (i : Int) < (L.length : Int) := by omega
      have e : L.take i = L := List.take_of_length_le (by omega)
      have hn := HN.out
      rw [e] at hn
      have FIN := Lib.hid (show IdxM L b (-1) from .inl ⟨rfl, hn⟩)
      clear hn e HN
      go_wp2_with fail
      go_ret
      exact ⟨_, rfl, FIN.out, HBw.out⟩

theorem clearM (w : World) (g i m cap c base n : Nat) (l : List (Nat × Nat)) (ty : TypeId) (HO : OwnX eM w base (.slice (some ⟨g, 0, none⟩) n cap) l) (him : i + m ≤ l.length) (hm : 0 < m) :
    ∃ w', (Builtin.clear_ #[66] ty #[.slice (some ⟨g, i * 2, none⟩) m c]).run Try.prog w = .ok (.tuple #[]) w' ∧ w.grownBy w' (some g) ∧ OwnX eM w' base (.slice (some ⟨g, 0, none⟩) i cap) (l.take i) := by
  have hz : (zeroValue 84).run Try.prog w = .ok zMark w := by unfold zMark; go_simp
  have hlen : (Builtin.zeroCells zMark.cells m).toList.length = m * 2 := by rw [Array.length_toList]; simp only [Builtin.zeroCells, Array.size_map, Array.size_range]; rfl
  have hone : ∀ u ∈ (Builtin.zeroCells zMark.cells m).toList, u.oneCell' = true := by
    intro u hu
    unfold Builtin.zeroCells at hu
    simp only [Array.toList_map, List.mem_map] at hu
    obtain ⟨i, _, rfl⟩ := hu
    have e : zMark.cells.size = 2 := rfl
    rw [e]
    have h2 : i % 2 = 0 ∨ i % 2 = 1 := by omega
    rcases h2 with h | h <;> rw [h] <;> rfl
  have hcell : ∀ j, j < m * 2 → (w.cell? ⟨g, i * 2 + 0 + j, none⟩).isSome = true := fun j hj => by
    have hk : i + j / 2 < l.length := by omega
    have hlt : j % 2 < eM.size := Nat.mod_lt _ (by decide)
    have h10 : (markEnc l[i + j / 2]).length = 2 := rfl
    have := HO.cell (i + j / 2) (j % 2) hk (u := (markEnc l[i + j / 2])[j % 2]'(by rw [h10]; exact hlt)) (List.getElem?_eq_getElem _)
    rw [show (i + j / 2) * eM.size + j % 2 = i * 2 + 0 + j by show (i + j / 2) * 2 + j % 2 = _; omega] at this
    rw [this]; rfl
  have hst := run_storeCells_cells (P := Try.prog) g (i * 2) (Builtin.zeroCells zMark.cells m).toList 0 w (fun j hj => hcell j (by omega)) (fun j hj => HO.frozen _) hone
  refine ⟨w.setCells g (i * 2 + 0) (Builtin.zeroCells zMark.cells m).toList, ?_, gb_setCells _ _ _ _ (World.grownBy.refl _ _), ?_⟩
  · obtain ⟨m', rfl⟩ : ∃ m', m = m' + 1 := ⟨m - 1, by omega⟩
    unfold Builtin.clear_
    simp [run_underlying Try.underlying66, hz, hst, Result.andThen]
  · exact HO.cutTo (by omega) _

def DelM (L : List (Nat × Nat)) (b : Nat × Nat → Bool) (i j : Nat) (cur : List (Nat × Nat)) : Prop := cur.length = L.length ∧ i < j ∧ j ≤ L.length ∧ cur.take i = (L.take j).filter (fun x => !b x) ∧ cur.drop j = L.drop j
theorem DelM.start {L : List (Nat × Nat)} {b : Nat × Nat → Bool} {k : Nat} (h : k < L.length) (hb : b L[k] = true) (hn : ∀ x ∈ L.take k, b x = false) : DelM L b k (k + 1) L := by
  refine ⟨rfl, Nat.lt_succ_self _, h, ?_, rfl⟩
  rw [List.take_succ_eq_append_getElem h, List.filter_append, List.filter_cons_of_neg (by simp [hb]), List.filter_nil, List.append_nil]
  exact (List.filter_eq_self.2 fun x hx => by simp [hn x hx]).symm
theorem DelM.get {L cur : List (Nat × Nat)} {b : Nat × Nat → Bool} {i j : Nat} (h : DelM L b i j cur) (hj : j < L.length) : cur[j]'(by rw [h.1]; exact hj) = L[j] := by
  have := congrArg (fun l => l[0]?) h.2.2.2.2
  simp only [List.getElem?_drop, Nat.add_zero] at this
  rw [List.getElem?_eq_getElem (by rw [h.1]; exact hj), List.getElem?_eq_getElem hj] at this
  exact Option.some.inj this
theorem DelM.skip {L cur : List (Nat × Nat)} {b : Nat × Nat → Bool} {i j : Nat} (h : DelM L b i j cur) (hj : j < L.length) (hb : b L[j] = true) : DelM L b i (j + 1) cur := by
  obtain ⟨h1, h2, h3, h4, h5⟩ := h
  refine ⟨h1, by omega, hj, ?_, ?_⟩
  · rw [List.take_succ_eq_append_getElem hj, List.filter_append, List.filter_cons_of_neg (by simp [hb]), List.filter_nil, List.append_nil, h4]
  · rw [← List.drop_drop, ← List.drop_drop, h5]
theorem DelM.keep {L cur : List (Nat × Nat)} {b : Nat × Nat → Bool} {i j : Nat} (h : DelM L b i j cur) (hj : j < L.length) (hb : b L[j] = false) : DelM L b (i + 1) (j + 1) (cur.set i L[j]) := by
  obtain ⟨h1, h2, h3, h4, h5⟩ := h
  refine ⟨by rw [List.length_set, h1], by omega, hj, ?_, ?_⟩
  · rw [List.take_succ_eq_append_getElem hj, List.filter_append, List.filter_cons_of_pos (by simp [hb]), List.filter_nil, ← h4]
    rw [List.take_succ_eq_append_getElem (by rw [List.length_set]; omega), List.getElem_set_self, List.take_set_of_le (Nat.le_refl _)]
  · rw [List.drop_set_of_lt (by omega), ← List.drop_drop, h5, List.drop_drop]

set_option maxHeartbeats 4000000 in
theorem delM_any (f : Nat) (caps : Array Value) (eg : ∀ args w, (callFunc f args).run Try.prog w = .ok (.enter f args) w) (w0 : World) (L : List (Nat × Nat)) (b : Nat × Nat → Bool) (g cap : Nat) (w : World) (GA : AsksM f caps g w0 L b)
    (HO : OwnX eM w 0 (.slice (some ⟨g, 0, none⟩) L.length cap) L) (hB : But (· = g) w0 w) (hl : L.length ≤ 9223372036854775807) (hcap : L.length ≤ cap) (hcap2 : cap ≤ 9223372036854775807) :
    Calls Try.prog 96 #[.slice (some ⟨g, 0, none⟩) L.length cap, .func (.func f) #[] caps] w
      fun e w' => e = .returned (.slice (some ⟨g, 0, none⟩) (L.filter (fun x => !b x)).length cap) ∧ OwnX eM w' 0 (.slice (some ⟨g, 0, none⟩) (L.filter (fun x => !b x)).length cap) (L.filter (fun x => !b x)) ∧ But (· = g) w w' := by
  have C1 := Lib.hid (idxM_any f caps eg g w0 L b _ w GA HO.sl hB hl)
  have HOw := Lib.hid HO; have GH := Lib.hid GA; have HB := Lib.hid hB
  obtain ⟨n, hn⟩ : ∃ n, L.length = n := ⟨_, rfl⟩
  rw [hn] at C1 HOw hl hcap ⊢
  have HN := Lib.hid hn
  have FLN := Lib.hid (show (L.filter (fun x => !b x)).length ≤ n by rw [← hn]; exact List.length_filter_le _ _)
  clear HO GA hB hn
  go_enter Try.func96, Try.ntmps96
  go_wp2_with fail
  refine C1.out.mono ?_
  rintro e w1 ⟨r, rfl, hr, hb⟩
  have O1 := Lib.hid (HOw.out.below hb); have B1 := Lib.hid (But.of_below (· = g) hb)
  clear hb C1
  rcases hr with ⟨rfl, hall⟩ | ⟨k, hk, rfl, hbk, hno⟩
  · have FIN := Lib.hid (show L.filter (fun x => !b x) = L from List.filter_eq_self.2 fun x hx => by simp [hall x hx])
    clear hall
    go_wp2_with fail
    go_ret
    exact ⟨by rw [FIN.out, HN.out]; rfl, by rw [FIN.out, HN.out]; exact O1.out, B1.out⟩
  · have ST0 := Lib.hid (DelM.start hk hbk hno)
    have hk' : k < n := by rw [← HN.out]; exact hk
    have kz : ((k : Int) == -1) = false := by first | (simp; done) | (simp; omega)
    clear hbk hno hk
    go_wp2_with fail
    clear kz
    go_loopw [5, 6, 7] (fun v5 v6 _ wr => ∃ (i j : Nat) (cur : List (Nat × Nat)), v5 = .int .i64 (i : Int) ∧ v6 = .int .i64 (j : Int) ∧ i < j ∧ j ≤ n ∧ Hid (DelM L b i j cur) ∧ Hid (OwnX eM wr 0 (.slice (some ⟨g, 0, none⟩) n cap) cur) ∧ Hid (But (· = g) w wr)) (fun _ v6 _ _ => n - (intOf v6).toNat)
    case atStart => exact ⟨k, k + 1, L, rfl, by first | rfl | go_num, by omega, hk', ST0, O1, B1⟩
    case round =>
      obtain ⟨i, j, cur, rfl, rfl, hij, hj, ST, OW, BW⟩ := hrel
      by_cases hlt : j < n
      · have hz : (j : Int) < (n : Int) := by omega
        have duo := OW.out.duo j (by rw [ST.out.1, HN.out]; exact hlt)
        rw [ST.out.get (by rw [HN.out]; exact hlt)] at duo
        obtain ⟨y, tnf⟩ : ∃ y, Duo wr g (i * 2) y := ⟨_, OW.out.duo i (by rw [ST.out.1, HN.out]; omega)⟩
        have CALL := Lib.hid (fun W hW => GH.out W hW (L[j]'(by rw [HN.out]; exact hlt)) (List.getElem_mem _))
        have SK := Lib.hid (fun h => ST.out.skip (by rw [HN.out]; exact hlt) h)
        have KP := Lib.hid (fun h => ST.out.keep (by rw [HN.out]; exact hlt) h)
        have PUT := Lib.hid (fun W (hW : Below wr.heap.size wr W) => (OW.out.below hW).put i (by rw [ST.out.1, HN.out]; omega) (L[j]'(by rw [HN.out]; exact hlt)))
        have TNF := Lib.hid tnf
        generalize b (L[j]'_) = bj at *
        generalize (L[j]'_) = x at *
        have c0 := duo.c0; have c1 := duo.c1
        obtain ⟨pa, pn⟩ := x
        simp only [ptrV] at *
        have BK := Lib.hid (Blk.new wr 84 #[.pointer (some ⟨pa, 0, none⟩), .int .i64 (pn : Int)])
        have BW2 := Lib.hid (below_alloc (Below.refl _ wr) (.cells #[.pointer (some ⟨pa, 0, none⟩), .int .i64 (pn : Int)] 84))
        have CALL2 := Lib.hid (CALL.out (wr.alloc (.cells #[.pointer (some ⟨pa, 0, none⟩), .int .i64 (pn : Int)] 84)) ((HB.out.trans BW.out).tail BW2.out))
        clear duo
        go_wp2_with fail
        clear c0 c1 tnf
        generalize hW1 : wr.alloc (.cells #[.pointer (some ⟨pa, 0, none⟩), .int .i64 (pn : Int)] 84) = W1 at *
        clear hW1
        refine CALL2.out.mono ?_
        rintro e w2 ⟨rfl, hb⟩
        have BG := Lib.hid (below_tr BW2.out hb)
        have BX := Lib.hid (BK.out.below hb)
        clear hb
        have f0 := BX.out.cell 0 rfl; have f1 := BX.out.cell 1 rfl
        have BB := Lib.hid (BW.out.tail BG.out)
        cases bj with
        | true =>
          have S2 := Lib.hid (SK.out (by trivial))
          have O2 := Lib.hid (OW.out.below BG.out)
          clear SK KP f0 f1
          go_wp2_with fail
          exact ⟨⟨i, j + 1, cur, rfl, by first | rfl | go_num, by omega, hlt, S2, O2, BB⟩, by simp [intOf]; omega⟩
        | false =>
          have S2 := Lib.hid (KP.out (by trivial))
          have TN2 := TNF.out.keep BG.out
          have O2 := Lib.hid (OW.out.below BG.out)
          have fz := O2.out.frozen
          have ib : (i : Int) < (n : Int) := by omega
          clear SK KP
          have m0 := TN2.c0; have m1 := TN2.c1
          simp only [ptrV] at m0
          clear TN2
          go_upto_region 10 with (fail)
          refine wp_forget (fun w3 => OwnX eM w3 0 (.slice (some ⟨g, 0, none⟩) n cap) (cur.set i (pa, pn)) ∧ w2.grownBy w3 (some g)) (PUT.out _ BG.out) ?_
          rintro w3 ⟨hO3, hg3⟩
          have O3 := Lib.hid hO3
          have B3 := Lib.hid (BB.out.trans (But.of_grown hg3))
          clear hO3 hg3 m0 m1 f0 f1 fz
          go_wp2_with fail
          exact ⟨⟨i + 1, j + 1, _, by first | rfl | go_num, by first | rfl | go_num, by omega, hlt, S2, O3, B3⟩, by simp [intOf]; omega⟩
      · have hz : ¬ (j : Int) < (n : Int) := by omega
        obtain rfl : j = n := by omega
        obtain ⟨m, hm⟩ : ∃ m, j - i = m := ⟨_, rfl⟩
        obtain ⟨m2, hm2⟩ : ∃ m, cap - i = m := ⟨_, rfl⟩
        obtain ⟨w3, hr, hg3, hO3⟩ := clearM wr g i m cap m2 0 j cur 0 OW.out (by rw [ST.out.1, HN.out]; omega) (by omega)
        have hlen : (L.filter (fun x => !b x)).length = i := by
          have := congrArg List.length ST.out.2.2.2.1
          rw [List.length_take, ST.out.1, HN.out, show L.take j = L by rw [← HN.out]; exact List.take_length] at this
          omega
        have hfl : cur.take i = L.filter (fun x => !b x) := by rw [ST.out.2.2.2.1, show L.take j = L by rw [← HN.out]; exact List.take_length]
        have ib : (i : Int) ≤ (j : Int) := by omega
        have ic : (i : Int) ≤ (cap : Int) := by omega
        have ib2 : (0 : Int) ≤ (i : Int) := by omega
        have jc : (j : Int) ≤ (cap : Int) := by omega
        have B3 := Lib.hid (BW.out.trans (But.of_grown hg3))
        rw [hfl] at hO3
        have O3 := Lib.hid hO3; have HLEN := Lib.hid hlen
        clear hg3 hO3 hfl hlen
        go_wp2_with fail
        go_ret
        exact ⟨by rw [HLEN.out]; rfl, by rw [HLEN.out]; exact O3.out, B3.out⟩
end Go.Proofs.Ytefndmjimmbhnaa
end
