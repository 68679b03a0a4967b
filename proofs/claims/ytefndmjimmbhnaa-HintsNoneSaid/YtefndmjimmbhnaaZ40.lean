/- Contract of hints' Open, at a disk with no file of hints and at one with them. Conditions: as told at each. Contracts of slices.IndexFunc and DeleteFunc at hints, by whatever function that answers of each. No condition but room. Contracts of slices.Clone at cells and at hints; of appending one hint to handed hints. No condition but room. -/
import Derived.Test.YtefndmjimmbhnaaZ39
import Derived.Test.YtefndmjimmbhnaaZ36
import Derived.Test.YtefndmjimmbhnaaZ35
section
set_option linter.unusedVariables false
set_option linter.unusedSimpArgs false
set_option maxRecDepth 50000
namespace Go.Proofs.Ytefndmjimmbhnaa
open Go.RowKit Go.Shelf

theorem name_hints : diskNameB (⟨#[104, 105, 110, 116, 115]⟩ : ByteArray) = true := by decide +kernel
theorem name_hints_new : diskNameB (⟨#[104, 105, 110, 116, 115, 46, 110, 101, 119]⟩ : ByteArray) = true := by decide +kernel
def HOpenPost (w : World) (D : Dsk) (nx : Int) (l : List Hn) (e : Ending) (w' : World) : Prop :=
  ∃ gh, e = .returned (.tuple #[ptrV gh, .int .i64 0]) ∧ w.heap.size ≤ gh ∧ HW w' D gh nx l false ∧ Below w.heap.size w w'
/-- hints in a new block, over a disk -/
theorem HW.new {w w' : World} {D : Dsk} {gh : Nat} {nx : Int} {a : Option Addr} {c : Nat} {qs : List Hq} {l : List Hn} (h : DiskW w D) (hb : Below w.heap.size w w') (hg : w.heap.size ≤ gh) (hB : Blk w' gh 50 #[ptrV D.d, .int .i64 nx, .slice a qs.length c, .bool false])
    (hs : SlF eT w' D gh (.slice a qs.length c) qs) (hq : HnsF w' D gh qs l) : HW w' D gh nx l false := ⟨h.below hb, ⟨qs, a, c, hB, hs, hq⟩, h.fresh hg⟩
theorem SlF.own2 {α : Type} {E : El α} {W W1 W2 : World} {D : Dsk} {gh base : Nat} {v : Value} {l : List α} (h : OwnX E W1 base v l) (hd : DiskW W D) (hb : W.heap.size ≤ base) (hB : Below W1.heap.size W1 W2) (hg : W1.heap.size ≤ gh) : SlF E W2 D gh v l :=
  ⟨(h.below hB).sl, fun ad n c e => by
    subst e
    have hbb := OwnX.base h ad.block rfl
    have h2 := (World.ownsRow.lt h ad.block rfl).2
    have := hB.size
    exact ⟨by omega, hd.fresh (Nat.le_trans hb hbb), by omega⟩⟩
theorem HnsF.own2 {W W1 W2 : World} {D : Dsk} {gh base : Nat} {qs : List Hq} {l : List Hn} (h : HnsO W1 base qs l) (hd : DiskW W D) (hb : W.heap.size ≤ base) (hB : Below W1.heap.size W1 W2) (hg : W1.heap.size ≤ gh) : HnsF W2 D gh qs l := ⟨h.len, fun i h1 h2 => by
  obtain ⟨a, b, c, d⟩ := h.at_ i h1 h2
  exact ⟨a, b, c, SlF.own2 d hd hb hB hg⟩⟩
set_option maxHeartbeats 2000000 in
theorem hOpen_none (D : Dsk) (w : World) (h : DiskW w D) (hd : D.dark = false) (hf : D.get (⟨#[104, 105, 110, 116, 115]⟩ : ByteArray) = none) :
    Calls Try.prog 8 #[ptrV D.d] w (HOpenPost w D 1 []) := by
  have H := Lib.hid (read_none D (⟨#[104, 105, 110, 116, 115]⟩ : ByteArray) w h hd name_hints hf)
  have HD := Lib.hid h
  clear h hd hf
  simp only [ptrV] at *
  go_enter Try.func8, Try.ntmps8
  go_wp2_with fail
  refine H.out.mono ?_
  rintro e w1 ⟨rfl, hb1⟩
  have HB := Lib.hid hb1; clear hb1 H
  go_wp2_with fail
  have b2 := Blk.new w1 50 #[ptrV D.d, .int .i64 1, .slice none 0 0, .bool false]
  have A := below_alloc HB.out (.cells #[ptrV D.d, .int .i64 1, .slice none 0 0, .bool false] 50)
  refine bodyPost_ret (v := .tuple #[.pointer (some ⟨w1.heap.size, 0, none⟩), .int .i64 0]) (by simp [results, Try.results8, go_sem]) rfl ⟨w1.heap.size, rfl, HB.out.size, ?_, A⟩
  exact HW.new (qs := []) (c := 0) (a := none) HD.out A HB.out.size b2 ⟨(OwnX.nil (E := eT) _ 0).sl, by rintro ad n c e; cases e⟩ ⟨rfl, by intro i h1; simp at h1⟩
set_option maxHeartbeats 2000000 in
theorem hOpen_some (D : Dsk) (f : Fil) (nx : Int) (l : List Hn) (w : World) (h : DiskW w D) (hd : D.dark = false) (hf : D.get (⟨#[104, 105, 110, 116, 115]⟩ : ByteArray) = some f) (hlen : f.b.length ≤ 1000000) (hr : rdH f.b = some (nx, l)) :
    Calls Try.prog 8 #[ptrV D.d] w (HOpenPost w D nx l) := by
  have H := Lib.hid (read_any D (⟨#[104, 105, 110, 116, 115]⟩ : ByteArray) f w h hd name_hints hf)
  have HR := Lib.hid (fun W base v (hv : OwnB W base v f.b) => hRead_any v f.b W hv.slB hlen)
  rw [hr] at HR
  have HD := Lib.hid h
  clear h hd hf hr hlen
  simp only [ptrV] at *
  go_enter Try.func8, Try.ntmps8
  go_wp2_with fail
  refine H.out.mono ?_
  rintro e w1 ⟨v, rfl, ho, hb1⟩
  have HO := Lib.hid ho; have HB1 := Lib.hid hb1; clear ho hb1 H
  go_wp2_with fail
  refine (HR.out _ _ _ HO.out).mono ?_
  rintro e w2 ⟨hb2, v2, qs, rfl, ho2, hq2⟩
  have HB2 := Lib.hid (below_tr HB1.out hb2)
  have HO2 := Lib.hid (ho2.weaken HB1.out.size)
  have HQ2 := Lib.hid hq2
  have S0 := ho2.sl
  have hsz := HB1.out.size
  clear ho2 hq2 hb2 HR
  obtain ⟨a, c, rfl, _, _⟩ := S0.ex
  clear S0
  go_wp2_with fail
  have b2 := Blk.new w2 50 #[ptrV D.d, .int .i64 nx, .slice a qs.length c, .bool false]
  have A0 := below_alloc (Below.refl _ w2) (.cells #[ptrV D.d, .int .i64 nx, .slice a qs.length c, .bool false] 50)
  have A := below_alloc HB2.out (.cells #[ptrV D.d, .int .i64 nx, .slice a qs.length c, .bool false] 50)
  refine bodyPost_ret (v := .tuple #[.pointer (some ⟨w2.heap.size, 0, none⟩), .int .i64 0]) (by simp [results, Try.results8, go_sem]) rfl ⟨w2.heap.size, rfl, HB2.out.size, ?_, A⟩
  exact HW.new HD.out A HB2.out.size b2 (SlF.own2 HO2.out HD.out (Nat.le_refl _) A0 (Nat.le_refl _)) (HnsF.own2 HQ2.out HD.out hsz A0 (Nat.le_refl _))
end Go.Proofs.Ytefndmjimmbhnaa
end

section
set_option linter.unusedVariables false
set_option linter.unusedSimpArgs false
set_option maxRecDepth 50000
namespace Go.Proofs.Ytefndmjimmbhnaa
open Go.RowKit

theorem OwnX.qua {w : World} {base g n c : Nat} {l : List Hq} (h : OwnX eT w base (.slice (some ⟨g, 0, none⟩) n c) l) (j : Nat) (hj : j < l.length) : Qua w g (j * 4) l[j] := ⟨h.cell j 0 hj rfl, h.cell j 1 hj rfl, h.cell j 2 hj rfl, h.cell j 3 hj rfl⟩

/-- a function on hints that answers b, in every world that is w0 but for block g -/
def AsksH (f : Nat) (caps : Array Value) (g : Nat) (w0 : World) (L : List Hq) (b : Hq → Bool) : Prop :=
  ∀ W, But (· = g) w0 W → ∀ x ∈ L, Calls Try.prog f (#[.agg (hqEnc x).toArray] ++ caps) W fun e w' => e = .returned (.bool (b x)) ∧ Below W.heap.size W w'
def IdxH (L : List Hq) (b : Hq → Bool) (r : Int) : Prop := (r = -1 ∧ ∀ x ∈ L, b x = false) ∨ ∃ k : Nat, ∃ h : k < L.length, r = k ∧ b L[k] = true ∧ ∀ x ∈ L.take k, b x = false

set_option maxHeartbeats 1000000 in
theorem idxH_any (f : Nat) (caps : Array Value) (eg : ∀ args w, (callFunc f args).run Try.prog w = .ok (.enter f args) w) (g : Nat) (w0 : World) (L : List Hq) (b : Hq → Bool) (v : Value) (w : World) (GA : AsksH f caps g w0 L b) (hv : SlX eT w.heap.size w v L) (hB : But (· = g) w0 w) (hl : L.length ≤ 9223372036854775807) :
    Calls Try.prog 60 #[v, .func (.func f) #[] caps] w fun e w' => ∃ r, e = .returned (.int .i64 r) ∧ IdxH L b r ∧ Below w.heap.size w w' := by
  have HV := Lib.hid hv
  obtain ⟨a, cap, rfl, hc, hx⟩ := hv.ex
  have HX := Lib.hid hx; clear hx hv
  have GH := Lib.hid GA; have HB := Lib.hid hB
  clear GA hB
  go_enter Try.func60, Try.ntmps60
  go_wp2_with fail
  go_loopw [5, 8] (fun _ v8 wr => ∃ i : Nat, v8 = .int .i64 (i : Int) ∧ i ≤ L.length ∧ Hid (∀ x ∈ L.take i, b x = false) ∧ Below w.heap.size w wr) (fun _ v8 _ => L.length - (intOf v8).toNat)
  case atStart => exact ⟨0, rfl, by omega, Lib.hid (by simp), Below.refl _ _⟩
  case round =>
    obtain ⟨i, rfl, hi, HN, hb⟩ := hrel
    have HBw := Lib.hid hb; clear hb
    by_cases hlt : i < L.length
    · have hz : (i : Int) < (L.length : Int) := by omega
      obtain ⟨gl, o, rfl, hgl2, _⟩ := HX.out (by omega)
      have duo := (Qua.of HV.out i hlt).keep HBw.out
      have GI := Lib.hid (fun W hW => GH.out W hW L[i] (List.getElem_mem hlt))
      have YES := Lib.hid (fun (h : b L[i] = true) => show IdxH L b (i : Int) from .inr ⟨i, hlt, rfl, h, HN.out⟩)
      have NO := Lib.hid (fun (h : b L[i] = false) => show ∀ x ∈ L.take (i + 1), b x = false by
        rw [List.take_succ_eq_append_getElem hlt]
        intro x hx
        rcases List.mem_append.1 hx with hx | hx
        · exact HN.out x hx
        · rw [List.mem_singleton.1 hx]; exact h)
      generalize b L[i] = bi at *
      generalize L[i] = x at *
      have c0 := duo.c0; have c1 := duo.c1; have c2 := duo.c2; have c3 := duo.c3
      obtain ⟨xi, xn, xt, xa, xl, xc⟩ := x
      simp only [hqEnc] at *
      clear duo
      have CALL := Lib.hid (GI.out wr (HB.out.tail HBw.out))
      go_wp2_with fail
      refine CALL.out.mono ?_
      rintro e w1 ⟨rfl, hb⟩
      have HB1 := Lib.hid (below_tr HBw.out hb); clear hb c0 c1 c2 c3
      cases bi with
      | true =>
        go_wp2_with fail
        go_ret
        exact ⟨_, rfl, YES.out (by trivial), HB1.out⟩
      | false =>
        have N := Lib.hid (NO.out (by trivial))
        go_wp2_with fail
        exact ⟨⟨i + 1, by first | rfl | go_num, by omega, N, HB1.out⟩, by simp [intOf]; omega⟩
    · have hz : ¬ (i : Int) < (L.length : Int) := by omega
      have e : L.take i = L := List.take_of_length_le (by omega)
      have hn := HN.out
      rw [e] at hn
      have FIN := Lib.hid (show IdxH L b (-1) from .inl ⟨rfl, hn⟩)
      clear hn e HN
      go_wp2_with fail
      go_ret
      exact ⟨_, rfl, FIN.out, HBw.out⟩

theorem clearH (w : World) (g i m cap c base n : Nat) (l : List Hq) (ty : TypeId) (HO : OwnX eT w base (.slice (some ⟨g, 0, none⟩) n cap) l) (him : i + m ≤ l.length) (hm : 0 < m) :
    ∃ w', (Builtin.clear_ #[36] ty #[.slice (some ⟨g, i * 4, none⟩) m c]).run Try.prog w = .ok (.tuple #[]) w' ∧ w.grownBy w' (some g) ∧ OwnX eT w' base (.slice (some ⟨g, 0, none⟩) i cap) (l.take i) := by
  have hz : (zeroValue 64).run Try.prog w = .ok zHq w := by unfold zHq; go_simp
  have hlen : (Builtin.zeroCells zHq.cells m).toList.length = m * 4 := by rw [Array.length_toList]; simp only [Builtin.zeroCells, Array.size_map, Array.size_range]; rfl
  have hone : ∀ u ∈ (Builtin.zeroCells zHq.cells m).toList, u.oneCell' = true := by
    intro u hu
    unfold Builtin.zeroCells at hu
    simp only [Array.toList_map, List.mem_map] at hu
    obtain ⟨i, _, rfl⟩ := hu
    have e : zHq.cells.size = 4 := rfl
    rw [e]
    have h2 : i % 4 = 0 ∨ i % 4 = 1 ∨ i % 4 = 2 ∨ i % 4 = 3 := by omega
    rcases h2 with h | h | h | h <;> rw [h] <;> rfl
  have hcell : ∀ j, j < m * 4 → (w.cell? ⟨g, i * 4 + 0 + j, none⟩).isSome = true := fun j hj => by
    have hk : i + j / 4 < l.length := by omega
    have hlt : j % 4 < eT.size := Nat.mod_lt _ (by decide)
    have h10 : (hqEnc l[i + j / 4]).length = 4 := rfl
    have := HO.cell (i + j / 4) (j % 4) hk (u := (hqEnc l[i + j / 4])[j % 4]'(by rw [h10]; exact hlt)) (List.getElem?_eq_getElem _)
    rw [show (i + j / 4) * eT.size + j % 4 = i * 4 + 0 + j by show (i + j / 4) * 4 + j % 4 = _; omega] at this
    rw [this]; rfl
  have hst := run_storeCells_cells (P := Try.prog) g (i * 4) (Builtin.zeroCells zHq.cells m).toList 0 w (fun j hj => hcell j (by omega)) (fun j hj => HO.frozen _) hone
  refine ⟨w.setCells g (i * 4 + 0) (Builtin.zeroCells zHq.cells m).toList, ?_, gb_setCells _ _ _ _ (World.grownBy.refl _ _), ?_⟩
  · obtain ⟨m', rfl⟩ : ∃ m', m = m' + 1 := ⟨m - 1, by omega⟩
    unfold Builtin.clear_
    simp [run_underlying Try.underlying36, hz, hst, Result.andThen]
  · exact HO.cutTo (by omega) _

def DelH (L : List Hq) (b : Hq → Bool) (i j : Nat) (cur : List Hq) : Prop := cur.length = L.length ∧ i < j ∧ j ≤ L.length ∧ cur.take i = (L.take j).filter (fun x => !b x) ∧ cur.drop j = L.drop j
theorem DelH.start {L : List Hq} {b : Hq → Bool} {k : Nat} (h : k < L.length) (hb : b L[k] = true) (hn : ∀ x ∈ L.take k, b x = false) : DelH L b k (k + 1) L := by
  refine ⟨rfl, Nat.lt_succ_self _, h, ?_, rfl⟩
  rw [List.take_succ_eq_append_getElem h, List.filter_append, List.filter_cons_of_neg (by simp [hb]), List.filter_nil, List.append_nil]
  exact (List.filter_eq_self.2 fun x hx => by simp [hn x hx]).symm
theorem DelH.get {L cur : List Hq} {b : Hq → Bool} {i j : Nat} (h : DelH L b i j cur) (hj : j < L.length) : cur[j]'(by rw [h.1]; exact hj) = L[j] := by
  have := congrArg (fun l => l[0]?) h.2.2.2.2
  simp only [List.getElem?_drop, Nat.add_zero] at this
  rw [List.getElem?_eq_getElem (by rw [h.1]; exact hj), List.getElem?_eq_getElem hj] at this
  exact Option.some.inj this
theorem DelH.skip {L cur : List Hq} {b : Hq → Bool} {i j : Nat} (h : DelH L b i j cur) (hj : j < L.length) (hb : b L[j] = true) : DelH L b i (j + 1) cur := by
  obtain ⟨h1, h2, h3, h4, h5⟩ := h
  refine ⟨h1, by omega, hj, ?_, ?_⟩
  · rw [List.take_succ_eq_append_getElem hj, List.filter_append, List.filter_cons_of_neg (by simp [hb]), List.filter_nil, List.append_nil, h4]
  · rw [← List.drop_drop, ← List.drop_drop, h5]
theorem DelH.keep {L cur : List Hq} {b : Hq → Bool} {i j : Nat} (h : DelH L b i j cur) (hj : j < L.length) (hb : b L[j] = false) : DelH L b (i + 1) (j + 1) (cur.set i L[j]) := by
  obtain ⟨h1, h2, h3, h4, h5⟩ := h
  refine ⟨by rw [List.length_set, h1], by omega, hj, ?_, ?_⟩
  · rw [List.take_succ_eq_append_getElem hj, List.filter_append, List.filter_cons_of_pos (by simp [hb]), List.filter_nil, ← h4]
    rw [List.take_succ_eq_append_getElem (by rw [List.length_set]; omega), List.getElem_set_self, List.take_set_of_le (Nat.le_refl _)]
  · rw [List.drop_set_of_lt (by omega), ← List.drop_drop, h5, List.drop_drop]

set_option maxHeartbeats 4000000 in
theorem delH_any (f : Nat) (caps : Array Value) (eg : ∀ args w, (callFunc f args).run Try.prog w = .ok (.enter f args) w) (w0 : World) (L : List Hq) (b : Hq → Bool) (g cap base : Nat) (w : World) (GA : AsksH f caps g w0 L b)
    (HO : OwnX eT w base (.slice (some ⟨g, 0, none⟩) L.length cap) L) (hB : But (· = g) w0 w) (hl : L.length ≤ 9223372036854775807) (hcap : L.length ≤ cap) (hcap2 : cap ≤ 9223372036854775807) :
    Calls Try.prog 36 #[.slice (some ⟨g, 0, none⟩) L.length cap, .func (.func f) #[] caps] w
      fun e w' => e = .returned (.slice (some ⟨g, 0, none⟩) (L.filter (fun x => !b x)).length cap) ∧ OwnX eT w' base (.slice (some ⟨g, 0, none⟩) (L.filter (fun x => !b x)).length cap) (L.filter (fun x => !b x)) ∧ But (· = g) w w' := by
  have C1 := Lib.hid (idxH_any f caps eg g w0 L b _ w GA HO.sl hB hl)
  have HOw := Lib.hid HO; have GH := Lib.hid GA; have HB := Lib.hid hB
  obtain ⟨n, hn⟩ : ∃ n, L.length = n := ⟨_, rfl⟩
  rw [hn] at C1 HOw hl hcap ⊢
  have HN := Lib.hid hn
  have FLN := Lib.hid (show (L.filter (fun x => !b x)).length ≤ n by rw [← hn]; exact List.length_filter_le _ _)
  clear HO GA hB hn
  go_enter Try.func36, Try.ntmps36
  go_wp2_with fail
  refine C1.out.mono ?_
  rintro e w1 ⟨r, rfl, hr, hb⟩
  have O1 := Lib.hid (HOw.out.below hb); have B1 := Lib.hid (But.of_below (· = g) hb)
  clear hb C1
  rcases hr with ⟨rfl, hall⟩ | ⟨k, hk, rfl, hbk, hno⟩
  · have FIN := Lib.hid (show L.filter (fun x => !b x) = L from List.filter_eq_self.2 fun x hx => by simp [hall x hx])
    clear hall
    go_wp2_with fail
    go_ret
    exact ⟨by rw [FIN.out, HN.out]; rfl, by rw [FIN.out, HN.out]; exact O1.out, B1.out⟩
  · have ST0 := Lib.hid (DelH.start hk hbk hno)
    have hk' : k < n := by rw [← HN.out]; exact hk
    have kz : ((k : Int) == -1) = false := by first | (simp; done) | (simp; omega)
    clear hbk hno hk
    go_wp2_with fail
    clear kz
    go_loopw [5, 6, 7] (fun v5 v6 _ wr => ∃ (i j : Nat) (cur : List Hq), v5 = .int .i64 (i : Int) ∧ v6 = .int .i64 (j : Int) ∧ i < j ∧ j ≤ n ∧ Hid (DelH L b i j cur) ∧ Hid (OwnX eT wr base (.slice (some ⟨g, 0, none⟩) n cap) cur) ∧ Hid (But (· = g) w wr)) (fun _ v6 _ _ => n - (intOf v6).toNat)
    case atStart => exact ⟨k, k + 1, L, rfl, by first | rfl | go_num, by omega, hk', ST0, O1, B1⟩
    case round =>
      obtain ⟨i, j, cur, rfl, rfl, hij, hj, ST, OW, BW⟩ := hrel
      by_cases hlt : j < n
      · have hz : (j : Int) < (n : Int) := by omega
        have duo := OW.out.qua j (by rw [ST.out.1, HN.out]; exact hlt)
        rw [ST.out.get (by rw [HN.out]; exact hlt)] at duo
        obtain ⟨y, tnf⟩ : ∃ y, Qua wr g (i * 4) y := ⟨_, OW.out.qua i (by rw [ST.out.1, HN.out]; omega)⟩
        have CALL := Lib.hid (fun W hW => GH.out W hW (L[j]'(by rw [HN.out]; exact hlt)) (List.getElem_mem _))
        have SK := Lib.hid (fun h => ST.out.skip (by rw [HN.out]; exact hlt) h)
        have KP := Lib.hid (fun h => ST.out.keep (by rw [HN.out]; exact hlt) h)
        have PUT := Lib.hid (fun W (hW : Below wr.heap.size wr W) => (OW.out.below hW).put i (by rw [ST.out.1, HN.out]; omega) (L[j]'(by rw [HN.out]; exact hlt)))
        have TNF := Lib.hid tnf
        generalize b (L[j]'_) = bj at *
        generalize (L[j]'_) = x at *
        have c0 := duo.c0; have c1 := duo.c1; have c2 := duo.c2; have c3 := duo.c3
        obtain ⟨xi, xn, xt, xa, xl, xc⟩ := x
        simp only [hqEnc] at *
        have BK := Lib.hid (Blk.new wr 64 #[.int .i64 xi, .int .i64 xn, .int .i64 xt, .slice xa xl xc])
        have BW2 := Lib.hid (below_alloc (Below.refl _ wr) (.cells #[.int .i64 xi, .int .i64 xn, .int .i64 xt, .slice xa xl xc] 64))
        have CALL2 := Lib.hid (CALL.out (wr.alloc (.cells #[.int .i64 xi, .int .i64 xn, .int .i64 xt, .slice xa xl xc] 64)) ((HB.out.trans BW.out).tail BW2.out))
        clear duo
        go_wp2_with fail
        clear c0 c1 c2 c3 tnf
        generalize hW1 : wr.alloc (.cells #[.int .i64 xi, .int .i64 xn, .int .i64 xt, .slice xa xl xc] 64) = W1 at *
        clear hW1
        refine CALL2.out.mono ?_
        rintro e w2 ⟨rfl, hb⟩
        have BG := Lib.hid (below_tr BW2.out hb)
        have BX := Lib.hid (BK.out.below hb)
        clear hb
        have f0 := BX.out.cell 0 rfl; have f1 := BX.out.cell 1 rfl; have f2 := BX.out.cell 2 rfl; have f3 := BX.out.cell 3 rfl
        have BB := Lib.hid (BW.out.tail BG.out)
        cases bj with
        | true =>
          have S2 := Lib.hid (SK.out (by trivial))
          have O2 := Lib.hid (OW.out.below BG.out)
          clear SK KP f0 f1 f2 f3
          go_wp2_with fail
          exact ⟨⟨i, j + 1, cur, rfl, by first | rfl | go_num, by omega, hlt, S2, O2, BB⟩, by simp [intOf]; omega⟩
        | false =>
          have S2 := Lib.hid (KP.out (by trivial))
          have TN2 := TNF.out.keep BG.out
          have O2 := Lib.hid (OW.out.below BG.out)
          have fz := O2.out.frozen
          have ib : (i : Int) < (n : Int) := by omega
          clear SK KP
          have m0 := TN2.c0; have m1 := TN2.c1; have m2 := TN2.c2; have m3 := TN2.c3
          clear TN2
          go_upto_region 10 with (fail)
          refine wp_forget (fun w3 => OwnX eT w3 base (.slice (some ⟨g, 0, none⟩) n cap) (cur.set i (⟨xi, xn, xt, xa, xl, xc⟩ : Hq)) ∧ w2.grownBy w3 (some g)) (PUT.out _ BG.out) ?_
          rintro w3 ⟨hO3, hg3⟩
          have O3 := Lib.hid hO3
          have B3 := Lib.hid (BB.out.trans (But.of_grown hg3))
          clear hO3 hg3 m0 m1 m2 m3 f0 f1 f2 f3 fz
          go_wp2_with fail
          exact ⟨⟨i + 1, j + 1, _, by first | rfl | go_num, by first | rfl | go_num, by omega, hlt, S2, O3, B3⟩, by simp [intOf]; omega⟩
      · have hz : ¬ (j : Int) < (n : Int) := by omega
        obtain rfl : j = n := by omega
        obtain ⟨m, hm⟩ : ∃ m, j - i = m := ⟨_, rfl⟩
        obtain ⟨m2, hm2⟩ : ∃ m, cap - i = m := ⟨_, rfl⟩
        obtain ⟨w3, hr, hg3, hO3⟩ := clearH wr g i m cap m2 base j cur 0 OW.out (by rw [ST.out.1, HN.out]; omega) (by omega)
        have hlen : (L.filter (fun x => !b x)).length = i := by
          have := congrArg List.length ST.out.2.2.2.1
          rw [List.length_take, ST.out.1, HN.out, show L.take j = L by rw [← HN.out]; exact List.take_length] at this
          omega
        have hfl : cur.take i = L.filter (fun x => !b x) := by rw [ST.out.2.2.2.1, show L.take j = L by rw [← HN.out]; exact List.take_length]
        have ib : (i : Int) ≤ (j : Int) := by omega
        have ic : (i : Int) ≤ (cap : Int) := by omega
        have ib2 : (0 : Int) ≤ (i : Int) := by omega
        have jc : (j : Int) ≤ (cap : Int) := by omega
        have B3 := Lib.hid (BW.out.trans (But.of_grown hg3))
        rw [hfl] at hO3
        have O3 := Lib.hid hO3; have HLEN := Lib.hid hlen
        clear hg3 hO3 hfl hlen
        go_wp2_with fail
        go_ret
        exact ⟨by rw [HLEN.out]; rfl, by rw [HLEN.out]; exact O3.out, B3.out⟩
end Go.Proofs.Ytefndmjimmbhnaa
end

section
set_option linter.unusedVariables false
set_option linter.unusedSimpArgs false
set_option maxRecDepth 50000
namespace Go.Proofs.Ytefndmjimmbhnaa
open Go.RowKit Go.Shelf

theorem hcloneC (v : Value) (L : List Cel) (w : World) (HV : SlX eC w.heap.size w v L) (hl : L.length ≤ 1000000000000) :
    Calls Try.prog 28 #[v] w fun e w' => ∃ v', e = .returned v' ∧ OwnX eC w' w.heap.size v' L ∧ Below w.heap.size w w' := by
  obtain ⟨a, c, rfl, hc, hx⟩ := HV.ex
  have q22 : ∀ (w : World), (binOp .eql 26 (.slice a L.length c) (.slice none 0 0)).run Try.prog w = .ok (.bool a.isNone) w := fun w => Lib.run_eql_slice_nil w _ _ _ L.length c 0 0 Try.underlying26
  have H0 := Lib.hid (OwnX.lit (E := eC) w w.heap.size #[] [] 0 (Nat.le_refl _) rfl (by simp) rfl)
  have HB0 := Lib.hid (below_alloc (Below.refl _ w) (.cells #[] 62))
  have HVa := Lib.hid (HV.below HB0.out)
  have hlx : ([] : List Cel).length + L.length ≤ 9223372036854775807 := by simp; omega
  have hly : (([] : List Cel).length + L.length) * eC.bytes ≤ 140737488355328 := by show (_ + _) * 112 ≤ _; simp; omega
  have HX := Lib.hid hx
  clear HV hx
  cases a with
  | none =>
    have h0 : L = [] := by
      rcases Nat.eq_zero_or_pos L.length with h | h
      · exact List.eq_nil_of_length_eq_zero h
      · obtain ⟨g, o, e, _⟩ := HX.out h; cases e
    subst h0
    clear hlx hly
    simp only [Option.isNone_none, List.length_nil] at q22 ⊢
    go_enter Try.func28, Try.ntmps28
    go_wp2_with fail
    go_ret
    exact ⟨_, rfl, OwnX.nil _ _, Below.refl _ _⟩
  | some ad =>
    simp only [Option.isNone_some] at q22
    go_enter Try.func28, Try.ntmps28
    go_wp2_with (at_builtin; go_must (refine ap_x (E := eC) rfl (.tmp 5) (.tmp 6) rfl w.heap.size (.slice (some ⟨w.heap.size, 0, none⟩) 0 0) [] w.heap.size _ L rfl rfl HVa.out H0.out HB0.out HB0.out.size hlx hly ?_); intro v2 w2 hO2 hB2 hz2 _)
    go_ret
    exact ⟨v2, rfl, hO2, hB2⟩
theorem hcloneT (v : Value) (L : List Hq) (w : World) (HV : SlX eT w.heap.size w v L) (hl : L.length ≤ 1000000000000) :
    Calls Try.prog 30 #[v] w fun e w' => ∃ v', e = .returned v' ∧ OwnX eT w' w.heap.size v' L ∧ Below w.heap.size w w' := by
  obtain ⟨a, c, rfl, hc, hx⟩ := HV.ex
  have q22 : ∀ (w : World), (binOp .eql 36 (.slice a L.length c) (.slice none 0 0)).run Try.prog w = .ok (.bool a.isNone) w := fun w => Lib.run_eql_slice_nil w _ _ _ L.length c 0 0 Try.underlying36
  have H0 := Lib.hid (OwnX.lit (E := eT) w w.heap.size #[] [] 0 (Nat.le_refl _) rfl (by simp) rfl)
  have HB0 := Lib.hid (below_alloc (Below.refl _ w) (.cells #[] 64))
  have HVa := Lib.hid (HV.below HB0.out)
  have hlx : ([] : List Hq).length + L.length ≤ 9223372036854775807 := by simp; omega
  have hly : (([] : List Hq).length + L.length) * eT.bytes ≤ 140737488355328 := by show (_ + _) * 48 ≤ _; simp; omega
  have HX := Lib.hid hx
  clear HV hx
  cases a with
  | none =>
    have h0 : L = [] := by
      rcases Nat.eq_zero_or_pos L.length with h | h
      · exact List.eq_nil_of_length_eq_zero h
      · obtain ⟨g, o, e, _⟩ := HX.out h; cases e
    subst h0
    clear hlx hly
    simp only [Option.isNone_none, List.length_nil] at q22 ⊢
    go_enter Try.func30, Try.ntmps30
    go_wp2_with fail
    go_ret
    exact ⟨_, rfl, OwnX.nil _ _, Below.refl _ _⟩
  | some ad =>
    simp only [Option.isNone_some] at q22
    go_enter Try.func30, Try.ntmps30
    go_wp2_with (at_builtin; go_must (refine ap_x (E := eT) rfl (.tmp 5) (.tmp 6) rfl w.heap.size (.slice (some ⟨w.heap.size, 0, none⟩) 0 0) [] w.heap.size _ L rfl rfl HVa.out H0.out HB0.out HB0.out.size hlx hly ?_); intro v2 w2 hO2 hB2 hz2 _)
    go_ret
    exact ⟨v2, rfl, hO2, hB2⟩
end Go.Proofs.Ytefndmjimmbhnaa
end
