/- The state of the table's Open in its loop. No program is walked; no condition. Plain laws: how long a table's file is, of cells that weigh so much. No program in sight; no condition. Contract of cell.Find. Condition: the row's own bounds. -/
import Derived.Test.YtplghaoflmaadaaGreatDoorZ25
import Derived.Test.YtplghaoflmaadaaGreatDoorZ05
import Derived.Test.YtplghaoflmaadaaGreatDoorZ23
section
set_option linter.unusedVariables false
set_option linter.unusedSimpArgs false
set_option maxRecDepth 50000
namespace Go.Proofs.YtplghaoflmaadaaGreatDoor
open Go.RowKit

theorem SlX.grownX {α : Type} {E : El α} {B : Nat} {w w1 : World} {v : Value} {l : List α} (h : SlX E B w v l) {row : Option Nat} (hg : w.grownBy w1 row) (hB : B ≤ w.heap.size) (hne : ∀ ad n c, v = .slice (some ad) n c → some ad.block ≠ row) : SlX E B w1 v l := by
  obtain ⟨a, c, rfl, hc, hx⟩ := h.ex
  refine ⟨a, c, rfl, hc, fun h0 => ?_⟩
  obtain ⟨g, o, rfl, hgB, hcell⟩ := hx h0
  refine ⟨g, o, rfl, hgB, fun j u hj => ?_⟩
  rw [World.cell?_of_block (hg.block g (by omega) (hne _ _ _ rfl))]
  exact hcell j u hj
theorem Lists.grown {w w1 : World} {hs : List Hd} {ls : List (List Cel)} (h : Lists w hs ls) {row : Option Nat} (hg : w.grownBy w1 row) (hne : ∀ x ∈ hs, ∀ ad, x.a = some ad → some ad.block ≠ row) : Lists w1 hs ls :=
  ⟨h.len, fun i h1 h2 => ⟨((h.at_ i h1 h2).1.grownX hg (Nat.le_refl _) (fun ad n c e => hne hs[i] (List.getElem_mem h1) ad (by unfold Hd.val at e; injection e))).up hg.size, (h.at_ i h1 h2).2⟩⟩
theorem Lists.snoc {w : World} {hs : List Hd} {ls : List (List Cel)} (h : Lists w hs ls) (x : Hd) (l : List Cel) (hx : SlX eC w.heap.size w x.val l) (hr : Room l.length) : Lists w (hs ++ [x]) (ls ++ [l]) := by
  refine ⟨by simp [h.len], fun i h1 h2 => ?_⟩
  by_cases hi : i < hs.length
  · have hi2 : i < ls.length := by rw [← h.len]; exact hi
    rw [List.getElem_append_left hi, List.getElem_append_left hi2]
    exact h.at_ i hi hi2
  · have e : i = hs.length := by simp at h1; omega
    subst e
    rw [List.getElem_append_right (Nat.le_refl _), List.getElem_append_right (by rw [h.len]; exact Nat.le_refl _)]
    simp only [h.len, Nat.sub_self, List.getElem_cons_zero]
    exact ⟨hx, hr⟩
theorem Lists.nil (w : World) : Lists w [] [] := ⟨rfl, fun i h1 h2 => by simp at h1⟩
theorem OwnX.apart {α β : Type} {E : El α} {F : El β} {w : World} {b b' : Nat} {v u : Value} {l : List α} {m : List β} (h1 : OwnX E w b v l) (h2 : OwnX F w b' u m) (hne : E.t ≠ F.t) : v.ownBlock = none ∨ v.ownBlock ≠ u.ownBlock := by
  rcases h1.2 with ⟨rfl, _⟩ | ⟨g, c, cur, rfl, _, hgb, _⟩
  · exact .inl rfl
  · refine .inr (fun e => ?_)
    have hb : Blk w g E.t cur := hgb
    exact hb.ne_own h2 hne e
/-- The state between two rounds: tg is the table. -/
structure OS (w : World) (tg : Nat) (wr : World) (hv av : Value) (hs : List Hd) (bs : List (List Cel)) (L : List Cel) : Prop where
  tb : Blk wr tg 43 #[hv, .pointer none, .int .i64 0]
  oh : OwnX eH wr tg hv hs
  oa : OwnX eC wr tg av L
  ls : Lists wr hs bs
  sep : ∀ x ∈ hs, ∀ ad, x.a = some ad → ad.block < wr.heap.size ∧ ad.block ≠ tg ∧ hv.ownBlock ≠ some ad.block ∧ av.ownBlock ≠ some ad.block
  bel : Below tg w wr
section
variable {w wr wr' : World} {tg : Nat} {hv av : Value} {hs : List Hd} {bs : List (List Cel)} {L : List Cel}
theorem OS.below (h : OS w tg wr hv av hs bs L) (hb : Below wr.heap.size wr wr') : OS w tg wr' hv av hs bs L :=
  ⟨h.tb.below hb, h.oh.below hb, h.oa.below hb, h.ls.keep hb, fun x hx ad e => ⟨Nat.lt_of_lt_of_le (h.sep x hx ad e).1 hb.size, (h.sep x hx ad e).2⟩, h.bel.trans (hb.mono (Nat.le_of_lt h.tb.lt))⟩
theorem growV_ne {W W' : World} {v v' : Value} (hg : GrowV W W' v v') {k : Nat} (hk : k < W.heap.size) (hne : v.ownBlock ≠ some k) : v'.ownBlock ≠ some k := by
  intro e
  rcases hg.2 with h0 | h0
  · exact hne (by rw [← h0]; exact e)
  · have := h0 k e; omega
/-- all grows -/
theorem OS.more (h : OS w tg wr hv av hs bs L) {av' : Value} {l : List Cel} (hO : OwnX eC wr' tg av' (L ++ l)) (hg : GrowV wr wr' av av') : OS w tg wr' hv av' hs bs (L ++ l) := by
  refine ⟨h.tb.grown hg.1 (h.tb.ne_own h.oa (by decide)), h.oh.grown hg.1 (h.oh.apart h.oa (by decide)), hO, h.ls.grown hg.1 (fun x hx ad e => Ne.symm (h.sep x hx ad e).2.2.2), ?_, h.bel.trans (hg.below (Nat.le_of_lt h.tb.lt) h.oa.base)⟩
  intro x hx ad e
  obtain ⟨s1, s2, s3, s4⟩ := h.sep x hx ad e
  exact ⟨Nat.lt_of_lt_of_le s1 hg.1.size, s2, s3, growV_ne hg s1 s4⟩
/-- one list more -/
theorem OS.heads (h : OS w tg wr hv av hs bs L) {hv' : Value} {x : Hd} {g : Nat} {l : List Cel} (hx : x.a = some ⟨g, 0, none⟩) (hxl : SlX eC wr.heap.size wr x.val l) (hr : Room l.length) (hgl : g < wr.heap.size) (hgt : g ≠ tg) (hgh : hv.ownBlock ≠ some g) (hga : av.ownBlock ≠ some g)
    (hO : OwnX eH wr' tg hv' (hs ++ [x])) (hg : GrowV wr wr' hv hv') : Blk wr' tg 43 #[hv, .pointer none, .int .i64 0] ∧ OS w tg (wr'.setCell ⟨tg, 0, none⟩ hv') hv' av (hs ++ [x]) (bs ++ [l]) L ∧ SlX eC (wr'.setCell ⟨tg, 0, none⟩ hv').heap.size (wr'.setCell ⟨tg, 0, none⟩ hv') x.val l := by
  have tb' : Blk wr' tg 43 #[hv, .pointer none, .int .i64 0] := h.tb.grown hg.1 (h.tb.ne_own h.oh (by decide))
  have hs' : wr'.heap.size = (wr'.setCell ⟨tg, 0, none⟩ hv').heap.size := by simp
  have gs := Lib.grownBy_setCell wr' tg 0 hv'
  have oa' : OwnX eC wr' tg av L := h.oa.grown hg.1 (h.oa.apart h.oh (by decide))
  have ls' : Lists wr' (hs ++ [x]) (bs ++ [l]) := by
    refine (h.ls.snoc x l hxl hr).grown hg.1 (fun y hy ad e => ?_)
    rcases List.mem_append.1 hy with hy | hy
    · exact Ne.symm (h.sep y hy ad e).2.2.1
    · obtain rfl := List.mem_singleton.1 hy
      rw [hx] at e; injection e with e; subst e
      exact Ne.symm hgh
  have sep' : ∀ y ∈ hs ++ [x], ∀ ad, y.a = some ad → ad.block < wr.heap.size ∧ ad.block ≠ tg ∧ hv.ownBlock ≠ some ad.block ∧ av.ownBlock ≠ some ad.block := by
    intro y hy ad e
    rcases List.mem_append.1 hy with hy | hy
    · exact h.sep y hy ad e
    · obtain rfl := List.mem_singleton.1 hy
      rw [hx] at e; injection e with e; subst e
      exact ⟨hgl, hgt, hgh, hga⟩
  have lsN : Lists (wr'.setCell ⟨tg, 0, none⟩ hv') (hs ++ [x]) (bs ++ [l]) := ls'.grown gs (fun y hy ad e e2 => by
    injection e2 with e2
    exact (sep' y hy ad e).2.1 e2)
  refine ⟨tb', ⟨tb'.put 0 hv', hO.grown gs (.inr (Ne.symm (tb'.ne_own hO (by decide)))), oa'.grown gs (.inr (Ne.symm (tb'.ne_own oa' (by decide)))), lsN, ?_, ?_⟩, ?_⟩
  · intro y hy ad e
    obtain ⟨s1, s2, s3, s4⟩ := sep' y hy ad e
    exact ⟨by rw [← hs']; exact Nat.lt_of_lt_of_le s1 hg.1.size, s2, growV_ne hg s1 s3, s4⟩
  · exact (h.bel.trans (hg.below (Nat.le_of_lt h.tb.lt) h.oh.base)).setCell (p := ⟨tg, 0, none⟩) (Nat.le_refl _) _
  · have hl := h.ls.len
    have := (lsN.at_ hs.length (by simp) (by simp [hl])).1
    rw [List.getElem_append_right (Nat.le_refl _), List.getElem_append_right (by rw [hl]; exact Nat.le_refl _)] at this
    simpa only [hl, Nat.sub_self, List.getElem_cons_zero] using this
end
/-- an opened table: its blocks, filter and number -/
structure Tb (W : World) (g : Nat) (bs : List (List Cel)) : Prop where
  ex : ∃ hv gf hs, Blk W g 43 #[hv, .pointer (some ⟨gf, 0, none⟩), .int .i64 (bs.flatten.length : Int)] ∧ SlX eH W.heap.size W hv hs ∧ Lists W hs bs ∧ FlT 124 W.heap.size W gf 7 (bitsL bs.flatten)
  ok : OkT bs.flatten
  ch : bs = chunk8 bs.flatten
theorem Tb.keep {W W' : World} {g : Nat} {bs : List (List Cel)} (h : Tb W g bs) (hb : Below W.heap.size W W') : Tb W' g bs := by
  obtain ⟨hv, gf, hs, h1, h2, h3, h4⟩ := h.ex
  exact ⟨⟨hv, gf, hs, h1.below hb, h2.keep hb, h3.keep hb, h4.keep hb⟩, h.ok, h.ch⟩
theorem Tb.ne {W : World} {g : Nat} {bs : List (List Cel)} (h : Tb W g bs) : ∀ b ∈ bs, 0 < b.length := fun b hb => by
  rw [h.ch] at hb
  exact (chunk8_mem _ _ (Nat.le_refl _) b hb).1
theorem flatten_len : ∀ bs : List (List Cel), (∀ b ∈ bs, 0 < b.length) → bs.length ≤ bs.flatten.length
  | [], _ => Nat.le_refl _
  | b :: bs, h => by
    have h1 := h b (List.mem_cons_self ..)
    have h2 := flatten_len bs (fun x hx => h x (List.mem_cons_of_mem _ hx))
    rw [List.flatten_cons, List.length_append, List.length_cons]; omega
theorem Tb.few {W : World} {g : Nat} {bs : List (List Cel)} (h : Tb W g bs) : bs.length ≤ 20000 := Nat.le_trans (flatten_len bs h.ne) h.ok.most
theorem Tb.pos {W : World} {g : Nat} {bs : List (List Cel)} (h : Tb W g bs) : 0 < bs.length := by
  rcases Nat.eq_zero_or_pos bs.length with e | e
  · have := List.length_eq_zero_iff.1 e
    subst this
    have := h.ok.pos
    simp at this
  · exact e
theorem FlU.set {T : TypeId} {base : Nat} {W : World} {g k : Nat} {bits : List UInt8} (h : FlU T base W g k bits) {tg i : Nat} (ht : tg < base) (u : Value) : FlU T base (W.setCell ⟨tg, i, none⟩ u) g k bits := by
  obtain ⟨gb, cb, h1, h2⟩ := h.ex
  refine ⟨⟨gb, cb, h1.far (by have := h.hg; simp; omega) u, own_eB.1 ((own_eB.2 h2).grown (Lib.grownBy_setCell W tg i u) (.inr (fun e => by have := OwnX.base (own_eB.2 h2) tg e; omega)))⟩, h.hg, h.k0, h.k1, h.b0, h.b1⟩
theorem OS.done {w wr : World} {tg : Nat} {hv av : Value} {hs : List Hd} {bs : List (List Cel)} {L : List Cel} (h : OS w tg wr hv av hs bs L) {base gf : Nat} (hf : FlU 124 base wr gf 7 (bitsL L)) (hbase : tg < base) (hL : L = bs.flatten) (hok : OkT L) (hch : bs = chunk8 L) :
    Tb ((wr.setCell ⟨tg, 2, none⟩ (.int .i64 (L.length : Int))).setCell ⟨tg, 1, none⟩ (.pointer (some ⟨gf, 0, none⟩))) tg bs ∧ Below tg w ((wr.setCell ⟨tg, 2, none⟩ (.int .i64 (L.length : Int))).setCell ⟨tg, 1, none⟩ (.pointer (some ⟨gf, 0, none⟩))) := by
  have gs1 := Lib.grownBy_setCell wr tg 2 (.int .i64 (L.length : Int))
  have gs2 := Lib.grownBy_setCell (wr.setCell ⟨tg, 2, none⟩ (.int .i64 (L.length : Int))) tg 1 (.pointer (some ⟨gf, 0, none⟩))
  have b1 : Blk (wr.setCell ⟨tg, 2, none⟩ (.int .i64 (L.length : Int))) tg 43 #[hv, .pointer none, .int .i64 (L.length : Int)] := h.tb.put 2 _
  have o1 : OwnX eH (wr.setCell ⟨tg, 2, none⟩ (.int .i64 (L.length : Int))) tg hv hs := h.oh.grown gs1 (.inr (Ne.symm (h.tb.ne_own h.oh (by decide))))
  have hsep : ∀ x ∈ hs, ∀ ad, x.a = some ad → some ad.block ≠ some tg := fun x hx ad e e2 => by
    injection e2 with e2
    exact (h.sep x hx ad e).2.1 e2
  have l1 := h.ls.grown gs1 hsep
  have b2 : Blk ((wr.setCell ⟨tg, 2, none⟩ (.int .i64 (L.length : Int))).setCell ⟨tg, 1, none⟩ (.pointer (some ⟨gf, 0, none⟩))) tg 43 #[hv, .pointer (some ⟨gf, 0, none⟩), .int .i64 (L.length : Int)] := b1.put 1 _
  have o2 := o1.grown gs2 (.inr (Ne.symm (b1.ne_own o1 (by decide))))
  have l2 := l1.grown gs2 hsep
  have f2 := (((hf.set (i := 2) hbase (.int .i64 (L.length : Int))).set (i := 1) hbase (.pointer (some ⟨gf, 0, none⟩)))).r
  refine ⟨⟨⟨hv, gf, hs, ?_, OwnX.sl o2, l2, ?_⟩, ?_, ?_⟩, ?_⟩
  · rw [← hL]; exact b2
  · rw [← hL]; exact f2
  · rw [← hL]; exact hok
  · rw [← hL]; exact hch
  · exact (h.bel.setCell (p := ⟨tg, 2, none⟩) (Nat.le_refl _) _).setCell (p := ⟨tg, 1, none⟩) (Nat.le_refl _) _
end Go.Proofs.YtplghaoflmaadaaGreatDoor
end

section
set_option linter.unusedVariables false
set_option linter.unusedSimpArgs false
set_option maxRecDepth 50000
namespace Go.Proofs.YtplghaoflmaadaaGreatDoor

/-- the letters of a cell; what it weighs -/
def txtC (c : Cel) : Nat := c.k.t.size + c.k.p.size + c.k.c.size + c.v.s.size
def wC (c : Cel) : Nat := 1 + txtC c / 20
def txtL (L : List Cel) : Nat := (L.map txtC).sum
def wt (L : List Cel) : Nat := (L.map wC).sum
theorem wt_snoc (L : List Cel) (c : Cel) : wt (L ++ [c]) = wt L + wC c := by simp [wt]
theorem wt_txt : ∀ L : List Cel, txtL L + L.length ≤ 20 * wt L
  | [] => by simp [txtL, wt]
  | c :: L => by
    have ih := wt_txt L
    simp only [txtL, wt, List.map_cons, List.sum_cons, List.length_cons] at *
    have : wC c = 1 + txtC c / 20 := rfl
    omega
theorem wt_len : ∀ L : List Cel, L.length ≤ wt L
  | [] => Nat.zero_le _
  | c :: L => by
    have ih := wt_len L
    simp only [wt, List.map_cons, List.sum_cons, List.length_cons] at *
    have : wC c = 1 + txtC c / 20 := rfl
    omega
theorem txt_mem {L : List Cel} {c : Cel} (h : c ∈ L) : txtC c ≤ txtL L := by
  induction L with
  | nil => simp at h
  | cons a L ih =>
    simp only [txtL, List.map_cons, List.sum_cons] at *
    rcases List.mem_cons.1 h with rfl | h
    · omega
    · have := ih h; omega
theorem txtL_app (A B : List Cel) : txtL (A ++ B) = txtL A + txtL B := by simp [txtL]
theorem put64 (u : Nat) (h : u < 18446744073709551616) : (putL u).length ≤ 10 := putL_len 9 u (by omega)
theorem cellL_most (c : Cel) (hi : CelIn c) (ht : txtC c < 1000000) : (cellL c).length ≤ txtC c + 110 := by
  unfold txtC at *
  have h1 := textL_len c.k.t.toList (by rw [str_len]; omega)
  have h2 := textL_len c.k.p.toList (by rw [str_len]; omega)
  have h3 := textL_len c.k.c.toList (by rw [str_len]; omega)
  have h4 := textL_len c.v.s.toList (by rw [str_len]; omega)
  rw [str_len] at h1 h2 h3 h4
  have h5 := put64 _ (zigN_lt _ hi.row)
  have h6 := put64 _ (zigN_lt _ hi.time)
  have h7 := put64 _ (zigN_lt _ hi.loc)
  have h8 := put64 _ (zigN_lt _ hi.num)
  have h9 := put64 _ (u64N_lt c.v.kind)
  unfold cellL verL
  cases c.v.dead <;> simp only [List.length_append, List.length_cons, List.length_nil, if_true, if_false, Bool.false_eq_true] <;> omega
theorem flat_most : ∀ L : List Cel, (∀ c ∈ L, CelIn c) → (∀ c ∈ L, txtC c < 1000000) → (L.flatMap cellL).length ≤ txtL L + 110 * L.length
  | [], _, _ => by simp [txtL]
  | c :: L, h1, h2 => by
    have ih := flat_most L (fun x hx => h1 x (List.mem_cons_of_mem _ hx)) (fun x hx => h2 x (List.mem_cons_of_mem _ hx))
    have := cellL_most c (h1 c (List.mem_cons_self ..)) (h2 c (List.mem_cons_self ..))
    rw [List.flatMap_cons, List.length_append, List.length_cons]
    simp only [txtL, List.map_cons, List.sum_cons] at *
    omega
theorem entries_len2 : ∀ bs : List (List Cel), (∀ b ∈ bs, 0 < b.length ∧ (b.flatMap cellL).length ≤ 120000 ∧ b.length ≤ 1000) → (bs.flatMap entryL).length ≤ 2 * txtL bs.flatten + 20 * bs.length
  | [], _ => by simp
  | b :: bs, h => by
    have ih := entries_len2 bs (fun x hx => h x (List.mem_cons_of_mem _ hx))
    obtain ⟨h1, h2, h2b⟩ := h b (List.mem_cons_self ..)
    have h3 := cellsL_len b (by omega)
    rw [List.flatMap_cons, List.length_append, List.flatten_cons, txtL_app, List.length_cons, entry_head b h1]
    have h4 := kyL_len b[0].k
    have h5 := cellL_least b[0]
    have h6 := flat_mem (show b[0] ∈ b from List.getElem_mem h1)
    have h9 := txt_mem (show b[0] ∈ b from List.getElem_mem h1)
    unfold txtC at h9
    have h7 : (textL (kyL b[0].k)).length ≤ (kyL b[0].k).length + 3 := by
      have := putL_len3 (kyL b[0].k).length (by omega)
      unfold textL; rw [List.length_append]; omega
    have h8 := putL_len3 (frameL (cellsL b)).length (by rw [frameL_length _ (by omega)]; omega)
    rw [List.length_append]
    omega
theorem chunk8_len (L : List Cel) : (chunk8 L).length = (L.length + 7) / 8 := by
  rw [chunk8_get L.length L (Nat.le_refl _) _ rfl]; simp
theorem fit_light {L : List Cel} (hi : ∀ c ∈ L, CelIn c) (hw : wt L ≤ 400) : FitT L ∧ (∀ c ∈ L, CelT c) ∧ L.length ≤ 400 ∧ (L.flatMap cellL).length ≤ 60000 := by
  have h1 := wt_txt L
  have h0 := wt_len L
  have h2 : ∀ c ∈ L, txtC c ≤ 8000 := fun c hc => by have := txt_mem hc; omega
  have h3 := flat_most L hi (fun c hc => by have := h2 c hc; omega)
  have hct : ∀ c ∈ L, CelT c := fun c hc => by
    have := h2 c hc
    unfold txtC at this
    refine ⟨?_, ?_, ?_, ?_⟩ <;> simp only [maxLen] <;> omega
  refine ⟨⟨hi, hct, fun c hc => ?_, by omega, index_fit L (by omega)⟩, hct, by omega, by omega⟩
  have := h2 c hc
  unfold txtC at this
  omega
theorem tab_light {L : List Cel} (hi : ∀ c ∈ L, CelIn c) (hw : wt L ≤ 400) : (tableL L).length ≤ 120000 := by
  obtain ⟨hf, _, hN, hfl⟩ := fit_light hi hw
  have h1 := wt_txt L
  have hch : ∀ b ∈ chunk8 L, 0 < b.length ∧ b.length ≤ 8 ∧ (b.flatMap cellL).length ≤ 120000 := fun b hb => by
    obtain ⟨a1, a2, _⟩ := chunk8_mem L.length L (Nat.le_refl _) b hb
    rw [chunk8_get L.length L (Nat.le_refl _) _ rfl] at hb
    obtain ⟨k, _, rfl⟩ := List.mem_map.1 hb
    exact ⟨a1, a2, by have := ckL_flat L k; omega⟩
  have hb := blocks_len (chunk8 L) (fun b hb => ⟨by have := (hch b hb).2.1; omega, (hch b hb).2.2⟩)
  rw [chunk8_flat L.length L (Nat.le_refl _)] at hb
  have he := entries_len2 (chunk8 L) (fun b hb => ⟨(hch b hb).1, (hch b hb).2.2, by have := (hch b hb).2.1; omega⟩)
  rw [chunk8_flat L.length L (Nat.le_refl _)] at he
  have hcl := chunk8_len L
  have hfi := filtF_length (L.map fun c => kyL c.k)
  have hp1 := put64 (chunk8 L).length (by omega)
  have hp2 := put64 (bitsL L).length (by unfold bitsL; rw [hfi]; simp; omega)
  have hp3 := put64 7 (by decide)
  have hx : (indexL L).length ≤ 262144 := hf.idx
  have hfl2 : (filtL L).length ≤ 10 + 10 + (bitsL L).length := by unfold filtL; simp only [List.length_append]; omega
  have hbl : (bitsL L).length ≤ 600 := by unfold bitsL; rw [hfi]; simp; omega
  have hil : (indexL L).length ≤ 10 + ((chunk8 L).flatMap entryL).length := by rw [indexL_eq, List.length_append]; omega
  have hel := endL_len L (by omega) (by omega) hx
  have f1 := frameL_length (indexL L) hx
  have f2 := frameL_length (filtL L) (by omega)
  have f3 := frameL_length (endL L) (by omega)
  unfold tableL outL blocksL
  simp only [List.length_append, List.length_cons, List.length_nil]
  omega
end Go.Proofs.YtplghaoflmaadaaGreatDoor
end

section
set_option linter.unusedVariables false
set_option linter.unusedSimpArgs false
set_option maxRecDepth 50000
namespace Go.Proofs.YtplghaoflmaadaaGreatDoor
open Go.RowKit Go.Sort
open Go.Lib hiding intOf

def findC (L : List Cel) (k : Ky) : Option Vr := (L.find? fun c => decide (c.k = k)).map (·.v)
def zVr : Vr := ⟨0, false, 0, 0, 0, ⟨#[]⟩⟩
def findV (L : List Cel) (k : Ky) : Vr := (findC L k).getD zVr
theorem findC_none {L : List Cel} {k : Ky} (h : ∀ x ∈ L, decide (x.k = k) = false) : findC L k = none := by
  unfold findC
  rw [List.find?_eq_none.2 (fun x hx => by simp [h x hx])]; rfl
theorem findC_at {L : List Cel} {k : Ky} {i : Nat} (h : i < L.length) (hb : decide (L[i].k = k) = true) (hn : ∀ x ∈ L.take i, decide (x.k = k) = false) : findC L k = some L[i].v := by
  unfold findC
  have e : L = L.take i ++ L[i] :: L.drop (i + 1) := by rw [← List.drop_eq_getElem_cons h, List.take_append_drop]
  have : L.find? (fun c => decide (c.k = k)) = some L[i] := by
    conv => lhs; rw [e]
    rw [List.find?_append, List.find?_eq_none.2 (fun x hx => by simp [hn x hx]), List.find?_cons_of_pos (p := fun c : Cel => decide (c.k = k)) hb]; rfl
  rw [this]; rfl
theorem findClo_any (c : Cel) (k : Ky) (gk : Nat) (w : World) (h0 : w.cell? ⟨gk, 0, none⟩ = some (.string k.t)) (h1 : w.cell? ⟨gk, 1, none⟩ = some (.string k.p)) (h2 : w.cell? ⟨gk, 2, none⟩ = some (.int .i64 k.r)) (h3 : w.cell? ⟨gk, 3, none⟩ = some (.string k.c)) :
    Calls Tryz.prog 100 #[.agg (celEnc c).toArray, .pointer (some ⟨gk, 0, none⟩)] w fun e w' => e = .returned (.bool (decide (c.k = k))) ∧ Below w.heap.size w w' := by
  have hb0 := below_alloc (Below.refl _ w) (.cells (celEnc c).toArray 61)
  have h0' := cell_keep hb0 h0; have h1' := cell_keep hb0 h1; have h2' := cell_keep hb0 h2; have h3' := cell_keep hb0 h3
  have hlt := World.block_lt_of_cell? w _ h0
  have HB0 := Lib.hid hb0
  have q := fun w => key_eql w c.k.t c.k.p c.k.c k.t k.p k.c c.k.r k.r
  rw [keyEq_dec] at q
  generalize decide (c.k = k) = R at *
  obtain ⟨⟨t, p, r, cc⟩, ⟨x1, x2, x3, x4, x5, x6⟩⟩ := c
  obtain ⟨t', p', r', c'⟩ := k
  simp only [celEnc] at *
  clear hb0
  go_enter Tryz.func100, Tryz.ntmps100
  go_wp2_with fail
  go_ret
  exact ⟨rfl, HB0.out⟩

set_option maxHeartbeats 2000000 in
theorem find_any (v : Value) (L : List Cel) (k : Ky) (w : World) (hv : SlX eC w.heap.size w v L) (hl : Room L.length) :
    Calls Tryz.prog 60 #[v, kyVal k] w fun e w' => e = .returned (.tuple #[.agg (vrEnc (findV L k)).toArray, .bool (findC L k).isSome]) ∧ Below w.heap.size w w' := by
  have b1 := (Blk.new w 24 #[.string k.t, .string k.p, .int .i64 k.r, .string k.c]).alloc (.cells #[.int .i64 0, .bool false, .int .i64 0, .int .i64 0, .int .i64 0, .string ⟨#[]⟩] 49)
  have b2 := Blk.new (w.alloc (.cells #[.string k.t, .string k.p, .int .i64 k.r, .string k.c] 24)) 49 #[.int .i64 0, .bool false, .int .i64 0, .int .i64 0, .int .i64 0, .string ⟨#[]⟩]
  have B0 := below_alloc (below_alloc (Below.refl _ w) (.cells #[.string k.t, .string k.p, .int .i64 k.r, .string k.c] 24)) (.cells #[.int .i64 0, .bool false, .int .i64 0, .int .i64 0, .int .i64 0, .string ⟨#[]⟩] 49)
  rw [show (w.alloc (.cells #[.string k.t, .string k.p, .int .i64 k.r, .string k.c] 24)).heap.size = w.heap.size + 1 by simp] at b2
  have eg : ∀ args w, (callFunc 100 args).run Tryz.prog w = .ok (.enter 100 args) w := enters_of Tryz.func100 (by kernel_rfl) rfl
  have IDX := Lib.hid (idxG_any 100 #[.pointer (some ⟨w.heap.size, 0, none⟩)] eg _ _ L (fun c => decide (c.k = k)) v _ (fun W hb x _ => findClo_any x k w.heap.size W ((b1.below hb).cell 0 rfl) ((b1.below hb).cell 1 rfl) ((b1.below hb).cell 2 rfl) ((b1.below hb).cell 3 rfl)) (hv.keep B0) (Below.refl _ _) (Nat.le_refl _) hl)
  have HV := Lib.hid (hv.keep B0)
  obtain ⟨a, cap, rfl, _, hx⟩ := hv.ex
  have HX := Lib.hid hx
  have HB0 := Lib.hid B0; have B2 := Lib.hid b2
  obtain ⟨RV, hRV⟩ : ∃ R, findV L k = R := ⟨_, rfl⟩
  obtain ⟨RB, hRB⟩ : ∃ R, (findC L k).isSome = R := ⟨_, rfl⟩
  rw [hRV, hRB]
  have HRV := Lib.hid hRV; have HRB := Lib.hid hRB
  unfold Room at hl
  clear b1 b2 B0 hv hx hRV hRB eg
  unfold kyVal
  go_enter Tryz.func60, Tryz.ntmps60
  go_wp2_with fail
  generalize (w.alloc (.cells #[.string k.t, .string k.p, .int .i64 k.r, .string k.c] 24)).alloc (.cells #[.int .i64 0, .bool false, .int .i64 0, .int .i64 0, .int .i64 0, .string ⟨#[]⟩] 49) = W0 at *
  refine IDX.out.mono ?_
  rintro e w1 ⟨r, rfl, hr, hb⟩
  have HB1 := Lib.hid (below_tr HB0.out hb)
  have z := B2.out.below hb
  have z0 := z.cell 0 rfl; have z1 := z.cell 1 rfl; have z2 := z.cell 2 rfl; have z3 := z.cell 3 rfl; have z4 := z.cell 4 rfl; have z5 := z.cell 5 rfl
  have fz := z.frozen
  have Z := Lib.hid z
  have HV1 := Lib.hid (HV.out.keep hb)
  clear z hb IDX
  rcases hr with ⟨rfl, hall⟩ | ⟨i, hi, rfl, hbk, hno⟩
  · have fc := findC_none hall
    have F1 := Lib.hid (show RV = zVr by rw [← HRV.out]; unfold findV; rw [fc]; rfl)
    have F2 := Lib.hid (show RB = false by rw [← HRB.out, fc]; rfl)
    clear hall fc
    go_wp2_with fail
    refine ret_gen (fun w2 => Blk w2 (w.heap.size + 1) 49 #[.int .i64 0, .bool false, .int .i64 0, .int .i64 0, .int .i64 0, .string ⟨#[]⟩] ∧ Below w.heap.size w w2) ⟨Z.out.put6 _ _ _ _ _ _, by repeat (first | with_reducible exact HB1.out | refine Below.setCell ?_ (by simp) _)⟩ ?_
    rintro w2 ⟨bk, hb2⟩
    exact bodyPost_ret (v := .tuple #[.agg #[.int .i64 0, .bool false, .int .i64 0, .int .i64 0, .int .i64 0, .string ⟨#[]⟩], .bool false]) (by simp [results, Tryz.results60, go_sem, bk.cell 0 rfl, bk.cell 1 rfl, bk.cell 2 rfl, bk.cell 3 rfl, bk.cell 4 rfl, bk.cell 5 rfl]) rfl ⟨by rw [F1.out, F2.out]; rfl, hb2⟩
  · have fc := findC_at hi hbk hno
    have F1 := Lib.hid (show RV = L[i].v by rw [← HRV.out]; unfold findV; rw [fc]; rfl)
    have F2 := Lib.hid (show RB = true by rw [← HRB.out, fc]; rfl)
    obtain ⟨gl, o, rfl, hgl2, _⟩ := HX.out (by omega)
    have ten := Ten.of HV1.out i hi
    have hz : (i : Int) < (L.length : Int) := by omega
    have hz2 : ¬ (i : Int) < 0 := by omega
    clear hbk hno fc
    generalize L[i] = x at *
    obtain ⟨c0, c1, c2, c3, c4, c5, c6, c7, c8, c9⟩ := ten
    obtain ⟨⟨t, p, r, q⟩, ⟨tm, dd, lc, kd, nn, ss⟩⟩ := x
    simp only at *
    go_wp2_with fail
    refine ret_gen (fun w2 => Blk w2 (w.heap.size + 1) 49 #[.int .i64 tm, .bool dd, .int .i64 lc, .int .i64 kd, .int .i64 nn, .string ss] ∧ Below w.heap.size w w2) ⟨Z.out.put6 _ _ _ _ _ _, by repeat (first | with_reducible exact HB1.out | refine Below.setCell ?_ (by simp) _)⟩ ?_
    rintro w2 ⟨bk, hb2⟩
    exact bodyPost_ret (v := .tuple #[.agg #[.int .i64 tm, .bool dd, .int .i64 lc, .int .i64 kd, .int .i64 nn, .string ss], .bool true]) (by simp [results, Tryz.results60, go_sem, bk.cell 0 rfl, bk.cell 1 rfl, bk.cell 2 rfl, bk.cell 3 rfl, bk.cell 4 rfl, bk.cell 5 rfl]) rfl ⟨by rw [F1.out, F2.out]; rfl, hb2⟩
end Go.Proofs.YtplghaoflmaadaaGreatDoor
end
