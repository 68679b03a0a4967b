/- Contracts of purge's having and of its closure. Conditions: keys of the bounds, at most a million cells. -/
import Derived.Test.YtmjeifbadjdnfaaDoorHb
set_option linter.unusedVariables false
set_option linter.unusedSimpArgs false
set_option maxRecDepth 50000
namespace Go.Proofs.YtmjeifbadjdnfaaDoor
open Go.RowKit Go.Sort

theorem has_any (k : Ky) (g b : Nat) (ks : List Ky) (w : World) (h : MapK w b ks) (hk : KyOk k) (hg : w.cell? ⟨g, 0, none⟩ = some (.map (some b))) :
    Calls Tryd.prog 60 #[kyVal k, .pointer (some ⟨g, 0, none⟩)] w fun e w' => e = .returned (.bool (decide (k ∈ ks))) ∧ Below w.heap.size w w' := by
  have hb := below_alloc (Below.refl _ w) (.cells #[.string k.t, .string k.p, .int .i64 k.r, .string k.c] 29)
  have hl := (h.below hb).look k hk
  have hgl := World.block_lt_of_cell? w _ hg
  have hg' := cell_keep hb hg
  unfold kyVal at hl ⊢
  generalize decide (k ∈ ks) = r at *
  obtain ⟨t, p, n, c⟩ := k
  simp only at *
  have HB := Lib.hid hb
  clear h hk hb
  go_enter Tryd.func60, Tryd.ntmps60
  go_wp2_with fail
  go_ret
  exact ⟨rfl, HB.out⟩

/-- the ten cells of an element -/
structure Ten (w : World) (g o : Nat) (c : Cel) : Prop where
  c0 : w.cell? ⟨g, o, none⟩ = some (.string c.k.t)
  c1 : w.cell? ⟨g, o + 1, none⟩ = some (.string c.k.p)
  c2 : w.cell? ⟨g, o + 2, none⟩ = some (.int .i64 c.k.r)
  c3 : w.cell? ⟨g, o + 3, none⟩ = some (.string c.k.c)
  c4 : w.cell? ⟨g, o + 4, none⟩ = some (.int .i64 c.v.time)
  c5 : w.cell? ⟨g, o + 5, none⟩ = some (.bool c.v.dead)
  c6 : w.cell? ⟨g, o + 6, none⟩ = some (.int .i64 c.v.loc)
  c7 : w.cell? ⟨g, o + 7, none⟩ = some (.int .i64 c.v.kind)
  c8 : w.cell? ⟨g, o + 8, none⟩ = some (.int .i64 c.v.n)
  c9 : w.cell? ⟨g, o + 9, none⟩ = some (.string c.v.s)
theorem Ten.of {B : Nat} {w : World} {l : List Cel} {g o n c : Nat} (h : SlX eC B w (.slice (some ⟨g, o, none⟩) n c) l) (j : Nat) (hj : j < l.length) : Ten w g (o + j * 10) l[j] :=
  ⟨h.cell j 0 hj rfl, h.cell j 1 hj rfl, h.cell j 2 hj rfl, h.cell j 3 hj rfl, h.cell j 4 hj rfl, h.cell j 5 hj rfl, h.cell j 6 hj rfl, h.cell j 7 hj rfl, h.cell j 8 hj rfl, h.cell j 9 hj rfl⟩
theorem Ten.keep {w w1 : World} {g o : Nat} {c : Cel} (h : Ten w g o c) (hb : Below w.heap.size w w1) : Ten w1 g o c :=
  ⟨cell_keep hb h.c0, cell_keep hb h.c1, cell_keep hb h.c2, cell_keep hb h.c3, cell_keep hb h.c4, cell_keep hb h.c5, cell_keep hb h.c6, cell_keep hb h.c7, cell_keep hb h.c8, cell_keep hb h.c9⟩

set_option maxHeartbeats 2000000 in
theorem having_blk (v : Value) (l : List Cel) (w : World) (hv : SlX eC w.heap.size w v l) (ok : ∀ c ∈ l, KyOk c.k) (hl : l.length ≤ 6000000000000) :
    Calls Tryd.prog 38 #[v] w fun e w' => ∃ g b, e = .returned (.func (.func 60) #[] #[.pointer (some ⟨g, 0, none⟩)]) ∧ Blk w' g 98 #[.map (some b)] ∧ MapK w' b (l.map (·.k)) ∧ Below w.heap.size w w' := by
  have HV := Lib.hid hv
  obtain ⟨a, c, rfl, hc, hx⟩ := hv.ex
  have HX := Lib.hid hx; have OK := Lib.hid ok; clear hx hv ok
  have mk : (Instr.makeMap 98 none).run Tryd.prog w = .ok (.map (some w.heap.size)) (w.alloc (.map #[] 0)) := rfl
  have hm0 : MapK (w.alloc (.map #[] 0)) w.heap.size [] := ⟨⟨#[], 0, heap_last w _, by simp, by simp⟩, by simp⟩
  have HM0 := Lib.hid hm0
  clear hm0
  have hb0 := below_alloc (Below.refl _ w) (.map #[] 0)
  have HB0 := Lib.hid hb0; clear hb0
  have hs0 : w.heap.size < (w.alloc (.map #[] 0)).heap.size := HM0.out.lt
  have HS0 := Lib.hid hs0; clear hs0
  go_enter Tryd.func38, Tryd.ntmps38
  go_wp2_with fail
  generalize hW : w.alloc (.map #[] 0) = W0 at *
  generalize hbm : w.heap.size = b at *
  have HW := Lib.hid hW; have HBM := Lib.hid hbm; clear hW hbm
  have hgm : W0.heap.size = b + 1 := by rw [← HW.out, ← HBM.out]; simp
  have HGM := Lib.hid hgm; clear hgm
  obtain ⟨g, hgb⟩ : ∃ g, b + 1 = g := ⟨_, rfl⟩
  rw [hgb] at HGM
  try rw [hgb]
  have hbk : Blk (W0.alloc (.cells #[.map (some b)] 98)) g 98 #[.map (some b)] := by rw [← HGM.out]; exact Blk.new W0 _ _
  have hmk := HM0.out.below (below_alloc (Below.refl _ W0) (.cells #[.map (some b)] 98))
  have HBK := Lib.hid hbk; have HMK := Lib.hid hmk
  have hb1 : Below b w (W0.alloc (.cells #[.map (some b)] 98)) := below_al HB0.out _ (by have := HS0.out; omega)
  have HB1 := Lib.hid hb1
  clear hbk hmk hb1
  generalize W0.alloc (.cells #[.map (some b)] 98) = W1 at *
  go_loopw [5, 9] (fun _ vi wr => ∃ i : Nat, i ≤ l.length ∧ vi = .int .i64 (i : Int) ∧ Blk wr g 98 #[.map (some b)] ∧ MapK wr b ((l.take i).map (·.k)) ∧ Below b w wr ∧ g < wr.heap.size) (fun _ vi _ => l.length - (intOf vi).toNat)
  case atStart => exact ⟨0, by omega, rfl, HBK.out, by simpa using HMK.out, HB1.out, HBK.out.lt⟩
  case round =>
    obtain ⟨i, hi, rfl, hbk, hmk, hbl, hgl⟩ := hrel
    have HB1b := Lib.hid (show b ≤ wr.heap.size by omega)
    have HBLw := Lib.hid (show Below w.heap.size w wr by rw [HBM.out]; exact hbl)
    clear HBK HMK HB1
    have HBK := Lib.hid hbk; have HMK := Lib.hid hmk; have HBL := Lib.hid hbl
    have m0 := hbk.cell 0 rfl
    clear hbk hmk hbl
    by_cases hlt : i < l.length
    · have hz : (i : Int) < (l.length : Int) := by omega
      obtain ⟨gl, o, rfl, hgl2, _⟩ := HX.out (by omega)
      have ten := (Ten.of HV.out i hlt)
      have okc := OK.out l[i] (List.getElem_mem _)
      have etk : (l.take (i + 1)).map (·.k) = (l.take i).map (·.k) ++ [l[i].k] := by rw [List.take_succ_eq_append_getElem hlt, List.map_append]; rfl
      generalize l[i] = cc at *
      have hcs : Below b w (wr.alloc (.cells (celEnc cc).toArray 35)) := below_al HBL.out _ (by have := HB1b.out; omega)
      have hba := below_alloc (Below.refl _ wr) (.cells (celEnc cc).toArray 35)
      have hma := HMK.out.below hba
      obtain ⟨w6, hrun, hM6, hg6⟩ := hma.upd cc.k okc
      have m0' := cell_keep hba m0
      obtain ⟨c0, c1, c2, c3, c4, c5, c6, c7, c8, c9⟩ := ten.keep HBLw.out
      obtain ⟨⟨t, p, r, q⟩, ⟨tm, dd, lc, kd, nn, ss⟩⟩ := cc
      simp only [kyVal, celEnc] at *
      have HM6 := Lib.hid hM6; have HG6 := Lib.hid hg6; have HCS := Lib.hid hcs; have ETK := Lib.hid etk
      clear hma hba ten okc hM6 hg6 hcs etk
      have hgb' : (some g : Option Nat) ≠ some b := by intro e; injection e; omega
      have hbk6 := ((HBK.out.below (below_alloc (Below.refl _ wr) (.cells #[.string t, .string p, .int .i64 r, .string q, .int .i64 tm, .bool dd, .int .i64 lc, .int .i64 kd, .int .i64 nn, .string ss] 35))).grown HG6.out hgb')
      have hbl6 := Below.grown HCS.out HG6.out (Nat.le_trans HB1b.out (by simp)) (fun k hk => by injection hk; omega)
      have hgl6 : g < w6.heap.size := hbk6.lt
      have BK6 := Lib.hid hbk6; have BL6 := Lib.hid hbl6; have GL6 := Lib.hid hgl6
      clear hbk6 hbl6 hgl6 hgb'
      go_wp2_with fail
      exact ⟨⟨i + 1, by omega, by first | rfl | go_num, BK6.out, by rw [ETK.out]; exact HM6.out, BL6.out, GL6.out⟩, by simp [intOf]; omega⟩
    · have hz : ¬ (i : Int) < (l.length : Int) := by omega
      have e : l.take i = l := List.take_of_length_le (by omega)
      have hmk := HMK.out
      rw [e] at hmk
      clear HMK
      have HMK := Lib.hid hmk
      clear hmk
      go_wp2_with fail
      go_ret
      have hfin := HBL.out
      rw [← HBM.out] at hfin
      refine ⟨g, ?_⟩
      first | exact ⟨rfl, b, HBK.out, HMK.out, hfin⟩ | exact ⟨b, rfl, HBK.out, HMK.out, hfin⟩
theorem having_any (v : Value) (l : List Cel) (w : World) (hv : SlX eC w.heap.size w v l) (ok : ∀ c ∈ l, KyOk c.k) (hl : l.length ≤ 6000000000000) :
    Calls Tryd.prog 38 #[v] w fun e w' => ∃ g b, e = .returned (.func (.func 60) #[] #[.pointer (some ⟨g, 0, none⟩)]) ∧ w'.cell? ⟨g, 0, none⟩ = some (.map (some b)) ∧ MapK w' b (l.map (·.k)) ∧ Below w.heap.size w w' :=
  (having_blk v l w hv ok hl).mono fun e w' ⟨g, b, h1, h2, h3, h4⟩ => ⟨g, b, h1, h2.cell 0 rfl, h3, h4⟩
end Go.Proofs.YtmjeifbadjdnfaaDoor
