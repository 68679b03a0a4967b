/- Contracts of a ring's Range and Of. Conditions: at most a thousand points, sorted; a text of at most a million bytes. -/
import Derived.Test.YtmjeifbadjdnfaaDoorGe
import Derived.Test.YtmjeifbadjdnfaaDoorQf
set_option linter.unusedVariables false
set_option linter.unusedSimpArgs false
set_option maxRecDepth 20000
namespace Go.Proofs.YtmjeifbadjdnfaaDoor
open Go.RowKit Go.Sort

theorem countP_range (L : List Pt) (t : Int) : (List.range L.length).countP (fun i => !decide (t ≤ (L.getD i (0, 0)).1)) = lessN L t := by
  have key : ∀ k, k ≤ L.length → (List.range k).countP (fun i => !decide (t ≤ (L.getD i (0, 0)).1)) = (L.take k).countP fun p => decide (p.1 < t) := by
    intro k
    induction k with
    | zero => intro _; simp
    | succ k ih =>
      intro hk
      rw [List.range_succ, List.countP_append, ih (by omega), List.take_add_one, List.countP_append, List.getElem?_eq_getElem (by omega)]
      have e : L.getD k (0, 0) = L[k] := by rw [List.getD_eq_getElem?_getD, List.getElem?_eq_getElem (by omega)]; rfl
      congr 1
      simp only [List.countP_cons, List.countP_nil, e, Option.toList_some, Nat.zero_add]
      by_cases h : t ≤ L[k].1
      · have : ¬ L[k].1 < t := by omega
        simp [h, this]
      · have : L[k].1 < t := by omega
        simp [h, this]
  have := key L.length (Nat.le_refl _)
  rwa [List.take_length] at this
theorem Range1_any (br bt g gl ol cl : Nat) (L : List Pt) (t : Int) (i : Nat) (hi : i < L.length) (W : World) (h0 : W.cell? ⟨br, 0, none⟩ = some (.pointer (some ⟨g, 0, none⟩))) (h1 : W.cell? ⟨bt, 0, none⟩ = some (.int .i64 t))
    (h2 : W.cell? ⟨g, 0, none⟩ = some (.slice (some ⟨gl, ol, none⟩) L.length cl)) (h3 : W.cell? ⟨gl, ol + i * 2, none⟩ = some (.int .i64 L[i].1)) :
    Calls Tryd.prog 55 (#[.int .i64 (i : Int)] ++ #[.pointer (some ⟨br, 0, none⟩), .pointer (some ⟨bt, 0, none⟩)]) W fun e w' => e = .returned (.bool (decide (t ≤ L[i].1))) ∧ ∃ q, w' = W.drewN q := by
  generalize L[i].1 = y at *
  have hiz : (i : Int) < (L.length : Int) := by omega
  go_enter Tryd.func55, Tryd.ntmps55
  go_wp2
  go_region
  all_goals go_wp2
  all_goals go_ret
  all_goals exact ⟨by first | rfl | simp, 1, rfl⟩
theorem cell_grw {W : World} (m : Nat) (os : Array Obj) {a : Addr} {v : Value} (h : W.cell? a = some v) : (grow (W.drewN m) os).cell? a = some v := by
  rw [cell?_grow _ _ _ (by exact World.block_lt_of_cell? W a h)]; exact h
theorem search_any (br bt g gl ol cl : Nat) (L : List Pt) (t : Int) (W : World) (hs : SortedP L) (hl : L.length ≤ 1000) (h0 : W.cell? ⟨br, 0, none⟩ = some (.pointer (some ⟨g, 0, none⟩))) (h1 : W.cell? ⟨bt, 0, none⟩ = some (.int .i64 t))
    (h2 : W.cell? ⟨g, 0, none⟩ = some (.slice (some ⟨gl, ol, none⟩) L.length cl)) (h3 : ∀ i (hi : i < L.length), W.cell? ⟨gl, ol + i * 2, none⟩ = some (.int .i64 L[i].1)) :
    Calls Tryd.prog 54 #[.int .i64 (L.length : Int), .func (.func 55) #[] #[.pointer (some ⟨br, 0, none⟩), .pointer (some ⟨bt, 0, none⟩)]] W
      fun e w' => e = .returned (.int .i64 (lessN L t : Int)) ∧ ∃ q os, w' = grow (W.drewN q) os := by
  have eg : ∀ args w, (callFunc 55 args).run Tryd.prog w = .ok (.enter 55 args) w := enters_of Tryd.func55 (by kernel_rfl) rfl
  have hcon := Any.sort_Search Tryd.search 55 #[.pointer (some ⟨br, 0, none⟩), .pointer (some ⟨bt, 0, none⟩)] L.length (fun i => decide (t ≤ (L.getD i (0, 0)).1)) W eg (by omega)
    (fun m os i hi => (Range1_any br bt g gl ol cl L t i hi _ (cell_grw m os h0) (cell_grw m os h1) (cell_grw m os h2) (cell_grw m os (h3 i hi))).mono fun e w' ⟨he, q, hq⟩ => by
      refine ⟨?_, q, #[], by rw [hq, grow_empty]⟩
      rw [he, List.getD_eq_getElem?_getD, List.getElem?_eq_getElem hi]; rfl)
    (fun a b hab hb h => by
      rw [List.getD_eq_getElem?_getD, List.getElem?_eq_getElem (by omega)] at h
      rw [List.getD_eq_getElem?_getD, List.getElem?_eq_getElem hb]
      simp only [Option.getD_some, decide_eq_true_eq] at *
      rcases Nat.lt_or_ge a b with h' | h'
      · have := hs.get a b h' hb
        rw [ptLe_iff] at this; omega
      · have : a = b := by omega
        subst this; exact h)
  rw [countP_range] at hcon
  exact hcon
set_option maxHeartbeats 1000000 in
theorem Range_any (g gl ol cl : Nat) (L : List Pt) (c t : Int) (w : World) (hr : RingAt eP w g gl ol cl L c) (hc : 0 < c) (h0 : 0 < L.length) (hl : L.length ≤ 1000) (hs : SortedP L) :
    Calls Tryd.prog 26 #[.pointer (some ⟨g, 0, none⟩), .int .i64 t] w fun e w' => e = .returned (.int .i64 (rangeL L t : Int)) ∧ Below w.heap.size w w' := by
  have hd : decide (0 < c) = true := by simpa using hc
  have HB0 := below_alloc (below_alloc (Below.refl _ w) (.cells #[.pointer (some ⟨g, 0, none⟩)] 46)) (.cells #[.int .i64 t] 3)
  have HR := hr.keep HB0
  have b1 := (Blk.new w 46 #[.pointer (some ⟨g, 0, none⟩)]).alloc (.cells #[.int .i64 t] 3)
  have b2 := Blk.new (w.alloc (.cells #[.pointer (some ⟨g, 0, none⟩)] 46)) 3 #[.int .i64 t]
  have hsz : (w.alloc (.cells #[.pointer (some ⟨g, 0, none⟩)] 46)).heap.size = w.heap.size + 1 := by simp
  rw [hsz] at b2
  have x0 := b1.cell 0 rfl; have x1 := b2.cell 0 rfl
  clear b1 b2 hsz hr
  have hq : ((lessN L t : Int)) % (L.length : Int) = (rangeL L t : Int) := by unfold rangeL; exact (Int.natCast_emod _ _).symm
  have hle := lessN_le L t
  have hq2 : Int.tmod (lessN L t : Int) (L.length : Int) = (rangeL L t : Int) := by rw [Int.tmod_eq_emod_of_nonneg (by omega)]; exact hq
  have hne : ¬ L = [] := by rintro rfl; simp at h0
  have S0 := fun W => search_any w.heap.size (w.heap.size + 1) g gl ol cl L t W hs hl
  generalize rangeL L t = q at *
  generalize lessN L t = n at *
  have S := Lib.hid S0; have HB := Lib.hid HB0
  have hnz : ((L.length : Int) == 0) = false := by rw [beq_eq_false_iff_ne]; omega
  clear S0 HB0
  go_enter Tryd.func26, Tryd.ntmps26
  go_wp2_with fail
  generalize (w.alloc (.cells #[.pointer (some ⟨g, 0, none⟩)] 46)).alloc (.cells #[.int .i64 t] 3) = W0 at *
  have M := made_any g c W0 HR.c1
  rw [hd] at M
  have hP := fun i hi => (eP_cell HR.s i hi).1
  obtain ⟨c0, c1, _⟩ := HR
  have M' := Lib.hid M
  have HP := Lib.hid hP
  clear M hP hd
  refine M'.out.mono ?_
  rintro e w1 ⟨rfl, rfl⟩
  go_wp2_with fail
  have HS : ∀ w', Below W0.heap.size W0 w' → (InW W0 w' ∧ w'.cell? ⟨w.heap.size, 0, none⟩ = some (.pointer (some ⟨g, 0, none⟩)) ∧ w'.cell? ⟨w.heap.size + 1, 0, none⟩ = some (.int .i64 t) ∧ w'.cell? ⟨g, 0, none⟩ = some (.slice (some ⟨gl, ol, none⟩) L.length cl)) :=
    fun w' h => ⟨h, cell_keep h x0, cell_keep h x1, cell_keep h c0⟩
  have HS' := Lib.hid HS; clear HS
  have SS := Lib.hid (fun W (h : InW W0 W) => S.out W (cell_keep h x0) (cell_keep h x1) (cell_keep h c0) (fun i hi => cell_keep h (HP.out i hi)))
  go_region_held3 (fun w' => InW W0 w' ∧ w'.cell? ⟨w.heap.size, 0, none⟩ = some (.pointer (some ⟨g, 0, none⟩)) ∧ w'.cell? ⟨w.heap.size + 1, 0, none⟩ = some (.int .i64 t) ∧ w'.cell? ⟨g, 0, none⟩ = some (.slice (some ⟨gl, ol, none⟩) L.length cl))
    (first | exact HS'.out _ (Below.drew (Below.refl _ _)) | exact HS'.out _ (below_tr (show Below W0.heap.size W0 _ from And.left (by assumption)) (by assumption)) | assumption)
    (first | (go_at_call 54; refine (SS.out _ (‹InW W0 _ ∧ _›).1).mono ?_; rintro e w' ⟨rfl, hb⟩; have hb := Grw.below hb))
  have hB := (‹InW W0 _ ∧ _›).1
  go_wp2_with fail
  go_ret
  exact ⟨rfl, HB.out.trans ((show Below W0.heap.size W0 _ from hB).mono HB.out.size)⟩
theorem Range_no (v : Value) (t : Int) (w : World) (h : NoRing w v) : Calls Tryd.prog 26 #[v, .int .i64 t] w fun e w' => e = .returned (.int .i64 (-1)) ∧ Below w.heap.size w w' := by
  have h1 : NoRing ((w.alloc (.cells #[v] 46)).alloc (.cells #[.int .i64 t] 3)) v := by
    rcases h with rfl | ⟨g, rfl, h⟩
    · exact .inl rfl
    · exact .inr ⟨g, rfl, cell_keep (below_alloc (below_alloc (Below.refl _ w) _) _) h⟩
  have M := Lib.hid (made_no v _ h1)
  have HB := Lib.hid (below_alloc (below_alloc (Below.refl _ w) (.cells #[v] 46)) (.cells #[.int .i64 t] 3))
  have hv : ∃ p, v = .pointer p := by
    rcases h with rfl | ⟨g, rfl, _⟩
    · exact ⟨_, rfl⟩
    · exact ⟨_, rfl⟩
  obtain ⟨p, rfl⟩ := hv
  clear h h1
  go_enter Tryd.func26, Tryd.ntmps26
  go_wp2_with fail
  refine M.out.mono ?_
  rintro e w1 ⟨rfl, rfl⟩
  go_wp2_with fail
  go_ret
  exact ⟨rfl, HB.out⟩
theorem Of_any (g gl ol cl : Nat) (L : List Pt) (c : Int) (s : ByteArray) (w : World) (hr : RingAt eP w g gl ol cl L c) (hc : 0 < c) (h0 : 0 < L.length) (hl : L.length ≤ 1000) (hs : SortedP L) (hz : s.size ≤ 1000000) :
    Calls Tryd.prog 22 #[.pointer (some ⟨g, 0, none⟩), .string s] w fun e w' => e = .returned (.int .i64 (rangeL L (tokI s.toList) : Int)) ∧ Below w.heap.size w w' := by
  have T := Lib.hid (Token_any s w hz)
  have R := Lib.hid (fun W (h : Below w.heap.size w W) => Range_any g gl ol cl L c (tokI s.toList) W (hr.keep h) hc h0 hl hs)
  clear hr
  go_enter Tryd.func22, Tryd.ntmps22
  go_wp2_with fail
  refine T.out.mono ?_
  rintro e w1 ⟨rfl, hb⟩
  go_wp2_with fail
  refine (R.out _ hb).mono ?_
  rintro e w2 ⟨rfl, hb2⟩
  go_wp2_with fail
  go_ret
  exact ⟨rfl, below_tr hb hb2⟩
theorem Of_no (v : Value) (s : ByteArray) (w : World) (h : NoRing w v) (hz : s.size ≤ 1000000) : Calls Tryd.prog 22 #[v, .string s] w fun e w' => e = .returned (.int .i64 (-1)) ∧ Below w.heap.size w w' := by
  have T := Lib.hid (Token_any s w hz)
  have R := Lib.hid (fun W (hb : Below w.heap.size w W) => Range_no v (tokI s.toList) W (by
    rcases h with rfl | ⟨g, rfl, h⟩
    · exact .inl rfl
    · exact .inr ⟨g, rfl, cell_keep hb h⟩))
  clear h
  go_enter Tryd.func22, Tryd.ntmps22
  go_wp2_with fail
  refine T.out.mono ?_
  rintro e w1 ⟨rfl, hb⟩
  go_wp2_with fail
  refine (R.out _ hb).mono ?_
  rintro e w2 ⟨rfl, hb2⟩
  go_wp2_with fail
  go_ret
  exact ⟨rfl, below_tr hb hb2⟩
end Go.Proofs.YtmjeifbadjdnfaaDoor
