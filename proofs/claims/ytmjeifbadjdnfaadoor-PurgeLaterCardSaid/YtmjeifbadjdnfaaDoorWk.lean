/- The law PurgeLater. Condition: the row's own bounds. -/
import Derived.Test.YtmjeifbadjdnfaaDoorWj
import Derived.Test.YtmjeifbadjdnfaaDoorHg
set_option linter.unusedVariables false
set_option linter.unusedSimpArgs false
set_option maxRecDepth 50000
namespace Go.Proofs.YtmjeifbadjdnfaaDoor
open Go.RowKit Go.Sort
open Go.Lib hiding intOf

theorem normC_keys (L : List Cel) : (normC L).Pairwise fun a b => a.k ≠ b.k := by
  unfold normC
  rw [List.pairwise_map]
  exact (normL_sorted (jn := joinP) kcK_ord (L.map toP)).imp fun {a b} h e => by
    have h0 : kcK (ofP a).k (ofP b).k < 0 := h
    rw [e, kcK_ord.self] at h0; omega
theorem findC_mem {l : List Cel} (h : l.Pairwise fun a b => a.k ≠ b.k) {c : Cel} (hc : c ∈ l) : findC l c.k = some c.v := by
  induction l with
  | nil => cases hc
  | cons y l ih =>
    rw [List.pairwise_cons] at h
    unfold findC
    rcases List.mem_cons.1 hc with rfl | hc
    · rw [List.find?_cons_of_pos (p := fun x : Cel => decide (x.k = c.k)) (by simp)]; rfl
    · have := h.1 c hc
      rw [List.find?_cons_of_neg (p := fun x : Cel => decide (x.k = c.k)) (by simpa using this)]
      exact ih h.2 hc
theorem oldV_mono {v : Vr} {an ag bn bg : Int} (h1 : an ≤ bn) (h2 : bg ≤ ag) (h : oldV v an ag = true) : oldV v bn bg = true := by
  unfold oldV at *
  simp only [Bool.and_eq_true, decide_eq_true_eq] at *
  exact ⟨h.1, by omega, by omega⟩
theorem later_find (L : List Cel) {an ag bn bg : Int} (h1 : an ≤ bn) (h2 : bg ≤ ag) : ∀ c ∈ (normC L).filter (fun c => !oldV c.v bn bg), findC ((normC L).filter fun c => !oldV c.v an ag) c.k = some c.v := by
  intro c hc
  rw [List.mem_filter] at hc
  refine findC_mem ((normC_keys L).sublist (List.filter_sublist)) (List.mem_filter.2 ⟨hc.1, ?_⟩)
  cases h : oldV c.v an ag
  · rfl
  · have := oldV_mono h1 h2 h
    rw [this] at hc; simp at hc
theorem later_len (L : List Cel) {an ag bn bg : Int} (h1 : an ≤ bn) (h2 : bg ≤ ag) : ((normC L).filter (fun c => !oldV c.v bn bg)).length ≤ ((normC L).filter fun c => !oldV c.v an ag).length := by
  rw [← List.countP_eq_length_filter, ← List.countP_eq_length_filter]
  refine List.countP_mono_left fun c _ h => ?_
  cases h3 : oldV c.v an ag
  · rfl
  · have := oldV_mono h1 h2 h3
    rw [this] at h; simp at h
theorem ver_neq (w : World) (a b : Vr) : (binOp .neq 33 (.agg (vrEnc a).toArray) (.agg (vrEnc b).toArray)).run Tryd.prog w = .ok (.bool (!verEq a b)) w := by
  rw [run_neq_struct, verIn 9997]; rfl

set_option maxHeartbeats 4000000 in
theorem PurgeLater_walk (v : Value) (L : List Cel) (an ag bn bg : Int) (w : World) (HV : SlX eC w.heap.size w v L) (hl : Room L.length) (ok : ∀ c ∈ L, CelOk c) (i1 : In64 an) (i2 : In64 ag) (i3 : In64 bn) (i4 : In64 bg) :
    Calls Tryd.prog 5 #[v, .agg #[.int .i64 an, .int .i64 ag], .agg #[.int .i64 bn, .int .i64 bg]] w fun e w' => e = .returned (.bool true) ∧ Below w.heap.size w w' := by
  have LV := Lib.hid (fun W => lives11_any W)
  have b1 := (Blk.new w 25 #[.int .i64 an, .int .i64 ag]).alloc (.cells #[.int .i64 bn, .int .i64 bg] 25)
  have b2 := Blk.new (w.alloc (.cells #[.int .i64 an, .int .i64 ag] 25)) 25 #[.int .i64 bn, .int .i64 bg]
  rw [show (w.alloc (.cells #[.int .i64 an, .int .i64 ag] 25)).heap.size = w.heap.size + 1 by simp] at b2
  have B0 := below_alloc (below_alloc (Below.refl _ w) (.cells #[.int .i64 an, .int .i64 ag] 25)) (.cells #[.int .i64 bn, .int .i64 bg] 25)
  have HVh := Lib.hid (HV.keep B0)
  obtain ⟨F, hF⟩ : ∃ F : Int → Int → List Cel, F = fun n g => (normC L).filter fun c => !oldV c.v n g := ⟨_, rfl⟩
  have HF := Lib.hid hF
  have CN := Lib.hid (fun (W : World) (n g : Int) (hW : Below w.heap.size w W) (h1 : In64 n) (h2 : In64 g) => show Calls Tryd.prog 16 #[v, .slice none 0 0, .int .i64 n, .int .i64 g] W
      fun e w' => ∃ v', e = .returned v' ∧ SlX eC w'.heap.size w' v' (F n g) ∧ Below W.heap.size W w' by rw [HF.out]; exact cellsN_any v L n g W (HV.keep hW) hl ok h1 h2)
  clear hF
  obtain ⟨a, cap, rfl, _, _⟩ := HV.ex
  have FEW := Lib.hid (fun W (hW : Below w.heap.size w W) (g : Nat) (hg : W.heap.size = g) => show Calls Tryd.prog 11 #[.slice (some ⟨g, 0, none⟩) 1 1] (W.alloc (.cells #[.slice a L.length cap] 22)) (SomeB (W.alloc (.cells #[.slice a L.length cap] 22))) by
    subst hg
    exact few_any (.slice (some ⟨W.heap.size, 0, none⟩) 1 1) [⟨a, L.length, cap⟩] [L] (W.alloc (.cells #[.slice a L.length cap] 22)) (SlX.lit (E := eH) W #[.slice a L.length cap] [⟨a, L.length, cap⟩] 1 1 rfl (by simp) rfl)
      ⟨rfl, fun i h1 h2 => by obtain rfl : i = 0 := by simp at h1; omega
                              exact ⟨HV.keep (below_alloc hW _), hl⟩⟩ (by simp))
  have HB0 := Lib.hid B0; have K1 := Lib.hid b1; have K2 := Lib.hid b2
  have hl' := hl
  unfold Room at hl'
  clear B0 b1 b2 HV ok hl
  go_enter Tryd.func5, Tryd.ntmps5
  go_wp2_with fail
  have FW := Lib.hid (FEW.out _ HB0.out (w.heap.size + 1 + 1) (by simp))
  generalize (w.alloc (.cells #[.int .i64 an, .int .i64 ag] 25)).alloc (.cells #[.int .i64 bn, .int .i64 bg] 25) = W0 at *
  refine FW.out.mono ?_
  rintro e w1 ⟨r, rfl, hb⟩
  have HB1 := Lib.hid (Below.trans (below_alloc (Below.refl _ W0) (.cells #[.slice a L.length cap] 22)) (Below.mono hb (by simp)))
  have HBw1 := Lib.hid (below_tr HB0.out HB1.out)
  clear hb FW FEW
  cases r with
  | false =>
    go_wp2_with fail
    refine (LV.out _).mono ?_
    rintro e w2 ⟨rfl, hb⟩
    have HB2 := Lib.hid (below_tr HBw1.out hb); clear hb
    go_wp2_with fail
    go_ret
    exact ⟨rfl, HB2.out⟩
  | true =>
    have x0 := (K1.out.below HB1.out).cell 0 rfl; have x1 := (K1.out.below HB1.out).cell 1 rfl
    have y0 := (K2.out.below HB1.out).cell 0 rfl; have y1 := (K2.out.below HB1.out).cell 1 rfl
    by_cases h1 : bn < an
    · go_wp2_with fail
      refine (LV.out _).mono ?_
      rintro e w2 ⟨rfl, hb⟩
      have HB2 := Lib.hid (below_tr HBw1.out hb); clear hb
      go_wp2_with fail
      go_ret
      exact ⟨rfl, HB2.out⟩
    · by_cases h2 : ag < bg
      · go_wp2_with fail
        refine (LV.out _).mono ?_
        rintro e w2 ⟨rfl, hb⟩
        have HB2 := Lib.hid (below_tr HBw1.out hb); clear hb
        go_wp2_with fail
        go_ret
        exact ⟨rfl, HB2.out⟩
      · have FND := Lib.hid (show ∀ c ∈ F bn bg, findC (F an ag) c.k = some c.v by rw [HF.out]; exact later_find L (show an ≤ bn by omega) (show bg ≤ ag by omega))
        have LEN := Lib.hid (show (F bn bg).length ≤ (F an ag).length by rw [HF.out]; exact later_len L (show an ≤ bn by omega) (show bg ≤ ag by omega))
        have EL := Lib.hid (show (F an ag).length ≤ L.length by rw [HF.out]; exact Nat.le_trans (List.length_filter_le _ _) (normC_len L))
        have HS := Lib.hid (fun w' (h : Below w1.heap.size w1 w') => show InW w1 w' ∧ w'.cell? ⟨w.heap.size, 0, none⟩ = some (.int .i64 an) ∧ w'.cell? ⟨w.heap.size, 1, none⟩ = some (.int .i64 ag) ∧ w'.cell? ⟨w.heap.size + 1, 0, none⟩ = some (.int .i64 bn) ∧ w'.cell? ⟨w.heap.size + 1, 1, none⟩ = some (.int .i64 bg) from ⟨h, cell_keep h x0, cell_keep h x1, cell_keep h y0, cell_keep h y1⟩)
        go_upto_region 5 with (fail)
        go_cut [7, 8] (fun s7 s8 wx => SlX eC wx.heap.size wx s7 (F an ag) ∧ SlX eC wx.heap.size wx s8 (F bn bg) ∧ InW w1 wx)
        case first =>
          clear h1 h2 x0 x1 y0 y1
          go_region_held3 (fun w' => InW w1 w' ∧ w'.cell? ⟨w.heap.size, 0, none⟩ = some (.int .i64 an) ∧ w'.cell? ⟨w.heap.size, 1, none⟩ = some (.int .i64 ag) ∧ w'.cell? ⟨w.heap.size + 1, 0, none⟩ = some (.int .i64 bn) ∧ w'.cell? ⟨w.heap.size + 1, 1, none⟩ = some (.int .i64 bg))
            (first | assumption | exact HS.out _ (by repeat (first | exact Below.refl _ _ | exact (show Below w1.heap.size w1 _ from And.left (by assumption)) | exact below_tr (show Below w1.heap.size w1 _ from And.left (by assumption)) (by assumption) | refine Below.drew ?_ | refine below_alloc ?_ _)))
            (first | (go_at_call 16; refine (CN.out _ _ _ (below_tr HBw1.out (‹InW w1 _ ∧ _›).1) (by assumption) (by assumption)).mono ?_; rintro e w' ⟨v', rfl, hs, hb⟩))
          all_goals
            have hin := (‹InW w1 _ ∧ _›).1
            go_wp2_with fail
            go_meet
            case rel => exact ⟨by first | with_reducible assumption | exact SlX.keep (by with_reducible assumption) (by with_reducible assumption), by with_reducible assumption, hin⟩
        case rest =>
          obtain ⟨h7, h8, hin⟩ := hcut
          have HW := Lib.hid (below_tr HBw1.out hin)
          have H7 := Lib.hid h7; have H8 := Lib.hid h8
          clear h1 h2 x0 x1 y0 y1 hin h7 h8 HS CN
          obtain ⟨a7, c7, rfl, _, _⟩ := H7.out.ex
          obtain ⟨a8, c8, rfl, hc8, hx8⟩ := H8.out.ex
          have HX8 := Lib.hid hx8
          clear hx8
          obtain ⟨E, hE⟩ : ∃ E, F an ag = E := ⟨_, rfl⟩
          obtain ⟨T, hT⟩ : ∃ T, F bn bg = T := ⟨_, rfl⟩
          rw [hE] at H7 FND LEN EL ⊢
          rw [hT] at H8 FND LEN HX8 hc8 ⊢
          clear hE hT HF
          have tl : T.length ≤ E.length := LEN.out
          have el : E.length ≤ L.length := EL.out
          go_wp2_with fail
          go_loopw [10, 11, 12, 45, 49] (fun _ _ _ v45 _ wr => ∃ i : Nat, v45 = .int .i64 (i : Int) ∧ i ≤ T.length ∧ Below wc.heap.size wc wr) (fun _ _ _ v45 _ _ => T.length - (intOf v45).toNat)
          case atStart => exact ⟨0, rfl, by omega, Below.refl _ _⟩
          case round =>
            obtain ⟨i, rfl, hi, hb⟩ := hrel
            have HB := Lib.hid hb; clear hb
            by_cases hlt : i < T.length
            · have hz : (i : Int) < (T.length : Int) := by omega
              obtain ⟨gl, o, rfl, hgl2, _⟩ := HX8.out (by omega)
              have ten := (Ten.of H8.out i hlt).keep HB.out
              have FN := Lib.hid (show findC E T[i].k = some T[i].v from FND.out _ (List.getElem_mem hlt))
              have C := Lib.hid (fun W (hW : Below wc.heap.size wc W) => find_any _ E T[i].k W (H7.out.keep hW) (by unfold Room; omega))
              have fv := Lib.hid (show findV E T[i].k = T[i].v by unfold findV; rw [FN.out]; rfl)
              have fs := Lib.hid (show (findC E T[i].k).isSome = true by rw [FN.out]; rfl)
              rw [fv.out, fs.out] at C
              have NQ := Lib.hid (fun w => show (binOp .neq 33 (.agg (vrEnc T[i].v).toArray) (.agg (vrEnc T[i].v).toArray)).run Tryd.prog w = .ok (.bool false) w by rw [ver_neq, (verEq_iff _ _).2 rfl]; rfl)
              clear FN fv fs
              generalize T[i] = x at *
              obtain ⟨c0, c1, c2, c3, c4, c5, c6, c7, c8, c9⟩ := ten
              obtain ⟨⟨t, p, r, q⟩, ⟨tm, dd, lc, kd, nn, ss⟩⟩ := x
              simp only [kyVal, vrEnc] at *
              have nq := NQ.out
              have CL := Lib.hid (C.out (wr.alloc (.cells #[.string t, .string p, .int .i64 r, .string q, .int .i64 tm, .bool dd, .int .i64 lc, .int .i64 kd, .int .i64 nn, .string ss] 35)) (below_alloc HB.out _))
              have BK := Lib.hid (Blk.new wr 35 #[.string t, .string p, .int .i64 r, .string q, .int .i64 tm, .bool dd, .int .i64 lc, .int .i64 kd, .int .i64 nn, .string ss])
              go_wp2_with fail
              refine CL.out.mono ?_
              rintro e w2 ⟨rfl, hb⟩
              have HB2 := Lib.hid (below_tr (below_alloc HB.out (.cells #[.string t, .string p, .int .i64 r, .string q, .int .i64 tm, .bool dd, .int .i64 lc, .int .i64 kd, .int .i64 nn, .string ss] 35)) hb)
              have BK2 := (BK.out.below hb).alloc (.cells #[.int .i64 tm, .bool dd, .int .i64 lc, .int .i64 kd, .int .i64 nn, .string ss] 33)
              have HB3 := Lib.hid (below_alloc HB2.out (.cells #[.int .i64 tm, .bool dd, .int .i64 lc, .int .i64 kd, .int .i64 nn, .string ss] 33))
              have wlt : wr.heap.size < w2.heap.size := (BK.out.below hb).lt
              have TB := Lib.hid (BK.out.below hb)
              clear hb c0 c1 c2 c3 c4 c5 c6 c7 c8 c9 BK2
              obtain ⟨f0, f1, f2, f3, f4, f5, f6, f7, f8, f9⟩ := Blk.ten (x := (⟨⟨t, p, r, q⟩, ⟨tm, dd, lc, kd, nn, ss⟩⟩ : Cel)) TB.out
              simp only [Nat.zero_add] at f0 f1 f2 f3 f4 f5 f6 f7 f8 f9
              go_wp2_with fail
              exact ⟨⟨i + 1, by first | rfl | go_num, by omega, HB3.out⟩, by simp [intOf]; omega⟩
            · have hz : ¬ (i : Int) < (T.length : Int) := by omega
              have hle : (T.length : Int) ≤ (E.length : Int) := by omega
              go_wp2_with fail
              refine (LV.out _).mono ?_
              rintro e w2 ⟨rfl, hb⟩
              have HB2 := Lib.hid (below_tr (below_tr HW.out HB.out) hb); clear hb
              go_wp2_with fail
              go_ret
              exact ⟨rfl, HB2.out⟩
end Go.Proofs.YtmjeifbadjdnfaaDoor
