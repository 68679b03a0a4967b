/- The law RingAll. Condition: the law's bounds. -/
import Derived.Test.YtmjeifbadjdnfaaDoorGk
set_option linter.unusedVariables false
set_option linter.unusedSimpArgs false
set_option maxRecDepth 50000
namespace Go.Proofs.YtmjeifbadjdnfaaDoor
open Go.RowKit Go.Sort

theorem SlX.shape {α : Type} {E : El α} {B : Nat} {w : World} {v : Value} {l : List α} (h : SlX E B w v l) : ∃ a c, v = .slice a l.length c := by
  obtain ⟨a, c, e, _⟩ := h.ex
  exact ⟨a, c, e⟩
set_option maxHeartbeats 16000000 in
theorem RingAll_walk (a b : Int) (w : World) (a0 : 0 ≤ a) (a1 : a ≤ 18446744073709551615) (b0 : 0 ≤ b) (b1 : b ≤ 18446744073709551615) : Calls Tryd.prog 10 #[.int .u64 a, .int .u64 b] w fun e w' => e = .returned (.bool true) ∧ Below w.heap.size w w' := by
  have LV := Lib.hid (fun W => lives15 W)
  obtain ⟨n, hn⟩ : ∃ n : Nat, 1 + a % 5 = (n : Int) := ⟨(1 + a % 5).toNat, by omega⟩
  obtain ⟨k, hk⟩ : ∃ k : Nat, 1 + b % 8 = (k : Int) := ⟨(1 + b % 8).toNat, by omega⟩
  have hn1 : 1 ≤ n := by omega
  have hn5 : n ≤ 5 := by omega
  have hk1 : 1 ≤ k := by omega
  have hk8 : k ≤ 8 := by omega
  have HN := Lib.hid hn; have HK := Lib.hid hk
  have w1 : IntKind.i64.wrap (a % 5) = a % 5 := by rw [IntKind.wrap_i64]; omega
  have w2 : IntKind.i64.wrap (b % 8) = b % 8 := by rw [IntKind.wrap_i64]; omega
  have NA := Lib.hid (fun W => New_any n k n W hn1 hn5 hk1 hk8 hn1 (Nat.le_refl _))
  have NO := Lib.hid (fun W => New_any n k 1 W hn1 hn5 hk1 hk8 (Nat.le_refl _) hn1)
  have hlen : (ringL tokT n k).length ≤ 1000 := by
    rw [ringL_length]
    have : n * k ≤ 5 * 8 := Nat.mul_le_mul hn5 hk8
    omega
  have hpos : 0 < (ringL tokT n k).length := by rw [ringL_length]; exact Nat.mul_pos (by omega) (by omega)
  have hnod : ∀ p ∈ ringL tokT n k, 1 ≤ p.2 ∧ p.2 ≤ 5 := fun p hp => by have := ringL_mem tokT n k p hp; omega
  have hPA := ringL_ring tokT n k n hk1 hn1 (Nat.le_refl _)
  have hPO := ringL_ring tokT n k 1 hk1 (Nat.le_refl _) hn1
  have hcount := fun m h1 h2 => ringL_count tokT n k m h1 h2
  have hmul : (n : Int) * (k : Int) = ((ringL tokT n k).length : Int) := by rw [ringL_length]; exact (Int.natCast_mul _ _).symm
  generalize ringL tokT n k = L at *
  clear hn hk
  go_enter Tryd.func10, Tryd.ntmps10
  go_wp2_with fail
  rw [HN.out, HK.out]
  refine (NA.out _).mono ?_
  rintro e wa ⟨gA, lA, kA, rfl, hrA, hbA⟩
  have RA0 := Lib.hid hrA; have BA := Lib.hid hbA
  clear hrA hbA NA
  go_wp2_with fail
  refine (NO.out _).mono ?_
  rintro e wo ⟨gO, lO, kO, rfl, hrO, hbO⟩
  have RA1 := Lib.hid (RA0.out.keep hbO); have RO1 := Lib.hid hrO; have BO := Lib.hid (below_tr BA.out hbO)
  clear hrO hbO NO BA RA0
  have PA := Lib.hid (fun W (h : RingAt eP W gA lA 0 kA L (n : Int)) => Points_any gA lA 0 kA L (n : Int) W h (by omega) hlen)
  have PO := Lib.hid (fun W (h : RingAt eP W gO lO 0 kO L ((1 : Nat) : Int)) => Points_any gO lO 0 kO L ((1 : Nat) : Int) W h (by decide) hlen)
  go_wp2_with fail
  refine (PO.out _ RO1.out).mono ?_
  rintro e W2 ⟨v, rfl, hO, hb⟩
  obtain ⟨gx, cx, rfl, _⟩ := OwnX.formN hO L.length rfl hpos
  have RA := Lib.hid (RA1.out.keep hb); have RO := Lib.hid (RO1.out.keep hb); have B2 := Lib.hid (below_tr BO.out hb)
  have PS := Lib.hid hO.sl
  clear hO hb RA1 RO1 BO
  have RP := Lib.hid (fun (j : Nat) (hj : j < L.length) W (h : InW W2 W) => Replicas_any gO lO 0 kO L 1 (j : Int) W (RO.out.keep h) (by decide) (by decide) hlen hnod)
  have HA := Lib.hid (fun (j : Nat) m W (h : InW W2 W) => Has_any gA lA 0 kA L n (j : Int) m W (RA.out.keep h) (by omega) hn5 hlen hnod)
  have HO := Lib.hid (fun (j : Nat) m W (h : InW W2 W) => Has_any gO lO 0 kO L 1 (j : Int) m W (RO.out.keep h) (by decide) (by decide) hlen hnod)
  have GA := Lib.hid (fun m W (h : InW W2 W) => Ranges_any gA lA 0 kA L n m W (RA.out.keep h) (by omega) hn5 hpos hlen hnod)
  have GO := Lib.hid (fun m W (h : InW W2 W) => Ranges_any gO lO 0 kO L 1 m W (RO.out.keep h) (by decide) (by decide) hpos hlen hnod)
  have IN := Lib.hid (show ∀ v1 v2 (y : Int) W, SlX eI W.heap.size W v1 [y] → SlX eI W.heap.size W v2 [y] → Calls Tryd.prog 28 #[v1, v2] W (fun e w' => e = .returned (.bool true) ∧ Below W.heap.size W w') from fun v1 v2 y W h1 h2 => (Ints_any v1 v2 [y] [y] W h1 h2 (by simp) (by simp)).mono (fun e w' ⟨he, hb⟩ => ⟨by rw [he]; simp, hb⟩))
  have QA := Lib.hid hPA; have QO := Lib.hid hPO; have CN := Lib.hid hcount
  clear hPA hPO hcount hnod
  go_wp2_with fail
  refine (PA.out _ RA.out).mono ?_
  rintro e W3 ⟨v, rfl, hO, hb⟩
  obtain ⟨gy, cy, rfl, _⟩ := OwnX.formN hO L.length rfl hpos
  have B3 := Lib.hid hb
  clear hO hb
  go_wp2_with fail
  go_loopw [10, 11, 53] (fun _ _ vi wr => ∃ j : Nat, j ≤ L.length ∧ vi = .int .i64 (j : Int) ∧ Below W2.heap.size W2 wr) (fun _ _ vi _ => L.length - (intOf vi).toNat)
  case atStart => exact ⟨0, by omega, rfl, B3.out⟩
  case round =>
    obtain ⟨j, hj, rfl, hBr⟩ := hrel
    have HBr := Lib.hid hBr
    clear hBr B3
    by_cases hlt : j < L.length
    · have hz : (j : Int) < (L.length : Int) := by omega
      obtain ⟨e0, e1⟩ := eP_cell PS.out j hlt
      rw [Nat.zero_add] at e0 e1
      have hone := repOf_one QO.out j hlt
      have hall := repOf_all QA.out j hlt
      have RPj := RP.out j hlt
      rw [hone] at RPj
      have HOj := fun m => HO.out j m
      rw [hone] at HOj
      have hsrt : ∀ i (h : i + 1 = j), L[i].1 ≤ L[j].1 := fun i h => by
        have := QA.out.sorted.get i j (by omega) hlt
        rw [ptLe_iff] at this; omega
      obtain ⟨y1, hy1⟩ : ∃ y, L[j].1 = y := ⟨_, rfl⟩
      obtain ⟨y2, hy2⟩ : ∃ y, L[j].2 = y := ⟨_, rfl⟩
      rw [hy2] at e1 RPj HOj
      rw [hy1] at e0 hsrt
      have RPJ := Lib.hid RPj; have HOJ := Lib.hid HOj; have HALL := Lib.hid hall
      clear hone hy1 hy2 RPj HOj hall
      by_cases hj0 : j = 0
      · have gj : decide ((j : Int) > 0) = false := by rw [decide_eq_false_iff_not]; omega
        have gj1 : decide (0 < j) = false := by rw [decide_eq_false_iff_not]; omega
        have gj3 : decide ((0 : Int) < (j : Int)) = false := by rw [decide_eq_false_iff_not]; omega
        have HS : ∀ w', Below W2.heap.size W2 w' → (InW W2 w' ∧ w'.cell? ⟨gx, j * 2, none⟩ = some (.int .i64 y1) ∧ w'.cell? ⟨gx, j * 2 + 1, none⟩ = some (.int .i64 y2)) := fun w' h => ⟨h, cell_keep h e0, cell_keep h e1⟩
        have HS' := Lib.hid HS; clear HS
        have hh := HS'.out wr HBr.out
        obtain ⟨_, e0', e1'⟩ := hh
        have HJ0 := Lib.hid hj0; have GJ := Lib.hid gj; have GJ1 := Lib.hid gj1; have GJ3 := Lib.hid gj3
        clear hj0 gj gj1 gj3
        go_wp2_with fail
        have gj := GJ.out; have gj3 := GJ3.out; have gj1 := GJ1.out
        -- region 11, the first point
        refine wp_region_held_drew (S := (fun w' => InW W2 w' ∧ w'.cell? ⟨gx, j * 2, none⟩ = some (.int .i64 y1) ∧ w'.cell? ⟨gx, j * 2 + 1, none⟩ = some (.int .i64 y2))) (by kernel_rfl) (HS'.out _ (by repeat (first | exact HBr.out | refine Below.drew ?_))) (fun hHeld => ?_)
        refine wpAnyH_take (i := 0) (v := .int .i64 (j : Int)) rfl (by kernel_rfl) (by kernel_rfl) (by kernel_rfl) (fun _ _ _ h => h) (Or.inl ⟨by rfl, ?_⟩) (by assumption) ?_
        · intro ww hSw; obtain ⟨_, hs1, hs2⟩ := hSw; go_simp
        (try simp only [Act.put, List.getElem_toArray, List.getElem_cons_succ, List.getElem_cons_zero, List.setIfInBounds_toArray, List.set_cons_zero, List.set_cons_succ])
        refine wpAnyH_take (i := 1) (v := .bool false) rfl (by kernel_rfl) (by kernel_rfl) (by kernel_rfl) (fun _ _ _ h => h) (Or.inl ⟨by rfl, ?_⟩) (by assumption) ?_
        · intro ww hSw; obtain ⟨_, hs1, hs2⟩ := hSw; go_simp
        (try simp only [Act.put, List.getElem_toArray, List.getElem_cons_succ, List.getElem_cons_zero, List.setIfInBounds_toArray, List.set_cons_zero, List.set_cons_succ])
        refine wpAnyH_take (i := 2) (v := .bool false) rfl (by kernel_rfl) (by kernel_rfl) (by kernel_rfl) (fun _ _ _ h => h) (Or.inl ⟨by rfl, ?_⟩) (by assumption) ?_
        · intro ww hSw; obtain ⟨_, hs1, hs2⟩ := hSw; go_simp
        (try simp only [Act.put, List.getElem_toArray, List.getElem_cons_succ, List.getElem_cons_zero, List.setIfInBounds_toArray, List.set_cons_zero, List.set_cons_succ])
        refine wpAnyH_take (i := 3) (v := undef) rfl (by kernel_rfl) (by kernel_rfl) (by kernel_rfl) (fun _ _ _ h => h) (Or.inr ⟨by rfl, rfl⟩) (by assumption) ?_
        (try simp only [Act.put, List.getElem_toArray, List.getElem_cons_succ, List.getElem_cons_zero, List.setIfInBounds_toArray, List.set_cons_zero, List.set_cons_succ])
        refine wpAnyH_take (i := 4) (v := undef) rfl (by kernel_rfl) (by kernel_rfl) (by kernel_rfl) (fun _ _ _ h => h) (Or.inr ⟨by rfl, rfl⟩) (by assumption) ?_
        (try simp only [Act.put, List.getElem_toArray, List.getElem_cons_succ, List.getElem_cons_zero, List.setIfInBounds_toArray, List.set_cons_zero, List.set_cons_succ])
        refine wpAnyH_take (i := 5) (v := undef) rfl (by kernel_rfl) (by kernel_rfl) (by kernel_rfl) (fun _ _ _ h => h) (Or.inr ⟨by rfl, rfl⟩) (by assumption) ?_
        (try simp only [Act.put, List.getElem_toArray, List.getElem_cons_succ, List.getElem_cons_zero, List.setIfInBounds_toArray, List.set_cons_zero, List.set_cons_succ])
        refine wpAnyH_take (i := 6) (v := undef) rfl (by kernel_rfl) (by kernel_rfl) (by kernel_rfl) (fun _ _ _ h => h) (Or.inr ⟨by rfl, rfl⟩) (by assumption) ?_
        (try simp only [Act.put, List.getElem_toArray, List.getElem_cons_succ, List.getElem_cons_zero, List.setIfInBounds_toArray, List.set_cons_zero, List.set_cons_succ])
        refine wpAnyH_take (i := 7) (v := undef) rfl (by kernel_rfl) (by kernel_rfl) (by kernel_rfl) (fun _ _ _ h => h) (Or.inr ⟨by rfl, rfl⟩) (by assumption) ?_
        (try simp only [Act.put, List.getElem_toArray, List.getElem_cons_succ, List.getElem_cons_zero, List.setIfInBounds_toArray, List.set_cons_zero, List.set_cons_succ])
        refine wpAnyH_take (i := 8) (v := undef) rfl (by kernel_rfl) (by kernel_rfl) (by kernel_rfl) (fun _ _ _ h => h) (Or.inr ⟨by rfl, rfl⟩) (by assumption) ?_
        (try simp only [Act.put, List.getElem_toArray, List.getElem_cons_succ, List.getElem_cons_zero, List.setIfInBounds_toArray, List.set_cons_zero, List.set_cons_succ])
        refine wpAnyH_take (i := 9) (v := undef) rfl (by kernel_rfl) (by kernel_rfl) (by kernel_rfl) (fun _ _ _ h => h) (Or.inr ⟨by rfl, rfl⟩) (by assumption) ?_
        (try simp only [Act.put, List.getElem_toArray, List.getElem_cons_succ, List.getElem_cons_zero, List.setIfInBounds_toArray, List.set_cons_zero, List.set_cons_succ])
        refine wpAnyH_take (i := 10) (v := undef) rfl (by kernel_rfl) (by kernel_rfl) (by kernel_rfl) (fun _ _ _ h => h) (Or.inr ⟨by rfl, rfl⟩) (by assumption) ?_
        (try simp only [Act.put, List.getElem_toArray, List.getElem_cons_succ, List.getElem_cons_zero, List.setIfInBounds_toArray, List.set_cons_zero, List.set_cons_succ])
        refine wpAnyH_take (i := 11) (v := undef) rfl (by kernel_rfl) (by kernel_rfl) (by kernel_rfl) (fun _ _ _ h => h) (Or.inr ⟨by rfl, rfl⟩) (by assumption) ?_
        (try simp only [Act.put, List.getElem_toArray, List.getElem_cons_succ, List.getElem_cons_zero, List.setIfInBounds_toArray, List.set_cons_zero, List.set_cons_succ])
        refine wpAnyH_take (i := 12) (v := undef) rfl (by kernel_rfl) (by kernel_rfl) (by kernel_rfl) (fun _ _ _ h => h) (Or.inr ⟨by rfl, rfl⟩) (by assumption) ?_
        (try simp only [Act.put, List.getElem_toArray, List.getElem_cons_succ, List.getElem_cons_zero, List.setIfInBounds_toArray, List.set_cons_zero, List.set_cons_succ])
        refine wpAnyH_take (i := 13) (v := undef) rfl (by kernel_rfl) (by kernel_rfl) (by kernel_rfl) (fun _ _ _ h => h) (Or.inr ⟨by rfl, rfl⟩) (by assumption) ?_
        (try simp only [Act.put, List.getElem_toArray, List.getElem_cons_succ, List.getElem_cons_zero, List.setIfInBounds_toArray, List.set_cons_zero, List.set_cons_succ])
        refine wpAnyH_take (i := 14) (v := undef) rfl (by kernel_rfl) (by kernel_rfl) (by kernel_rfl) (fun _ _ _ h => h) (Or.inr ⟨by rfl, rfl⟩) (by assumption) ?_
        (try simp only [Act.put, List.getElem_toArray, List.getElem_cons_succ, List.getElem_cons_zero, List.setIfInBounds_toArray, List.set_cons_zero, List.set_cons_succ])
        refine wpAnyH_take (i := 15) (v := .bool false) rfl (by kernel_rfl) (by kernel_rfl) (by kernel_rfl) (fun _ _ _ h => h) (Or.inl ⟨by rfl, ?_⟩) (by assumption) ?_
        · intro ww hSw; obtain ⟨_, hs1, hs2⟩ := hSw; go_simp
        (try simp only [Act.put, List.getElem_toArray, List.getElem_cons_succ, List.getElem_cons_zero, List.setIfInBounds_toArray, List.set_cons_zero, List.set_cons_succ])
        refine wpAnyH_take (i := 16) (v := .bool false) rfl (by kernel_rfl) (by kernel_rfl) (by kernel_rfl) (fun _ _ _ h => h) (Or.inl ⟨by rfl, ?_⟩) (by assumption) ?_
        · intro ww hSw; obtain ⟨_, hs1, hs2⟩ := hSw; go_simp
        (try simp only [Act.put, List.getElem_toArray, List.getElem_cons_succ, List.getElem_cons_zero, List.setIfInBounds_toArray, List.set_cons_zero, List.set_cons_succ])
        refine wpAnyH_take (i := 17) (v := .pointer (some ⟨gO, 0, none⟩)) rfl (by kernel_rfl) (by kernel_rfl) (by kernel_rfl) (fun _ _ _ h => h) (Or.inl ⟨by rfl, ?_⟩) (by assumption) ?_
        · intro ww hSw; obtain ⟨_, hs1, hs2⟩ := hSw; go_simp
        (try simp only [Act.put, List.getElem_toArray, List.getElem_cons_succ, List.getElem_cons_zero, List.setIfInBounds_toArray, List.set_cons_zero, List.set_cons_succ])
        refine wpAnyH_take (i := 18) (v := .int .i64 (j : Int)) rfl (by kernel_rfl) (by kernel_rfl) (by kernel_rfl) (fun _ _ _ h => h) (Or.inl ⟨by rfl, ?_⟩) (by assumption) ?_
        · intro ww hSw; obtain ⟨_, hs1, hs2⟩ := hSw; go_simp
        (try simp only [Act.put, List.getElem_toArray, List.getElem_cons_succ, List.getElem_cons_zero, List.setIfInBounds_toArray, List.set_cons_zero, List.set_cons_succ])
        refine wpAnyH_take (i := 20) (v := .slice (some ⟨gx, 0, none⟩) L.length cx) rfl (by kernel_rfl) (by kernel_rfl) (by kernel_rfl) (fun _ _ _ h => h) (Or.inl ⟨by rfl, ?_⟩) (by assumption) ?_
        · intro ww hSw; obtain ⟨_, hs1, hs2⟩ := hSw; go_simp
        (try simp only [Act.put, List.getElem_toArray, List.getElem_cons_succ, List.getElem_cons_zero, List.setIfInBounds_toArray, List.set_cons_zero, List.set_cons_succ])
        refine wpAnyH_take (i := 21) (v := .int .i64 (j : Int)) rfl (by kernel_rfl) (by kernel_rfl) (by kernel_rfl) (fun _ _ _ h => h) (Or.inl ⟨by rfl, ?_⟩) (by assumption) ?_
        · intro ww hSw; obtain ⟨_, hs1, hs2⟩ := hSw; go_simp
        (try simp only [Act.put, List.getElem_toArray, List.getElem_cons_succ, List.getElem_cons_zero, List.setIfInBounds_toArray, List.set_cons_zero, List.set_cons_succ])
        refine wpAnyH_take (i := 22) (v := .pointer (some ⟨gx, j * 2, none⟩)) rfl (by kernel_rfl) (by kernel_rfl) (by kernel_rfl) (fun _ _ _ h => h) (Or.inl ⟨by rfl, ?_⟩) (by assumption) ?_
        · intro ww hSw; obtain ⟨_, hs1, hs2⟩ := hSw; go_simp
        (try simp only [Act.put, List.getElem_toArray, List.getElem_cons_succ, List.getElem_cons_zero, List.setIfInBounds_toArray, List.set_cons_zero, List.set_cons_succ])
        refine wpAnyH_take (i := 23) (v := .pointer (some ⟨gx, j * 2 + 1, none⟩)) rfl (by kernel_rfl) (by kernel_rfl) (by kernel_rfl) (fun _ _ _ h => h) (Or.inl ⟨by rfl, ?_⟩) (by assumption) ?_
        · intro ww hSw; obtain ⟨_, hs1, hs2⟩ := hSw; go_simp
        (try simp only [Act.put, List.getElem_toArray, List.getElem_cons_succ, List.getElem_cons_zero, List.setIfInBounds_toArray, List.set_cons_zero, List.set_cons_succ])
        refine wpAnyH_take (i := 24) (v := .int .i64 y2) rfl (by kernel_rfl) (by kernel_rfl) (by kernel_rfl) (fun _ _ _ h => h) (Or.inl ⟨by rfl, ?_⟩) (by assumption) ?_
        · intro ww hSw; obtain ⟨_, hs1, hs2⟩ := hSw; go_simp
        (try simp only [Act.put, List.getElem_toArray, List.getElem_cons_succ, List.getElem_cons_zero, List.setIfInBounds_toArray, List.set_cons_zero, List.set_cons_succ])
        refine wpAnyH_ready (rs := [19, 25]) (by kernel_rfl) (by simp) ?_
        refine AllReadyH.cons rfl (fun K hK => ?_) (AllReadyH.cons rfl (fun K hK => ?_) AllReadyH.nil)
        · (go_simp; go_at_call 29; refine (RPJ.out _ (‹InW W2 _ ∧ _›).1).mono ?_; rintro e w' ⟨v1, rfl, hO1, hb1⟩)
          refine hK.out _ _ ?_ (fun hHeld => ?_)
          · (first | assumption | exact HS'.out _ (by repeat (first | exact HBr.out | exact (show Below W2.heap.size W2 _ from And.left (by assumption)) | exact below_tr (show Below W2.heap.size W2 _ from And.left (by assumption)) (by assumption) | refine Below.drew ?_ | refine below_alloc ?_ _)))
          clear hK K
          (try simp only [Act.put, List.getElem_toArray, List.getElem_cons_succ, List.getElem_cons_zero, List.setIfInBounds_toArray, List.set_cons_zero, List.set_cons_succ])
          refine wpAnyH_ready (rs := [25]) (by kernel_rfl) (by simp) ?_
          refine AllReadyH.cons rfl (fun K hK => ?_) AllReadyH.nil
          go_simp
          refine hK.out _ _ ?_ (fun hHeld => ?_)
          · (first | assumption | exact HS'.out _ (by repeat (first | exact HBr.out | exact (show Below W2.heap.size W2 _ from And.left (by assumption)) | exact below_tr (show Below W2.heap.size W2 _ from And.left (by assumption)) (by assumption) | refine Below.drew ?_ | refine below_alloc ?_ _)))
          clear hK K
          (try simp only [Act.put, List.getElem_toArray, List.getElem_cons_succ, List.getElem_cons_zero, List.setIfInBounds_toArray, List.set_cons_zero, List.set_cons_succ])
          refine wpAnyH_ready (rs := [26]) (by kernel_rfl) (by simp) ?_
          refine AllReadyH.cons rfl (fun K hK => ?_) AllReadyH.nil
          (go_simp; go_at_call 28; refine (IN.out _ _ y2 _ (by first | exact hO1.sl | exact (hO1.alloc _).sl | exact (hO1.below (by repeat (first | exact Below.refl _ _ | refine Below.drew ?_ | refine below_alloc ?_ _))).sl) (by first | exact SlX.lit (E := eI) _ #[.int .i64 y2] [y2] 1 1 rfl (by simp) (by simp [eI_cells]) | exact (SlX.lit (E := eI) wr.drew #[.int .i64 y2] [y2] 1 1 rfl (by simp) (by simp [eI_cells])).keep hb1 | exact (SlX.lit (E := eI) _ #[.int .i64 y2] [y2] 1 1 rfl (by simp) (by simp [eI_cells])).keep hb1)).mono ?_; rintro e w' ⟨rfl, hb⟩)
          refine hK.out _ _ ?_ (fun hHeld => ?_)
          · (first | assumption | exact HS'.out _ (by repeat (first | exact HBr.out | exact (show Below W2.heap.size W2 _ from And.left (by assumption)) | exact below_tr (show Below W2.heap.size W2 _ from And.left (by assumption)) (by assumption) | refine Below.drew ?_ | refine below_alloc ?_ _)))
          clear hK K
          (try simp only [Act.put, List.getElem_toArray, List.getElem_cons_succ, List.getElem_cons_zero, List.setIfInBounds_toArray, List.set_cons_zero, List.set_cons_succ])
          refine wpAnyH_take (i := 27) (v := .bool false) rfl (by kernel_rfl) (by kernel_rfl) (by kernel_rfl) (fun _ _ _ h => h) (Or.inl ⟨by rfl, ?_⟩) (by assumption) ?_
          · intro ww hSw; obtain ⟨_, hs1, hs2⟩ := hSw; go_simp
          (try simp only [Act.put, List.getElem_toArray, List.getElem_cons_succ, List.getElem_cons_zero, List.setIfInBounds_toArray, List.set_cons_zero, List.set_cons_succ])
          refine wpAnyH_take (i := 28) (v := .bool false) rfl (by kernel_rfl) (by kernel_rfl) (by kernel_rfl) (fun _ _ _ h => h) (Or.inl ⟨by rfl, ?_⟩) (by assumption) ?_
          · intro ww hSw; obtain ⟨_, hs1, hs2⟩ := hSw; go_simp
          (try simp only [Act.put, List.getElem_toArray, List.getElem_cons_succ, List.getElem_cons_zero, List.setIfInBounds_toArray, List.set_cons_zero, List.set_cons_succ])
          refine wpAnyH_done (by kernel_rfl) ?_ _
          have hB4 := (show Below W2.heap.size W2 w' from (‹InW W2 w' ∧ _›).1)
          have B4 := Lib.hid hB4
          clear hO1 hb1 hb hB4 HS' hHeld
          go_wp2_with fail
          go_loopw [11] (fun vm wr => ∃ m : Int, vm = .int .i64 m ∧ 1 ≤ m ∧ m ≤ (n : Int) + 1 ∧ Below W2.heap.size W2 wr) (fun vm _ => ((n : Int) + 1 - intOf vm).toNat)
          case atStart => exact ⟨1, rfl, by omega, by omega, B4.out⟩
          case round =>
            obtain ⟨m, rfl, m1, m2, hBs⟩ := hrel
            have HBs := Lib.hid hBs
            clear hBs B4
            by_cases hm : m ≤ (n : Int)
            · have z1 : decide (m ∈ repOf L n (j : Int)) = true := decide_eq_true (HALL.out m m1 hm)
              have z2 : decide (m ∈ [y2]) = (m == y2) := by rw [Bool.eq_iff_iff]; simp
              have HAj := fun W h => HA.out j m W h
              have HOj := fun W h => HOJ.out m W h
              rw [z1] at HAj
              rw [z2] at HOj
              have HAJ := Lib.hid HAj; have HOJ2 := Lib.hid HOj
              clear HAj HOj z1 z2
              have e1' := cell_keep HBs.out e1
              have HS : ∀ w', Below W2.heap.size W2 w' → (InW W2 w' ∧ w'.cell? ⟨gx, j * 2 + 1, none⟩ = some (.int .i64 y2)) := fun w' h => ⟨h, cell_keep h e1⟩
              have HS' := Lib.hid HS; clear HS
              go_wp2_with fail
              go_region_held3 (fun w' => InW W2 w' ∧ w'.cell? ⟨gx, j * 2 + 1, none⟩ = some (.int .i64 y2))
                (first | assumption | exact HS'.out _ (by repeat (first | exact HBs.out | exact (show Below W2.heap.size W2 _ from And.left (by assumption)) | exact below_tr (show Below W2.heap.size W2 _ from And.left (by assumption)) (by assumption) | refine Below.drew ?_ | refine below_alloc ?_ _)))
                (first | (go_at_call 33; (first | with_reducible refine (HAJ.out _ (‹InW W2 _ ∧ _›).1).mono ?_ | with_reducible refine (HOJ2.out _ (‹InW W2 _ ∧ _›).1).mono ?_); rintro e w' ⟨rfl, hb⟩))
              have hB5 := (show Below W2.heap.size W2 w' from (‹InW W2 w' ∧ _›).1)
              have B5 := Lib.hid hB5
              clear hB5 hb HS' e1'
              go_wp2_with fail
              go_roundw
              case rel => exact ⟨m + 1, by first | rfl | (rw [show wrap64 (m + 1) = m + 1 by unfold wrap64; omega]), by omega, by omega, B5.out⟩
              case measure => simp [intOf]; omega
            · go_wp2_with fail
              go_roundw
              case rel => exact ⟨j + 1, by omega, by first | rfl | go_num, HBs.out⟩
              case measure => simp [intOf]; omega
        · go_simp
          refine hK.out _ _ ?_ (fun hHeld => ?_)
          · (first | assumption | exact HS'.out _ (by repeat (first | exact HBr.out | exact (show Below W2.heap.size W2 _ from And.left (by assumption)) | exact below_tr (show Below W2.heap.size W2 _ from And.left (by assumption)) (by assumption) | refine Below.drew ?_ | refine below_alloc ?_ _)))
          clear hK K
          (try simp only [Act.put, List.getElem_toArray, List.getElem_cons_succ, List.getElem_cons_zero, List.setIfInBounds_toArray, List.set_cons_zero, List.set_cons_succ])
          refine wpAnyH_ready (rs := [19]) (by kernel_rfl) (by simp) ?_
          refine AllReadyH.cons rfl (fun K hK => ?_) AllReadyH.nil
          (go_simp; go_at_call 29; refine (RPJ.out _ (‹InW W2 _ ∧ _›).1).mono ?_; rintro e w' ⟨v1, rfl, hO1, hb1⟩)
          refine hK.out _ _ ?_ (fun hHeld => ?_)
          · (first | assumption | exact HS'.out _ (by repeat (first | exact HBr.out | exact (show Below W2.heap.size W2 _ from And.left (by assumption)) | exact below_tr (show Below W2.heap.size W2 _ from And.left (by assumption)) (by assumption) | refine Below.drew ?_ | refine below_alloc ?_ _)))
          clear hK K
          (try simp only [Act.put, List.getElem_toArray, List.getElem_cons_succ, List.getElem_cons_zero, List.setIfInBounds_toArray, List.set_cons_zero, List.set_cons_succ])
          refine wpAnyH_ready (rs := [26]) (by kernel_rfl) (by simp) ?_
          refine AllReadyH.cons rfl (fun K hK => ?_) AllReadyH.nil
          (go_simp; go_at_call 28; refine (IN.out _ _ y2 _ (by first | exact hO1.sl | exact (hO1.alloc _).sl | exact (hO1.below (by repeat (first | exact Below.refl _ _ | refine Below.drew ?_ | refine below_alloc ?_ _))).sl) (by first | exact SlX.lit (E := eI) _ #[.int .i64 y2] [y2] 1 1 rfl (by simp) (by simp [eI_cells]) | exact (SlX.lit (E := eI) wr.drew #[.int .i64 y2] [y2] 1 1 rfl (by simp) (by simp [eI_cells])).keep hb1 | exact (SlX.lit (E := eI) _ #[.int .i64 y2] [y2] 1 1 rfl (by simp) (by simp [eI_cells])).keep hb1)).mono ?_; rintro e w' ⟨rfl, hb⟩)
          refine hK.out _ _ ?_ (fun hHeld => ?_)
          · (first | assumption | exact HS'.out _ (by repeat (first | exact HBr.out | exact (show Below W2.heap.size W2 _ from And.left (by assumption)) | exact below_tr (show Below W2.heap.size W2 _ from And.left (by assumption)) (by assumption) | refine Below.drew ?_ | refine below_alloc ?_ _)))
          clear hK K
          (try simp only [Act.put, List.getElem_toArray, List.getElem_cons_succ, List.getElem_cons_zero, List.setIfInBounds_toArray, List.set_cons_zero, List.set_cons_succ])
          refine wpAnyH_take (i := 27) (v := .bool false) rfl (by kernel_rfl) (by kernel_rfl) (by kernel_rfl) (fun _ _ _ h => h) (Or.inl ⟨by rfl, ?_⟩) (by assumption) ?_
          · intro ww hSw; obtain ⟨_, hs1, hs2⟩ := hSw; go_simp
          (try simp only [Act.put, List.getElem_toArray, List.getElem_cons_succ, List.getElem_cons_zero, List.setIfInBounds_toArray, List.set_cons_zero, List.set_cons_succ])
          refine wpAnyH_take (i := 28) (v := .bool false) rfl (by kernel_rfl) (by kernel_rfl) (by kernel_rfl) (fun _ _ _ h => h) (Or.inl ⟨by rfl, ?_⟩) (by assumption) ?_
          · intro ww hSw; obtain ⟨_, hs1, hs2⟩ := hSw; go_simp
          (try simp only [Act.put, List.getElem_toArray, List.getElem_cons_succ, List.getElem_cons_zero, List.setIfInBounds_toArray, List.set_cons_zero, List.set_cons_succ])
          refine wpAnyH_done (by kernel_rfl) ?_ _
          have hB4 := (show Below W2.heap.size W2 w' from (‹InW W2 w' ∧ _›).1)
          have B4 := Lib.hid hB4
          clear hO1 hb1 hb hB4 HS' hHeld
          go_wp2_with fail
          go_loopw [11] (fun vm wr => ∃ m : Int, vm = .int .i64 m ∧ 1 ≤ m ∧ m ≤ (n : Int) + 1 ∧ Below W2.heap.size W2 wr) (fun vm _ => ((n : Int) + 1 - intOf vm).toNat)
          case atStart => exact ⟨1, rfl, by omega, by omega, B4.out⟩
          case round =>
            obtain ⟨m, rfl, m1, m2, hBs⟩ := hrel
            have HBs := Lib.hid hBs
            clear hBs B4
            by_cases hm : m ≤ (n : Int)
            · have z1 : decide (m ∈ repOf L n (j : Int)) = true := decide_eq_true (HALL.out m m1 hm)
              have z2 : decide (m ∈ [y2]) = (m == y2) := by rw [Bool.eq_iff_iff]; simp
              have HAj := fun W h => HA.out j m W h
              have HOj := fun W h => HOJ.out m W h
              rw [z1] at HAj
              rw [z2] at HOj
              have HAJ := Lib.hid HAj; have HOJ2 := Lib.hid HOj
              clear HAj HOj z1 z2
              have e1' := cell_keep HBs.out e1
              have HS : ∀ w', Below W2.heap.size W2 w' → (InW W2 w' ∧ w'.cell? ⟨gx, j * 2 + 1, none⟩ = some (.int .i64 y2)) := fun w' h => ⟨h, cell_keep h e1⟩
              have HS' := Lib.hid HS; clear HS
              go_wp2_with fail
              go_region_held3 (fun w' => InW W2 w' ∧ w'.cell? ⟨gx, j * 2 + 1, none⟩ = some (.int .i64 y2))
                (first | assumption | exact HS'.out _ (by repeat (first | exact HBs.out | exact (show Below W2.heap.size W2 _ from And.left (by assumption)) | exact below_tr (show Below W2.heap.size W2 _ from And.left (by assumption)) (by assumption) | refine Below.drew ?_ | refine below_alloc ?_ _)))
                (first | (go_at_call 33; (first | with_reducible refine (HAJ.out _ (‹InW W2 _ ∧ _›).1).mono ?_ | with_reducible refine (HOJ2.out _ (‹InW W2 _ ∧ _›).1).mono ?_); rintro e w' ⟨rfl, hb⟩))
              have hB5 := (show Below W2.heap.size W2 w' from (‹InW W2 w' ∧ _›).1)
              have B5 := Lib.hid hB5
              clear hB5 hb HS' e1'
              go_wp2_with fail
              go_roundw
              case rel => exact ⟨m + 1, by first | rfl | (rw [show wrap64 (m + 1) = m + 1 by unfold wrap64; omega]), by omega, by omega, B5.out⟩
              case measure => simp [intOf]; omega
            · go_wp2_with fail
              go_roundw
              case rel => exact ⟨j + 1, by omega, by first | rfl | go_num, HBs.out⟩
              case measure => simp [intOf]; omega
        -- behind it
      · obtain ⟨i, rfl⟩ : ∃ i, j = i + 1 := ⟨j - 1, by omega⟩
        have gj : decide ((i : Int) + 1 > 0) = true := by rw [decide_eq_true_eq]; omega
        have gj3 : decide ((0 : Int) < (i : Int) + 1) = true := by rw [decide_eq_true_eq]; omega
        have gj4 : decide (0 < i + 1) = true := by rw [decide_eq_true_eq]; omega
        have hwi : IntKind.i64.wrap (i : Int) = (i : Int) := by rw [IntKind.wrap_i64]; omega
        have hiz : (i : Int) < (L.length : Int) := by omega
        have hiz2 : (i : Int) + 1 < (L.length : Int) := by omega
        have hiz2' := Lib.hid hiz2; have hiz' := Lib.hid hiz
        have p0 := (eP_cell PS.out i (by omega)).1
        rw [Nat.zero_add] at p0
        have hle := hsrt i rfl
        obtain ⟨y0, hy0⟩ : ∃ y, L[i].1 = y := ⟨_, rfl⟩
        rw [hy0] at p0 hle
        have hle2 : ¬ y1 < y0 := by omega
        have gle : decide (y0 > y1) = false := by rw [decide_eq_false_iff_not]; omega
        have gle2 : decide (y1 < y0) = false := by rw [decide_eq_false_iff_not]; omega
        clear hy0 hj0
        have HS : ∀ w', Below W2.heap.size W2 w' → (InW W2 w' ∧ w'.cell? ⟨gx, (i + 1) * 2, none⟩ = some (.int .i64 y1) ∧ w'.cell? ⟨gx, (i + 1) * 2 + 1, none⟩ = some (.int .i64 y2) ∧ w'.cell? ⟨gx, i * 2, none⟩ = some (.int .i64 y0)) := fun w' h => ⟨h, cell_keep h e0, cell_keep h e1, cell_keep h p0⟩
        have HS' := Lib.hid HS; clear HS
        have hh := HS'.out wr HBr.out
        obtain ⟨_, e0', e1', p0'⟩ := hh
        have GJ := Lib.hid gj; have GJ3 := Lib.hid gj3; have GJ4 := Lib.hid gj4; have GL1 := Lib.hid gle; have GL2 := Lib.hid gle2
        clear gj gj3 gj4 gle gle2
        go_wp2_with fail
        have gj := GJ.out; have gj3 := GJ3.out; have gj4 := GJ4.out; have gle := GL1.out; have gle2 := GL2.out
        have hia : (0 : Int) ≤ (i : Int) + 1 := by omega
        have hib : (i : Int) + 1 < (L.length : Int) := hiz2'.out
        have hic : (i : Int) < (L.length : Int) := hiz'.out
        go_region_held3 (fun w' => InW W2 w' ∧ w'.cell? ⟨gx, (i + 1) * 2, none⟩ = some (.int .i64 y1) ∧ w'.cell? ⟨gx, (i + 1) * 2 + 1, none⟩ = some (.int .i64 y2) ∧ w'.cell? ⟨gx, i * 2, none⟩ = some (.int .i64 y0))
          (first | assumption | exact HS'.out _ (by repeat (first | exact HBr.out | exact (show Below W2.heap.size W2 _ from And.left (by assumption)) | exact below_tr (show Below W2.heap.size W2 _ from And.left (by assumption)) (by assumption) | refine Below.drew ?_ | refine below_alloc ?_ _)))
          (first
            | (go_at_call 29; refine (RPJ.out _ (‹InW W2 _ ∧ _›).1).mono ?_; rintro e w' ⟨v1, rfl, hO1, hb1⟩)
            | (go_at_call 28; refine (IN.out _ _ y2 _ (by first | exact hO1.sl | exact (hO1.alloc _).sl | exact (hO1.below (by repeat (first | exact Below.refl _ _ | refine Below.drew ?_ | refine below_alloc ?_ _))).sl) (by first | exact SlX.lit (E := eI) _ #[.int .i64 y2] [y2] 1 1 rfl (by simp) (by simp [eI_cells]) | exact (SlX.lit (E := eI) wr.drew #[.int .i64 y2] [y2] 1 1 rfl (by simp) (by simp [eI_cells])).keep hb1 | exact (SlX.lit (E := eI) _ #[.int .i64 y2] [y2] 1 1 rfl (by simp) (by simp [eI_cells])).keep hb1)).mono ?_; rintro e w' ⟨rfl, hb⟩))
        all_goals (
          have hB4 := (show Below W2.heap.size W2 w' from (‹InW W2 w' ∧ _›).1)
          have B4 := Lib.hid hB4
          clear hO1 hb1 hb hB4 HS'
          go_wp2_with fail
          go_loopw [11] (fun vm wr => ∃ m : Int, vm = .int .i64 m ∧ 1 ≤ m ∧ m ≤ (n : Int) + 1 ∧ Below W2.heap.size W2 wr) (fun vm _ => ((n : Int) + 1 - intOf vm).toNat)
          case atStart => exact ⟨1, rfl, by omega, by omega, B4.out⟩
          case round =>
            obtain ⟨m, rfl, m1, m2, hBs⟩ := hrel
            have HBs := Lib.hid hBs
            clear hBs B4
            by_cases hm : m ≤ (n : Int)
            · have z1 : decide (m ∈ repOf L n ((i + 1 : Nat) : Int)) = true := decide_eq_true (HALL.out m m1 hm)
              have z2 : decide (m ∈ [y2]) = (m == y2) := by rw [Bool.eq_iff_iff]; simp
              have HAj := fun W h => HA.out (i + 1) m W h
              have HOj := fun W h => HOJ.out m W h
              rw [z1] at HAj
              rw [z2] at HOj
              simp only [Int.natCast_add, Int.natCast_one] at HAj HOj
              have HAJ := Lib.hid HAj; have HOJ2 := Lib.hid HOj
              clear HAj HOj z1 z2
              have e1' := cell_keep HBs.out e1
              have HS : ∀ w', Below W2.heap.size W2 w' → (InW W2 w' ∧ w'.cell? ⟨gx, (i + 1) * 2 + 1, none⟩ = some (.int .i64 y2)) := fun w' h => ⟨h, cell_keep h e1⟩
              have HS' := Lib.hid HS; clear HS
              go_wp2_with fail
              go_region_held3 (fun w' => InW W2 w' ∧ w'.cell? ⟨gx, (i + 1) * 2 + 1, none⟩ = some (.int .i64 y2))
                (first | assumption | exact HS'.out _ (by repeat (first | exact HBs.out | exact (show Below W2.heap.size W2 _ from And.left (by assumption)) | exact below_tr (show Below W2.heap.size W2 _ from And.left (by assumption)) (by assumption) | refine Below.drew ?_ | refine below_alloc ?_ _)))
                (first | (go_at_call 33; (first | with_reducible refine (HAJ.out _ (‹InW W2 _ ∧ _›).1).mono ?_ | with_reducible refine (HOJ2.out _ (‹InW W2 _ ∧ _›).1).mono ?_); rintro e w' ⟨rfl, hb⟩))
              have hB5 := (show Below W2.heap.size W2 w' from (‹InW W2 w' ∧ _›).1)
              have B5 := Lib.hid hB5
              clear hB5 hb HS' e1'
              go_wp2_with fail
              go_roundw
              case rel => exact ⟨m + 1, by first | rfl | (rw [show wrap64 (m + 1) = m + 1 by unfold wrap64; omega]), by omega, by omega, B5.out⟩
              case measure => simp [intOf]; omega
            · go_wp2_with fail
              go_roundw
              case rel => exact ⟨i + 1 + 1, by omega, by first | rfl | go_num, HBs.out⟩
              case measure => simp [intOf]; omega)
    · have hz : ¬ (j : Int) < (L.length : Int) := by omega
      clear RP HA HO IN PS
      have HMUL := Lib.hid hmul
      go_wp2_with fail
      go_loopw [12] (fun vm wr => ∃ m : Int, vm = .int .i64 m ∧ 1 ≤ m ∧ m ≤ (n : Int) + 1 ∧ Below W2.heap.size W2 wr) (fun vm _ => ((n : Int) + 1 - intOf vm).toNat)
      case atStart => exact ⟨1, rfl, by omega, by omega, HBr.out⟩
      case round =>
        obtain ⟨m, rfl, m1, m2, hBs⟩ := hrel
        have HBs := Lib.hid hBs
        clear hBs HBr
        by_cases hm : m ≤ (n : Int)
        · have l1 := ranges_all QA.out m m1 hm
          have l2 := ranges_one QO.out m
          rw [CN.out m m1 hm] at l2
          have G1 := GA.out m wr HBs.out
          have G2 := fun W h => GO.out m W h
          generalize rangesOf L n m = r1 at *
          generalize rangesOf L 1 m = r2 at *
          have L1 := Lib.hid l1; have L2 := Lib.hid l2; have G1' := Lib.hid G1; have G2' := Lib.hid G2
          clear l1 l2 G1 G2
          go_wp2_with fail
          refine G1'.out.mono ?_
          rintro e wb ⟨v1, rfl, hO1, hb1⟩
          obtain ⟨av1, cv1, hv1⟩ := hO1.sl.shape
          subst hv1
          have HB1 := Lib.hid (below_tr HBs.out hb1)
          clear hO1 hb1
          rw [L1.out]
          go_wp2_with fail
          refine (G2'.out _ HB1.out).mono ?_
          rintro e wc ⟨v2, rfl, hO2, hb2⟩
          obtain ⟨av2, cv2, hv2⟩ := hO2.sl.shape
          subst hv2
          have HB3 := Lib.hid (below_tr HB1.out hb2)
          clear hO2 hb2
          rw [L2.out]
          go_wp2_with fail
          go_roundw
          case rel => exact ⟨m + 1, by first | rfl | (rw [show wrap64 (m + 1) = m + 1 by unfold wrap64; omega]), by omega, by omega, HB3.out⟩
          case measure => simp [intOf]; omega
        · go_wp2_with fail
          refine (LV.out _).mono ?_
          rintro e w5 ⟨rfl, hb⟩
          go_wp2_with fail
          go_ret
          exact ⟨rfl, below_tr (below_tr B2.out HBs.out) hb⟩
end Go.Proofs.YtmjeifbadjdnfaaDoor
