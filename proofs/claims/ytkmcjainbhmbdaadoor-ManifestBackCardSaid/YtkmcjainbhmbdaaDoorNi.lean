/- The law ManifestBack, walked: it returns true. Conditions: numbers are of int64 and uint64; what came in takes at most the form's reach. -/
import Derived.Test.YtkmcjainbhmbdaaDoorNg
import Derived.Test.YtkmcjainbhmbdaaDoorSa
set_option linter.unusedVariables false
set_option linter.unusedSimpArgs false
set_option maxRecDepth 50000
namespace Go.Proofs.YtkmcjainbhmbdaaDoor
open Go.RowKit

theorem SlI.store_byte {W : World} {v : Value} {l : List Int} (h : SlI W v l) {g i : Nat} {x : Int} (hc : W.cell? ⟨g, i, none⟩ = some (.int .u8 x)) (u : Value) : SlI (W.setCell ⟨g, i, none⟩ u) v l := by
  obtain ⟨a, c, e, hcc, hx⟩ := h.ex
  refine ⟨a, c, e, hcc, fun h0 => ?_⟩
  obtain ⟨g', o, ea, hcell⟩ := hx h0
  refine ⟨g', o, ea, fun j hj => ?_⟩
  have hj' := hcell j hj
  rw [World.cell?_setCell_other W ⟨g, i, none⟩ ⟨g', o + j, none⟩ u (fun e => by rw [← e] at hj'; rw [hc] at hj'; cases hj')]
  exact hj'
theorem SlB.store {B : Nat} {W : World} {g n c : Nat} {l : List UInt8} (h : SlB B W (.slice (some ⟨g, 0, none⟩) n c) l) (i : Nat) (hi : i < l.length) (y : UInt8) : SlB B (W.setCell ⟨g, i, none⟩ (.int .u8 (y.toNat : Int))) (.slice (some ⟨g, 0, none⟩) n c) (l.set i y) := by
  obtain ⟨a, c', e, hcc, hx⟩ := h.ex
  injection e with e1 e2 e3
  subst e1 e2 e3
  refine ⟨some ⟨g, 0, none⟩, c, by rw [List.length_set], by rw [List.length_set]; exact hcc, fun h0 => ?_⟩
  rw [List.length_set] at h0
  obtain ⟨g', o, ea, hg, hcell⟩ := hx h0
  injection ea with ea; injection ea with e1 e2
  subst e1 e2
  refine ⟨g, 0, rfl, hg, fun j hj => ?_⟩
  have hj2 : j < l.length := by rw [List.length_set] at hj; exact hj
  by_cases hji : j = i
  · subst hji
    have hj' := hcell j hj2
    rw [Nat.zero_add] at hj' ⊢
    simp only [List.getElem_set_self]
    go_simp
  · rw [World.cell?_setCell_other W ⟨g, i, none⟩ ⟨g, 0 + j, none⟩ _ (fun e => by injection e with _ e2; omega), hcell j hj2, List.getElem_set_ne (fun e => hji e.symm)]
theorem SlB.head_run {g n c k : Nat} (hk : k ≤ c) (h0 : 0 < c) (W : World) :
    (Instr.slice 25 (.slice (some ⟨g, 0, none⟩) n c) none (some (.int .i64 (k : Int))) none).run Tryd.prog W = .ok (.slice (some ⟨g, 0, none⟩) k c) W := by
  rw [run_slice_h W _ _ _ _ undByte .i64 _ (by omega) (by omega), sizeByte]
  have hne : ¬ c = 0 := by omega
  simp only [Result.andThen, sliced, Int.toNat_natCast, Nat.mul_one, if_neg hne, Nat.sub_zero]
  rfl

set_option maxHeartbeats 4000000 in
theorem ManifestBack_bad (v : Value) (l : List Int) (nx fr cu bi : Int) (w : World) (he : Env w) (hv : SlI w v l) (hl : l.length ≤ 140737488351232) (hg : goodM l nx fr = false ∨ (1000 : Int) < (l.length : Int)) :
    Calls Tryd.prog 4 #[.agg #[v, .int .i64 nx, .int .i64 fr], .int .u64 cu, .int .u64 bi] w fun e w' => e = .returned (.bool true) ∧ Below w.heap.size w w' := by
  have HL := Lib.hid (fun W hE => lives13 W hE)
  have HV := Lib.hid hv
  obtain ⟨a, c, rfl, _, _⟩ := hv.ex
  clear hv
  have hb0 := Lib.hid (below_alloc (Below.refl _ w) (.cells #[.slice a l.length c, .int .i64 nx, .int .i64 fr] 24))
  have K0 := Lib.hid (Blk.new w 24 #[.slice a l.length c, .int .i64 nx, .int .i64 fr])
  have HE0 := Lib.hid he
  clear he
  by_cases g1 : (1000 : Int) < (l.length : Int)
  · go_enter Tryd.func4, Tryd.ntmps4
    go_wp2_with fail
    refine (HL.out _ (HE0.out.below hb0.out)).mono ?_
    rintro e w1 ⟨rfl, hb1⟩
    go_wp2_with fail
    go_ret
    exact ⟨rfl, below_tr hb0.out hb1⟩
  have hgd : goodM l nx fr = false := hg.resolve_right g1
  have B1 := Lib.hid (fun W (h : Below w.heap.size w W) => mBytes_any (.slice a l.length c) l nx fr W (HV.out.below h) hl)
  have G1 := Lib.hid (fun W (h : Below w.heap.size w W) => mGood_any (.slice a l.length c) l nx fr W (HV.out.below h) hl)
  have hbm : bytesM l nx fr = ([], 2) := by unfold bytesM; rw [if_neg (by rw [hgd]; simp)]
  rw [hbm] at B1
  rw [hgd] at G1
  clear hgd hg hbm
  go_enter Tryd.func4, Tryd.ntmps4
  go_wp2_with fail
  generalize hW0 : w.alloc (.cells #[.slice a l.length c, .int .i64 nx, .int .i64 fr] 24) = W0 at *
  clear hW0
  refine (B1.out _ hb0.out).mono ?_
  rintro e w1 ⟨v1, rfl, hO1, hb1⟩
  have K1 := K0.out.below hb1
  have k0 := K1.cell 0 rfl; have k1 := K1.cell 1 rfl; have k2 := K1.cell 2 rfl
  have HB1 := Lib.hid (below_tr hb0.out hb1)
  obtain ⟨a1, c1, rfl, _, _⟩ := hO1.slB.ex
  clear hO1 hb1 K1
  go_wp2_with fail
  refine (G1.out _ HB1.out).mono ?_
  rintro e w2 ⟨rfl, hb2⟩
  have HB2 := Lib.hid (below_tr HB1.out hb2)
  clear hb2 k0 k1 k2
  go_wp2_with fail
  refine (HL.out _ (HE0.out.below HB2.out)).mono ?_
  rintro e w3 ⟨rfl, hb3⟩
  go_wp2_with fail
  go_ret
  exact ⟨rfl, below_tr HB2.out hb3⟩

theorem flip_ne (x : UInt8) (m : Nat) (hm : m < 8) : ∃ y : UInt8, y ≠ x ∧ Go.bits .xor .u8 (x.toNat : Int) (2 ^ m % 256) = (y.toNat : Int) := by
  have key : ∀ (a : Fin 256) (m : Fin 8), Go.bits .xor .u8 ((a.val : Nat) : Int) (2 ^ m.val % 256) ≠ ((a.val : Nat) : Int) ∧ 0 ≤ Go.bits .xor .u8 ((a.val : Nat) : Int) (2 ^ m.val % 256) ∧ Go.bits .xor .u8 ((a.val : Nat) : Int) (2 ^ m.val % 256) < 256 := by decide +kernel
  obtain ⟨h1, h2, h3⟩ := key ⟨x.toNat, x.toNat_lt⟩ ⟨m, hm⟩
  refine ⟨byteOf (Go.bits .xor .u8 (x.toNat : Int) (2 ^ m % 256)), fun e => h1 ?_, (byteOf_val h2 h3).symm⟩
  have := byteOf_val h2 h3
  rw [show byteOf (Go.bits .xor .u8 (x.toNat : Int) (2 ^ m % 256)) = x from e] at this
  exact this.symm

set_option maxHeartbeats 4000000 in
theorem ManifestBack_good (v : Value) (l : List Int) (nx fr : Int) (cu bi : Nat) (w : World) (he : Env w) (hv : SlI w v l) (hl : l.length ≤ 1000) (hg : goodM l nx fr = true) (hcu : cu < 18446744073709551616) (hbi : bi < 18446744073709551616) :
    Calls Tryd.prog 4 #[.agg #[v, .int .i64 nx, .int .i64 fr], .int .u64 (cu : Int), .int .u64 (bi : Int)] w fun e w' => e = .returned (.bool true) ∧ Below w.heap.size w w' := by
  have HL := Lib.hid (fun W hE => lives13 W hE)
  have HV := Lib.hid hv
  obtain ⟨a, c, rfl, _, _⟩ := hv.ex
  clear hv
  have hb0 := Lib.hid (below_alloc (Below.refl _ w) (.cells #[.slice a l.length c, .int .i64 nx, .int .i64 fr] 24))
  have K0 := Lib.hid (Blk.new w 24 #[.slice a l.length c, .int .i64 nx, .int .i64 fr])
  have HE0 := Lib.hid he
  clear he
  have B1 := Lib.hid (fun W (h : Below w.heap.size w W) => mBytes_any (.slice a l.length c) l nx fr W (HV.out.below h) (by omega))
  have G1 := Lib.hid (fun W (h : Below w.heap.size w W) => mGood_any (.slice a l.length c) l nx fr W (HV.out.below h) (by omega))
  have P1 := Lib.hid (fun W => plain_any a l.length c nx fr W)
  have hbm : bytesM l nx fr = (frameL (encM l nx fr), 0) := by unfold bytesM; rw [if_pos hg]
  have hel := encM_len hg
  have hfl := frameL_length (encM l nx fr) (by omega)
  have hbk := readM_enc hg
  have hcut : ∀ k, k < (encM l nx fr).length + 8 → readM ((frameL (encM l nx fr)).take k) = badM := fun k hk => readM_bad (.inl (by rw [unframe_cut _ (by omega) k hk]; simp))
  have hmore : readM (frameL (encM l nx fr) ++ [0]) = badM := readM_bad (.inr (by rw [unframe_frame _ _ (by omega), List.length_append, hfl]; simp))
  have hturn : ∀ (k : Nat) (y : UInt8), 4 ≤ k → k < (encM l nx fr).length + 8 → y ≠ (frameL (encM l nx fr)).getD k 0 → readM ((frameL (encM l nx fr)).set k y) = badM := fun k y h4 hk hy => readM_bad (.inl (by rw [unframe_turn _ (by omega) k h4 hk y hy]; simp))
  rw [hbm] at B1
  rw [hg] at G1
  have hlow : l.length ≤ 30 := (goodM_pos hg).2.2.2.2.1
  clear hg hbm
  generalize frameL (encM l nx fr) = bs at *
  rw [← hfl] at hcut hturn
  have hL : 8 ≤ bs.length := by omega
  have hL2 : bs.length ≤ 2000 := by omega
  clear hfl hel
  have HBK := Lib.hid hbk; have HCUT := Lib.hid hcut; have HMORE := Lib.hid hmore; have HTURN := Lib.hid hturn
  clear hbk hcut hmore hturn
  go_enter Tryd.func4, Tryd.ntmps4
  go_wp2_with fail
  generalize hW0 : w.alloc (.cells #[.slice a l.length c, .int .i64 nx, .int .i64 fr] 24) = W0 at *
  clear hW0
  refine (B1.out _ hb0.out).mono ?_
  rintro e w1 ⟨v1, rfl, hO1, hb1⟩
  have hgx : ∃ g cap, v1 = .slice (some ⟨g, 0, none⟩) bs.length cap ∧ bs.length ≤ cap ∧ W0.heap.size ≤ g ∧ g < w1.heap.size := by
    have hlt := World.ownsRow.lt hO1
    rcases hO1.2 with ⟨rfl, h0⟩ | ⟨g, cap, cur, rfl, hgg, hh, hn, hcc⟩
    · simp only at h0; omega
    · exact ⟨g, cap, rfl, hn, hgg, (hlt g rfl).2⟩
  obtain ⟨g, cap, rfl, hcap, hg1, hg2⟩ := hgx
  have HO1 := Lib.hid (show SlB w1.heap.size w1 (.slice (some ⟨g, 0, none⟩) bs.length cap) bs from hO1.slB)
  have OW1 := Lib.hid hO1
  have K1 := Lib.hid (K0.out.below hb1)
  have hgw : w.heap.size < g := by have := K0.out.lt; omega
  have HB1 := Lib.hid (below_tr hb0.out hb1)
  have k0 := K1.out.cell 0 rfl; have k1 := K1.out.cell 1 rfl; have k2 := K1.out.cell 2 rfl
  clear hO1 hb1 K0 hb0
  go_wp2_with fail
  refine (G1.out _ HB1.out).mono ?_
  rintro e w2 ⟨rfl, hb2⟩
  have HB2 := Lib.hid (below_tr HB1.out hb2)
  have HO2 := Lib.hid (HO1.out.keep hb2)
  have OW2 := Lib.hid (OW1.out.below hb2)
  have K2 := Lib.hid (K1.out.below hb2)
  have hg3 : g < w2.heap.size := by have := hb2.size; omega
  clear hb2 k0 k1 k2 HO1 K1 HB1 G1 hg2
  have R1 := Lib.hid (mRead_any (.slice (some ⟨g, 0, none⟩) bs.length cap) bs w2 HO2.out (by omega))
  rw [HBK.out] at R1
  go_wp2_with fail
  refine R1.out.mono ?_
  rintro e w3 ⟨a3, c3, rfl, hs3, hb3⟩
  simp only at hs3 ⊢
  have hal := below_alloc hb3 (.cells #[.slice a3 l.length c3, .int .i64 nx, .int .i64 fr] 24)
  have HB3 := Lib.hid (below_tr HB2.out hal)
  have HO3 := Lib.hid (HO2.out.keep hal)
  have OW3 := Lib.hid (OW2.out.below hal)
  have K3 := Lib.hid (K2.out.below hal)
  have L3 := Lib.hid (Blk.new w3 24 #[.slice a3 l.length c3, .int .i64 nx, .int .i64 fr])
  have HS3 := Lib.hid (hs3.below (below_alloc (Below.refl _ w3) (.cells #[.slice a3 l.length c3, .int .i64 nx, .int .i64 fr] 24)))
  have hgp1 : g < w3.heap.size := by have := hb3.size; omega
  clear hal hb3 hs3 HO2 K2 HB2 R1 HBK
  have hkc : cu % bs.length < bs.length := Nat.mod_lt _ (by omega)
  have S2 := HO3.out.head (cu % bs.length) (by omega) rfl
  have R2 := Lib.hid (mRead_any (.slice (some ⟨g, 0, none⟩) (cu % bs.length) cap) (bs.take (cu % bs.length)) _ S2 (by rw [List.length_take]; omega))
  rw [HCUT.out _ hkc] at R2
  clear S2 HCUT
  go_wp2_with fail
  generalize hgpe : w3.heap.size = gp at *
  clear hgpe
  generalize w3.alloc (.cells #[.slice a3 l.length c3, .int .i64 nx, .int .i64 fr] 24) = W3 at *
  refine R2.out.mono ?_
  rintro e w4 ⟨a4, c4, rfl, hs4, hb4⟩
  simp only [badM, List.length_nil] at hs4 ⊢
  have hal := below_alloc hb4 (.cells #[.slice a4 0 c4, .int .i64 0, .int .i64 0] 24)
  have HB4 := Lib.hid (below_tr HB3.out hal)
  have HO4 := Lib.hid (HO3.out.keep hal)
  have OW4 := Lib.hid (OW3.out.below hal)
  have K4 := Lib.hid (K3.out.below hal); have L4 := Lib.hid (L3.out.below hal)
  have HS4 := Lib.hid (HS3.out.below hal)
  clear hal hb4 hs4 HO3 K3 L3 HS3 HB3 R2
  have hlx : ([] : List UInt8).length + bs.length ≤ 140737488355328 := by simp; omega
  have hly : ([] ++ bs).length + [(0 : UInt8)].length ≤ 140737488355328 := by simp; omega
  have HLIT := Lib.hid (OwnB.lit (w4.alloc (.cells #[.slice a4 0 c4, .int .i64 0, .int .i64 0] 24)) (w4.alloc (.cells #[.slice a4 0 c4, .int .i64 0, .int .i64 0] 24)).heap.size #[] [] 0 (Nat.le_refl _) rfl (by simp) (by simp [bcells]))
  have HBL := Lib.hid (below_alloc (Below.refl _ (w4.alloc (.cells #[.slice a4 0 c4, .int .i64 0, .int .i64 0] 24))) (.cells #[] 5))
  have HOL := Lib.hid (HO4.out.below HBL.out)
  have hszW : (w4.alloc (.cells #[.slice a4 0 c4, .int .i64 0, .int .i64 0] 24)).heap.size = w4.heap.size + 1 := by simp
  rw [hszW] at HLIT HBL
  have HZL := Lib.hid (show w4.heap.size + 1 ≤ ((w4.alloc (.cells #[.slice a4 0 c4, .int .i64 0, .int .i64 0] 24)).alloc (.cells #[] 5)).heap.size by simp)
  clear hszW
  go_wp2_with (at_builtin; first
    | (refine ap_sl rfl (.tmp 59) (.tmp 60) rfl (w4.heap.size + 1) (.slice (some ⟨w4.heap.size + 1, 0, none⟩) 0 0) [] _ (.slice (some ⟨g, 0, none⟩) bs.length cap) bs rfl rfl HOL.out HLIT.out HBL.out HZL.out hlx ?_; intro v5 w5 hO5 hB5 hz5 _)
    | (refine ap_lit rfl (.tmp 61) (.tmp 62) rfl (w4.heap.size + 1) v5 _ [0] _ 1 1 rfl rfl rfl (by simp [bcells]) hO5 hB5 hz5 hly ?_; intro v6 w6 hO6 hB6 hz6))
  rw [List.nil_append] at hO6
  have hB6' : Below (w4.alloc (.cells #[.slice a4 0 c4, .int .i64 0, .int .i64 0] 24)).heap.size (w4.alloc (.cells #[.slice a4 0 c4, .int .i64 0, .int .i64 0] 24)) w6 := by
    have e : (w4.alloc (.cells #[.slice a4 0 c4, .int .i64 0, .int .i64 0] 24)).heap.size = w4.heap.size + 1 := by simp
    rw [e]; exact hB6
  have HB6 := Lib.hid (below_tr HB4.out hB6')
  have HO6 := Lib.hid (HO4.out.keep hB6')
  have OW6 := Lib.hid (OW4.out.below hB6')
  have K6 := Lib.hid (K4.out.below hB6'); have L6 := Lib.hid (L4.out.below hB6')
  have HS6 := Lib.hid (HS4.out.below hB6')
  have R3 := Lib.hid (mRead_any v6 (bs ++ [0]) w6 hO6.slB (by simp; omega))
  rw [HMORE.out] at R3
  clear hO5 hB5 hz5 hO6 hB6 hz6 hB6' HLIT HBL HOL HZL HO4 K4 L4 HS4 HB4 hlx hly HMORE
  refine R3.out.mono ?_
  rintro e w7 ⟨a7, c7, rfl, hs7, hb7⟩
  simp only [badM, List.length_nil] at hs7 ⊢
  have hal := below_alloc hb7 (.cells #[.slice a7 0 c7, .int .i64 0, .int .i64 0] 24)
  have HB7 := Lib.hid (below_tr HB6.out hal)
  have HO7 := Lib.hid (HO6.out.keep hal)
  have OW7 := Lib.hid (OW6.out.below hal)
  have K7 := Lib.hid (K6.out.below hal); have L7 := Lib.hid (L6.out.below hal)
  have HS7 := Lib.hid (HS6.out.below hal)
  clear hal hb7 hs7 HO6 K6 L6 HS6 HB6 R3
  obtain ⟨q, hqe, hq⟩ : ∃ q : Nat, (bi : Int) % (8 * ((bs.length : Int) - 4)) = (q : Int) ∧ q < 8 * (bs.length - 4) :=
    ⟨bi % (8 * (bs.length - 4)), by rw [show (8 * ((bs.length : Int) - 4)) = ((8 * (bs.length - 4) : Nat) : Int) by omega]; exact (Int.natCast_emod _ _).symm, Nat.mod_lt _ (by omega)⟩
  have hk8 : 4 + q / 8 < bs.length := by omega
  have hk9 : (4 : Int) + (q : Int) / 8 < (bs.length : Int) := by omega
  have fk := World.ownsRow.frozenAt (show World.ownsRow _ _ _ _ (.slice (some ⟨g, 0, none⟩) bs.length cap) bs.length (bcells bs) from OW7.out) (4 + q / 8)
  have ck : (w7.alloc (.cells #[.slice a7 0 c7, .int .i64 0, .int .i64 0] 24)).cell? ⟨g, 4 + q / 8, none⟩ = some (.int .u8 ((bs[4 + q / 8]).toNat : Int)) := by
    obtain ⟨_, _, e, _, hx⟩ := HO7.out.ex
    injection e with e1 _ _
    subst e1
    obtain ⟨g', o', ea, _, hcell⟩ := hx (by omega)
    injection ea with ea; injection ea with e1 e2
    subst e1 e2
    have := hcell _ hk8
    rwa [Nat.zero_add] at this
  go_wp2_with fail
  have hxi : bs[4 + q / 8] = bs.getD (4 + q / 8) 0 := by rw [List.getD_eq_getElem?_getD, List.getElem?_eq_getElem hk8]; rfl
  obtain ⟨y, hyne, hy⟩ := flip_ne bs[4 + q / 8] (q % 8) (Nat.mod_lt _ (by decide))
  have hrd := HTURN.out (4 + q / 8) y (by omega) hk8 (by rw [← hxi]; exact hyne)
  have S8 := HO7.out.store (4 + q / 8) hk8 y
  have hgne : w.heap.size ≠ g := by omega
  have hgpne : gp ≠ g := by omega
  have K8 := Lib.hid (K7.out.far (p := ⟨g, 4 + q / 8, none⟩) hgne (.int .u8 (y.toNat : Int)))
  have L8 := Lib.hid (L7.out.far (p := ⟨g, 4 + q / 8, none⟩) hgpne (.int .u8 (y.toNat : Int)))
  have HS8 := Lib.hid (HS7.out.store_byte ck (.int .u8 (y.toNat : Int)))
  have HB8 := Lib.hid (HB7.out.setCell (p := ⟨g, 4 + q / 8, none⟩) (Nat.le_of_lt hgw) (.int .u8 (y.toNat : Int)))
  rw [hy]
  have hsz8 : ((w7.alloc (.cells #[.slice a7 0 c7, .int .i64 0, .int .i64 0] 24)).setCell ⟨g, 4 + q / 8, none⟩ (.int .u8 (y.toNat : Int))).heap.size = (w7.alloc (.cells #[.slice a7 0 c7, .int .i64 0, .int .i64 0] 24)).heap.size := by simp [World.setCell]
  have R4 := Lib.hid (mRead_any (.slice (some ⟨g, 0, none⟩) bs.length cap) (bs.set (4 + q / 8) y) _ (by rw [hsz8]; exact S8) (by rw [List.length_set]; omega))
  rw [hrd] at R4
  clear OW1 OW2 OW3 OW4 OW6 OW7 fk hy hyne hrd S8 HO7 K7 L7 HS7 HB7 ck hxi hsz8 HTURN hqe hk9
  generalize (w7.alloc (.cells #[.slice a7 0 c7, .int .i64 0, .int .i64 0] 24)).setCell ⟨g, 4 + q / 8, none⟩ (.int .u8 (y.toNat : Int)) = W8 at *
  refine R4.out.mono ?_
  rintro e w9 ⟨a9, c9, rfl, hs9, hb9⟩
  simp only [badM, List.length_nil] at hs9 ⊢
  have hal := below_alloc hb9 (.cells #[.slice a9 0 c9, .int .i64 0, .int .i64 0] 24)
  have HB9 := Lib.hid (below_tr HB8.out hal)
  have K9 := Lib.hid (K8.out.below hal); have L9 := Lib.hid (L8.out.below hal)
  have HS9 := Lib.hid (HS8.out.below hal)
  clear hal hb9 hs9 K8 L8 HS8 HB8 R4
  go_wp2_with fail
  generalize w9.alloc (.cells #[.slice a9 0 c9, .int .i64 0, .int .i64 0] 24) = W9 at *
  have HS : ∀ w', Below W9.heap.size W9 w' → (InW W9 w' ∧ w'.cell? ⟨w.heap.size, 0, none⟩ = some (.slice a l.length c) ∧ w'.cell? ⟨w.heap.size, 1, none⟩ = some (.int .i64 nx) ∧ w'.cell? ⟨w.heap.size, 2, none⟩ = some (.int .i64 fr) ∧ w'.cell? ⟨gp, 0, none⟩ = some (.slice a3 l.length c3) ∧ w'.cell? ⟨gp, 1, none⟩ = some (.int .i64 nx) ∧ w'.cell? ⟨gp, 2, none⟩ = some (.int .i64 fr)) :=
    fun w' h => ⟨h, (K9.out.below h).cell 0 rfl, (K9.out.below h).cell 1 rfl, (K9.out.below h).cell 2 rfl, (L9.out.below h).cell 0 rfl, (L9.out.below h).cell 1 rfl, (L9.out.below h).cell 2 rfl⟩
  have HS' := Lib.hid HS; clear HS
  have SA := Lib.hid (fun W (h : InW W9 W) => same_yes (.slice a3 l.length c3) (.slice a l.length c) l nx fr W (HS9.out.below h) ((HV.out.below HB9.out).below h) (by omega))
  have HL' := Lib.hid (fun W (h : InW W9 W) => HL.out W ((HE0.out.below HB9.out).below h))
  go_region_held3 (fun w' => InW W9 w' ∧ w'.cell? ⟨w.heap.size, 0, none⟩ = some (.slice a l.length c) ∧ w'.cell? ⟨w.heap.size, 1, none⟩ = some (.int .i64 nx) ∧ w'.cell? ⟨w.heap.size, 2, none⟩ = some (.int .i64 fr) ∧ w'.cell? ⟨gp, 0, none⟩ = some (.slice a3 l.length c3) ∧ w'.cell? ⟨gp, 1, none⟩ = some (.int .i64 nx) ∧ w'.cell? ⟨gp, 2, none⟩ = some (.int .i64 fr))
    (first | exact HS'.out _ (Below.drew (Below.refl _ _)) | exact HS'.out _ (below_tr (show Below W9.heap.size W9 _ from And.left (by assumption)) (by assumption)) | assumption)
    (first
      | (go_at_call 17; refine (P1.out _).mono ?_; rintro e w' ⟨rfl, hb⟩)
      | (go_at_call 23; refine (SA.out _ (‹InW W9 _ ∧ _›).1).mono ?_; rintro e w' ⟨rfl, hb⟩)
      | (go_at_call 14; refine (HL'.out _ (‹InW W9 _ ∧ _›).1).mono ?_; rintro e w' ⟨rfl, hb⟩))
  have hB := (‹InW W9 _ ∧ _›).1
  go_wp2_with fail
  go_ret
  exact ⟨rfl, below_tr HB9.out hB⟩
theorem ManifestBack_walk (v : Value) (l : List Int) (nx fr cu bi : Int) (w : World) (he : Env w) (hv : SlI w v l) (hl : l.length ≤ 140737488351232) (c0 : 0 ≤ cu) (c1 : cu ≤ 18446744073709551615) (b0 : 0 ≤ bi) (b1 : bi ≤ 18446744073709551615) :
    Calls Tryd.prog 4 #[.agg #[v, .int .i64 nx, .int .i64 fr], .int .u64 cu, .int .u64 bi] w fun e w' => e = .returned (.bool true) ∧ Below w.heap.size w w' := by
  by_cases h : goodM l nx fr = false ∨ (1000 : Int) < (l.length : Int)
  · exact ManifestBack_bad v l nx fr cu bi w he hv hl h
  · obtain ⟨c, rfl⟩ := Int.eq_ofNat_of_zero_le c0
    obtain ⟨b, rfl⟩ := Int.eq_ofNat_of_zero_le b0
    have hg : goodM l nx fr = true := by
      rcases hh : goodM l nx fr with _ | _
      · exact absurd (.inl hh) h
      · rfl
    have hl2 : ¬ (1000 : Int) < (l.length : Int) := fun e => h (.inr e)
    exact ManifestBack_good v l nx fr c b w he hv (by omega) hg (by omega) (by omega)
end Go.Proofs.YtkmcjainbhmbdaaDoor
