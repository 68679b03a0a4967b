/- The contracts of the table's Write and the reference's where the cells are none that a table may have. Condition: lengths; room. Contract of the reference's filter's May. Conditions: room. Contracts of the document's Open, Scan and May of a table. Conditions: room. -/
import Derived.Test.YtplghaoflmaadaaGreatDoorZ31
import Derived.Test.YtplghaoflmaadaaGreatDoorZ32
import Derived.Test.YtplghaoflmaadaaGreatDoorZ12
import Derived.Test.YtplghaoflmaadaaGreatDoorZ29
import Derived.Test.YtplghaoflmaadaaGreatDoorZ28
section
set_option linter.unusedVariables false
set_option linter.unusedSimpArgs false
set_option maxRecDepth 50000
namespace Go.Proofs.YtplghaoflmaadaaGreatDoor
open Go.RowKit Go.Sort
open Go.Lib hiding intOf

def BadT (w : World) (e : Ending) (w' : World) : Prop := e = .returned (.tuple #[.slice none 0 0, .int .i64 2]) ∧ Below w.heap.size w w'
theorem not_ok (L : List Cel) (h : ¬ OkT L) : L.length = 0 ∨ 20000 < L.length ∨ (0 < L.length ∧ L.length ≤ 20000 ∧ ¬ IncC L L.length) ∨ (0 < L.length ∧ L.length ≤ 20000 ∧ IncC L L.length ∧ L.any (fun c => !goodC c) = true) := by
  by_cases h0 : L.length = 0
  · exact .inl h0
  by_cases h1 : 20000 < L.length
  · exact .inr (.inl h1)
  by_cases h2 : IncC L L.length
  · refine .inr (.inr (.inr ⟨by omega, by omega, h2, ?_⟩))
    rw [List.any_eq_true]
    refine Classical.byContradiction fun hn => h ⟨by omega, by omega, h2, fun c hc => ?_⟩
    cases e : goodC c with
    | true => rfl
    | false => exact absurd ⟨c, hc, by rw [e]; rfl⟩ hn
  · exact .inr (.inr (.inl ⟨by omega, by omega, h2⟩))

set_option maxHeartbeats 2000000 in
theorem write_bad (v : Value) (L : List Cel) (w : World) (hv : SlX eC w.heap.size w v L) (hl : Room L.length) (ht : ∀ c ∈ L, CelT c) (hb : ¬ OkT L) : Calls Tryz.prog 12 #[v] w (BadT w) := by
  have CS := Lib.hid (sorted_any _ L w hv hl)
  have CB := Lib.hid (fun W (hb : Below w.heap.size w W) => hasC_any 31 #[] (enters_of Tryz.func31 (by kernel_rfl) rfl) w.heap.size w L (fun c => !goodC c) _ W (fun W' _ x hx => bad_any x W' (ht x hx)) (hv.keep hb) hb hb.size hl)
  obtain ⟨a, cap, rfl, hc, _⟩ := hv.ex
  have hno := not_ok L hb
  unfold Room at hl
  clear hv ht hb
  generalize L.any (fun c => !goodC c) = anyb at *
  generalize hinc : IncC L L.length = inc at *
  have CS2 := Lib.hid (CS.out.mono (R' := fun e w' => ∃ b : Bool, e = .returned (.bool b) ∧ (b = true ↔ inc) ∧ Below w.heap.size w w') (fun e w' h => by unfold SortB at h; rw [hinc] at h; exact h))
  clear CS hinc hc
  generalize L.length = len at *
  have HEND := Lib.hid (fun (W : World) (h : Below w.heap.size w W) => show BadT w (.returned (.tuple #[.slice none 0 0, .int .i64 2])) W from ⟨rfl, h⟩)
  rcases hno with h0 | h1 | ⟨h0, h1, h2⟩ | ⟨h0, h1, h2, h3⟩
  · have hz : ((len : Int) == 0) = true := by rw [beq_iff_eq]; omega
    clear h0
    go_enter Tryz.func12, Tryz.ntmps12
    go_wp2_with fail
    exact bodyPost_ret (v := .tuple #[.slice none 0 0, .int .i64 2]) (by simp [results, Tryz.results12, go_sem]) rfl (HEND.out _ (Below.refl _ _))
  · have hz : ((len : Int) == 0) = false := by rw [beq_eq_false_iff_ne]; omega
    have hz1 : (20000 : Int) < (len : Int) := by omega
    clear h1
    go_enter Tryz.func12, Tryz.ntmps12
    go_wp2_with fail
    exact bodyPost_ret (v := .tuple #[.slice none 0 0, .int .i64 2]) (by simp [results, Tryz.results12, go_sem]) rfl (HEND.out _ (Below.refl _ _))
  · have hz : ((len : Int) == 0) = false := by rw [beq_eq_false_iff_ne]; omega
    have hz1 : ¬ (20000 : Int) < (len : Int) := by omega
    have hz2 : (len : Int) ≤ 20000 := by omega
    clear h0 h1
    go_enter Tryz.func12, Tryz.ntmps12
    go_wp2_with fail
    refine CS2.out.mono ?_
    rintro e w1 ⟨b, rfl, hbi, hb1⟩
    have hbf : b = false := by cases b with
      | false => rfl
      | true => exact absurd (hbi.1 rfl) h2
    subst hbf
    have HB := Lib.hid hb1
    clear hbi hb1
    go_wp2_with fail
    exact bodyPost_ret (v := .tuple #[.slice none 0 0, .int .i64 2]) (by simp [results, Tryz.results12, go_sem]) rfl (HEND.out _ HB.out)
  · have hz : ((len : Int) == 0) = false := by rw [beq_eq_false_iff_ne]; omega
    have hz1 : ¬ (20000 : Int) < (len : Int) := by omega
    have hz2 : (len : Int) ≤ 20000 := by omega
    subst h3
    clear h0 h1
    go_enter Tryz.func12, Tryz.ntmps12
    go_wp2_with fail
    refine CS2.out.mono ?_
    rintro e w1 ⟨b, rfl, hbi, hb1⟩
    obtain rfl : b = true := hbi.2 h2
    have HB := Lib.hid hb1
    have CB1 := Lib.hid (CB.out w1 hb1)
    clear hbi hb1
    go_wp2_with fail
    refine CB1.out.mono ?_
    rintro e w2 ⟨rfl, hb2⟩
    have HB2 := Lib.hid (below_tr HB.out hb2)
    clear hb2
    go_wp2_with fail
    exact bodyPost_ret (v := .tuple #[.slice none 0 0, .int .i64 2]) (by simp [results, Tryz.results12, go_sem]) rfl (HEND.out _ HB2.out)

set_option maxHeartbeats 2000000 in
theorem rwrite_bad (v : Value) (L : List Cel) (w : World) (hv : SlX eC w.heap.size w v L) (hl : Room L.length) (ht : ∀ c ∈ L, CelT c) (hb : ¬ OkT L) : Calls Tryz.prog 13 #[v] w (BadT w) := by
  have HV := Lib.hid hv
  have CS := Lib.hid (rsorted_any _ L w hv hl)
  obtain ⟨a, cap, rfl, hc, hx⟩ := hv.ex
  have HX := Lib.hid hx
  have hno := not_ok L hb
  have HT := Lib.hid ht
  unfold Room at hl
  have HEND := Lib.hid (fun (W : World) (h : Below w.heap.size w W) => show BadT w (.returned (.tuple #[.slice none 0 0, .int .i64 2])) W from ⟨rfl, h⟩)
  have CS2 := Lib.hid (fun (inc : Prop) (hinc : IncC L L.length = inc) => CS.out.mono (R' := fun e w' => ∃ b : Bool, e = .returned (.bool b) ∧ (b = true ↔ inc) ∧ Below w.heap.size w w') (fun e w' h => by unfold SortB at h; rw [hinc] at h; exact h))
  clear hv ht hb hx hc CS
  rcases hno with h0 | h1 | ⟨h0, h1, h2⟩ | ⟨h0, h1, h2, h3⟩
  · clear CS2
    generalize L.length = len at *
    have hz : (len : Int) < 1 := by omega
    clear h0
    go_enter Tryz.func13, Tryz.ntmps13
    go_wp2_with fail
    exact bodyPost_ret (v := .tuple #[.slice none 0 0, .int .i64 2]) (by simp [results, Tryz.results13, go_sem]) rfl (HEND.out _ (Below.refl _ _))
  · clear CS2
    generalize L.length = len at *
    have hz : ¬ (len : Int) < 1 := by omega
    have hz1 : (20000 : Int) < (len : Int) := by omega
    clear h1
    go_enter Tryz.func13, Tryz.ntmps13
    go_wp2_with fail
    exact bodyPost_ret (v := .tuple #[.slice none 0 0, .int .i64 2]) (by simp [results, Tryz.results13, go_sem]) rfl (HEND.out _ (Below.refl _ _))
  · have CS3 := Lib.hid (CS2.out _ rfl)
    clear CS2
    generalize IncC L L.length = inc at *
    generalize L.length = len at *
    have hz : ¬ (len : Int) < 1 := by omega
    have hz1 : ¬ (20000 : Int) < (len : Int) := by omega
    have hz2 : (len : Int) ≤ 20000 := by omega
    clear h0 h1
    go_enter Tryz.func13, Tryz.ntmps13
    go_wp2_with fail
    refine CS3.out.mono ?_
    rintro e w1 ⟨b, rfl, hbi, hb1⟩
    have hbf : b = false := by cases b with
      | false => rfl
      | true => exact absurd (hbi.1 rfl) h2
    subst hbf
    have HB := Lib.hid hb1
    clear hbi hb1
    go_wp2_with fail
    exact bodyPost_ret (v := .tuple #[.slice none 0 0, .int .i64 2]) (by simp [results, Tryz.results13, go_sem]) rfl (HEND.out _ HB.out)
  · have CS3 := Lib.hid (CS2.out _ rfl)
    clear CS2
    have H2 := Lib.hid h2
    have H3 := Lib.hid h3
    clear h2 h3
    have hz : ¬ (L.length : Int) < 1 := by omega
    have hz1 : ¬ (20000 : Int) < (L.length : Int) := by omega
    have hz2 : (L.length : Int) ≤ 20000 := by omega
    clear h0 h1
    go_enter Tryz.func13, Tryz.ntmps13
    go_wp2_with fail
    refine CS3.out.mono ?_
    rintro e w1 ⟨b, rfl, hbi, hb1⟩
    obtain rfl : b = true := hbi.2 H2.out
    have HB := Lib.hid hb1
    clear hbi hb1
    go_wp2_with fail
    go_loopw [5, 36] (fun _ v36 wr => ∃ i : Nat, v36 = .int .i64 (i : Int) ∧ i ≤ L.length ∧ Hid (∀ x ∈ L.take i, goodC x = true) ∧ Below w.heap.size w wr) (fun _ v36 _ => L.length - (intOf v36).toNat)
    case atStart => exact ⟨0, rfl, by omega, Lib.hid (by simp), HB.out⟩
    case round =>
      obtain ⟨i, rfl, hi, HN, hb⟩ := hrel
      have HBw := Lib.hid hb; clear hb
      by_cases hlt : i < L.length
      · have hzi : (i : Int) < (L.length : Int) := by omega
        obtain ⟨gl, o, rfl, hgl2, _⟩ := HX.out (by omega)
        have ten := (Ten.of HV.out i hlt).keep HBw.out
        have GO := Lib.hid (fun W => rgoodC_any L[i] W (HT.out _ (List.getElem_mem hlt)))
        rw [goodC_ref] at GO
        have NO := Lib.hid (fun (h : goodC L[i] = true) => show ∀ x ∈ L.take (i + 1), goodC x = true by
          rw [List.take_succ_eq_append_getElem hlt]
          intro x hx
          rcases List.mem_append.1 hx with hx | hx
          · exact HN.out x hx
          · rw [List.mem_singleton.1 hx]; exact h)
        generalize goodC L[i] = gd at *
        generalize L[i] = x at *
        have BW1 := Lib.hid (below_alloc (Below.refl _ wr) (.cells (celEnc x).toArray 61))
        obtain ⟨c0, c1, c2, c3, c4, c5, c6, c7, c8, c9⟩ := ten
        obtain ⟨⟨t, p, r, q⟩, ⟨tm, dd, lc, kd, nn, ss⟩⟩ := x
        simp only [celEnc] at *
        go_wp2_with fail
        refine (GO.out _).mono ?_
        rintro e w2 ⟨rfl, hb2⟩
        have HB2 := Lib.hid (below_tr (below_tr HBw.out BW1.out) hb2)
        clear hb2 c0 c1 c2 c3 c4 c5 c6 c7 c8 c9
        cases gd with
        | true =>
          have N := Lib.hid (NO.out (by trivial))
          go_wp2_with fail
          exact ⟨⟨i + 1, by first | rfl | go_num, by omega, N, HB2.out⟩, by simp [intOf]; omega⟩
        | false =>
          go_wp2_with fail
          exact bodyPost_ret (v := .tuple #[.slice none 0 0, .int .i64 2]) (by simp [results, Tryz.results13, go_sem]) rfl (HEND.out _ HB2.out)
      · exfalso
        have h3 := H3.out
        rw [List.any_eq_true] at h3
        obtain ⟨c, hc, hb⟩ := h3
        have := HN.out c (by rw [List.take_of_length_le (by omega)]; exact hc)
        rw [this] at hb; cases hb
end Go.Proofs.YtplghaoflmaadaaGreatDoor
end

section
set_option linter.unusedVariables false
set_option linter.unusedSimpArgs false
set_option maxRecDepth 50000
namespace Go.Proofs.YtplghaoflmaadaaGreatDoor
open Go.RowKit

set_option maxHeartbeats 1000000 in
theorem rfMay_any (v : Value) (l : List UInt8) (g k : Nat) (bits : List UInt8) (w : World) (hf : FlT 131 w.heap.size w g k bits) (hv : SlB w.heap.size w v l) (hl : l.length ≤ 10000000) :
    Calls Tryz.prog 97 #[.pointer (some ⟨g, 0, none⟩), v] w fun e w' => e = .returned (.bool (mayF k bits l)) ∧ Below w.heap.size w w' := by
  have C := Lib.hid (rfPlaces_any v l g k bits w hf hv hl)
  have HF := Lib.hid hf
  have hps := placesL_lt k bits.length l hf.b0
  have HA := Lib.hid (show mayF k bits l = (placesL k bits.length l).all (hasP bits) from rfl)
  have hplen : (placesL k bits.length l).length ≤ 16 := by rw [placesL_length]; exact hf.k1
  generalize placesL k bits.length l = ps at *
  clear hf hv
  go_enter Tryz.func97, Tryz.ntmps97
  go_wp2_with fail
  refine C.out.mono ?_
  rintro e w2 ⟨v2, rfl, hO2, hb2⟩
  have hF2 := HF.out.below hb2
  have HB2 := Lib.hid hb2
  have hS2 := hO2.sl
  obtain ⟨a, c, rfl, hc, hx⟩ := hS2.ex
  have HX := Lib.hid hx; have HS2 := Lib.hid hS2
  rw [List.length_map] at hc
  clear hx hO2 hb2 C HF hS2
  have HPS := Lib.hid hps
  clear hps
  rw [List.length_map] at HX HS2 ⊢
  obtain ⟨vf, hfb, hsb⟩ := hF2.ex
  have c1 := hfb.cell 1 rfl
  have hb0 := hF2.b0; have hb1 := hF2.b1
  obtain ⟨af, cf, rfl, hcf, hxf⟩ := hsb.ex
  obtain ⟨gb, ob, rfl, -, hcell⟩ := hxf hb0
  have HC := Lib.hid hcell
  clear hcell hxf hsb hfb hF2
  go_wp2_with fail
  go_loopw [11] (fun v11 wr => w2 = wr ∧ ∃ i : Nat, v11 = .int .i64 (i : Int) ∧ i ≤ ps.length ∧ Hid ((ps.take i).all (hasP bits) = true)) (fun v11 _ => ps.length - (intOf v11).toNat)
  case atStart => exact ⟨rfl, 0, rfl, Nat.zero_le _, Lib.hid rfl⟩
  case round =>
    obtain ⟨rfl, i, rfl, hi, HT⟩ := hrel
    by_cases hlt : i < ps.length
    · have hz : (i : Int) < (ps.length : Int) := by omega
      obtain ⟨gl, o, rfl, hgl2, -⟩ := HX.out (by omega)
      have c0 : w2.cell? ⟨gl, o + i, none⟩ = some (.int .i64 (ps[i] : Int)) := by
        have := HS2.out.cell i 0 (by rw [List.length_map]; exact hlt) (u := .int .i64 (ps[i] : Int)) (by simp [eI])
        rwa [show o + i * eI.size + 0 = o + i from by show o + i * 1 + 0 = _; omega] at this
      have hpl := HPS.out ps[i] (List.getElem_mem hlt)
      have YES := Lib.hid (fun (h : hasP bits ps[i] = true) => show (ps.take (i + 1)).all (hasP bits) = true by rw [List.take_succ_eq_append_getElem hlt, List.all_append, HT.out]; simp [h])
      have NO := Lib.hid (fun (h : hasP bits ps[i] = false) => show mayF k bits l = false by rw [HA.out, List.all_eq_false]; exact ⟨ps[i], List.getElem_mem hlt, by rw [h]; simp⟩)
      generalize ps[i] = p at *
      obtain ⟨q, hq⟩ : ∃ q : Nat, (p : Int) / 8 = (q : Int) := ⟨p / 8, by omega⟩
      obtain ⟨r, hr⟩ : ∃ r : Nat, (p : Int) % 8 = (r : Int) := ⟨p % 8, by omega⟩
      have hq' : p / 8 = q := by omega
      have hr' : p % 8 = r := by omega
      have hql : q < bits.length := by omega
      have c2 := HC.out q hql
      have hgd : bits.getD q 0 = bits[q] := by rw [List.getD_eq_getElem?_getD, List.getElem?_eq_getElem hql]; rfl
      have HH := Lib.hid (show hasP bits p = bits[q].toNat.testBit r by unfold hasP hasB; rw [hq', hr', hgd])
      have hqi : (q : Int) < (bits.length : Int) := by omega
      have hxl := bits[q].toNat_lt
      have hr8 : (r : Int) < 8 := by omega
      have HLT := Lib.hid hlt
      generalize bits[q].toNat = x at *
      have hv0 : (Go.bits .and .u8 ((x : Int) / 2 ^ r) 1 == 0) = !(x.testBit r) := by
        have e1 : (x : Int) / 2 ^ r = ((x / 2 ^ r : Nat) : Int) := by
          rw [Int.natCast_ediv, Int.natCast_pow]; rfl
        have e2 : Go.bits .and .u8 ((x / 2 ^ r : Nat) : Int) 1 = ((x / 2 ^ r % 2 : Nat) : Int) := and8_1 _ (Nat.lt_of_le_of_lt (Nat.div_le_self _ _) hxl)
        rw [e1, e2, Nat.testBit_eq_decide_div_mod_eq]
        rcases Nat.mod_two_eq_zero_or_one (x / 2 ^ r) with h | h
        · rw [h]; rfl
        · rw [h]; rfl
      obtain ⟨n, hn⟩ : ∃ n, bits.length = n := ⟨_, rfl⟩
      rw [hn] at c1 hqi hb1 hcf
      clear hq' hr' hgd hql hpl hn hlt hb0 hxl hgl2
      cases ht : x.testBit r with
      | true =>
        rw [ht] at hv0 HH
        have hv1 : (Go.bits .and .u8 ((x : Int) / 2 ^ r) 1 == 0) = false := hv0
        have Y := Lib.hid (YES.out HH.out)
        clear hv0 ht YES NO
        go_wp2_with fail
        go_roundw
        case rel => exact ⟨trivial, i + 1, by go_num, HLT.out, Y⟩
        case measure => have := HLT.out; (first | (simp [intOf]; done) | (simp [intOf]; omega))
      | false =>
        rw [ht] at hv0 HH
        have hv1 : (Go.bits .and .u8 ((x : Int) / 2 ^ r) 1 == 0) = true := hv0
        have N := Lib.hid (NO.out HH.out)
        clear hv0 ht YES NO
        go_wp2_with fail
        go_ret
        exact ⟨ret_b N.out.symm, HB2.out⟩
    · have hz : ¬ (i : Int) < (ps.length : Int) := by omega
      have hfin : mayF k bits l = true := by
        have h1 := HT.out
        rw [List.take_of_length_le (by omega)] at h1
        rw [HA.out, h1]
      have HFIN := Lib.hid hfin; clear hfin
      go_wp2_with fail
      go_ret
      exact ⟨ret_b HFIN.out.symm, HB2.out⟩
end Go.Proofs.YtplghaoflmaadaaGreatDoor
end

section
set_option linter.unusedVariables false
set_option linter.unusedSimpArgs false
set_option maxRecDepth 50000
namespace Go.Proofs.YtplghaoflmaadaaGreatDoor
open Go.RowKit Go.Sort
open Go.Lib hiding intOf

/-- the document's table -/
structure TbR (W : World) (g : Nat) (L : List Cel) : Prop where
  ex : ∃ lv gf, Blk W g 99 #[lv, .pointer (some ⟨gf, 0, none⟩)] ∧ SlX eC W.heap.size W lv L ∧ FlT 131 W.heap.size W gf 7 (bitsL L)
theorem TbR.keep {W W' : World} {g : Nat} {L : List Cel} (h : TbR W g L) (hb : Below W.heap.size W W') : TbR W' g L := by
  obtain ⟨lv, gf, h1, h2, h3⟩ := h.ex
  exact ⟨lv, gf, h1.below hb, h2.keep hb, h3.keep hb⟩
def ROpenPost (w : World) (o : Option (List (List Cel))) (e : Ending) (w' : World) : Prop :=
  Below w.heap.size w w' ∧ match o with
    | none => e = .returned (.tuple #[.pointer none, .int .i64 8])
    | some bs => ∃ g, e = .returned (.tuple #[.pointer (some ⟨g, 0, none⟩), .int .i64 0]) ∧ TbR w' g bs.flatten
/-- between two rounds -/
structure RI (b : List UInt8) (w wr : World) (v : Value) (l : List Cel) (at_ : Nat) : Prop where
  ro : RO b l at_
  own : OwnX eC wr w.heap.size v l
  bel : Below w.heap.size w wr

set_option maxHeartbeats 4000000 in
theorem ropen_any (v : Value) (b : List UInt8) (w : World) (he : Env w) (hv : SlB w.heap.size w v b) (hl : b.length ≤ 120000) :
    Calls Tryz.prog 54 #[v] w (ROpenPost w (openN b)) := by
  have HV := Lib.hid hv; have HE := Lib.hid he
  obtain ⟨a, cap, rfl, hc, _⟩ := hv.ex
  obtain ⟨O, hO⟩ : ∃ O, openN b = O := ⟨_, rfl⟩
  rw [hO]
  have HO := Lib.hid hO
  have R0 := Lib.hid (show RI b w w (.slice none 0 0) [] 0 from ⟨RO.start hl, OwnX.nil _ _, Below.refl _ _⟩)
  clear hv he hO
  go_enter Tryz.func54, Tryz.ntmps54
  go_wp2_with fail
  go_loopw [4, 5, 6, 7, 8, 9, 10] (fun v4 v5 _ _ _ _ _ wr => ∃ (l : List Cel) (at_ : Nat), v5 = .int .i64 (at_ : Int) ∧ at_ ≤ b.length ∧ Hid (RI b w wr v4 l at_)) (fun _ v5 _ _ _ _ _ _ => b.length - (intOf v5).toNat)
  case atStart => exact ⟨[], 0, rfl, Nat.zero_le _, R0⟩
  case round =>
    clear R0
    obtain ⟨l, at_, rfl, hat, HR⟩ := hrel
    have hk1 : at_ ≤ b.length := HR.out.ro.le
    have cr : ∀ W, (Instr.slice 29 (.slice a b.length cap) (some (.int .i64 (at_ : Int))) none none).run Tryz.prog W = .ok (.slice (if cap = at_ then a else Option.map (fun x => x.add at_) a) (b.length - at_) (cap - at_)) W := fun W => HV.out.cut_run at_ hk1 W
    have cut : SlB w.heap.size w (.slice (if cap = at_ then a else Option.map (fun x => x.add at_) a) (b.length - at_) (cap - at_)) (b.drop at_) := HV.out.cut at_ hk1
    generalize (if cap = at_ then a else Option.map (fun x => x.add at_) a) = a2 at cr cut
    generalize cap - at_ = c2 at cr cut
    obtain ⟨n2, hn2⟩ : ∃ n2, b.length - at_ = n2 := ⟨_, rfl⟩
    rw [hn2] at cr cut
    have HN2 := Lib.hid hn2
    have BEL := Lib.hid HR.out.bel
    have UF := rUnframe_any _ (b.drop at_) wr ((cut.below BEL.out).up BEL.out.size) (by rw [List.length_drop]; omega)
    obtain ⟨U, hU⟩ : ∃ U, unframeL (b.drop at_) = U := ⟨_, rfl⟩
    rw [hU] at UF
    have HU := Lib.hid hU
    have UF := Lib.hid UF
    have FAIL := Lib.hid (fun (W' : World) (hx : openN b = none) (hb : Below wr.heap.size wr W') => show ROpenPost w O (.returned (.tuple #[.pointer none, .int .i64 8])) W' from by
      rw [← HO.out, hx]; exact ⟨below_tr BEL.out hb, rfl⟩)
    obtain ⟨al, cl, el, hcl, _⟩ := (OwnX.sl HR.out.own).ex
    subst el
    obtain ⟨uc, um, ue⟩ := U
    have hat0 : ¬ (at_ : Int) < 0 := by omega
    clear hU cut hn2
    go_wp2_with fail
    refine UF.out.mono ?_
    rintro e w5 ⟨v5, rfl, hO5, hb5⟩
    have HO5 := Lib.hid hO5; have HB5 := Lib.hid hb5
    clear hO5 hb5 UF cr
    by_cases hue : ue = 0
    · subst hue
      have hb9 : ((0 : Int) != 0) = false := by decide
      have hsu : (unframeL (b.drop at_)).2.2 = 0 := by rw [HU.out]
      have UO := unframe_ok _ hsu
      rw [HU.out] at UO
      simp only at UO
      have HSU := Lib.hid hsu
      have RC := Lib.hid (rReadCells_any v5 uc w5 (OwnB.slB HO5.out) (by omega))
      clear UO hsu
      go_wp2_with fail
      refine RC.out.mono ?_
      rintro e w6 ⟨hb6, hp6⟩
      have HB6 := Lib.hid (below_tr HB5.out hb6)
      have HLO := Lib.hid ((HR.out.own.below HB5.out).below hb6)
      clear hb6 RC
      cases hrc : rdCells uc with
      | none =>
        rw [hrc] at hp6
        simp only at hp6
        subst hp6
        have HFIN := Lib.hid (FAIL.out w6 (HR.out.ro.none hl (.inr (.inl (by rw [HU.out]; exact hrc)))) HB6.out)
        have hb8 : ((8 : Int) != 0) = true := by decide
        go_wp2_with fail
        exact bodyPost_ret (v := .tuple #[.pointer none, .int .i64 8]) (by simp [results, Tryz.results54, go_sem]) rfl HFIN.out
      | some cs =>
        rw [hrc] at hp6
        obtain ⟨v6, rfl, hO6⟩ := hp6
        by_cases hcs : cs.length = 0
        · obtain rfl := List.length_eq_zero_iff.1 hcs
          have HFIN := Lib.hid (FAIL.out w6 (HR.out.ro.none hl (.inr (.inr (.inl (by rw [HU.out]; exact hrc))))) HB6.out)
          obtain ⟨a6, c6, rfl, _, _⟩ := (OwnX.sl hO6).ex
          simp only [List.length_nil] at *
          clear hO6
          go_wp2_with fail
          exact bodyPost_ret (v := .tuple #[.pointer none, .int .i64 8]) (by simp [results, Tryz.results54, go_sem]) rfl HFIN.out
        · have NX := HR.out.ro.next hl HSU.out (cs := cs) (by rw [HU.out]; exact hrc)
          rw [HU.out] at NX
          simp only at NX
          have hfl := flat_least (l ++ cs)
          rw [List.length_append] at hfl
          have hcz : ((cs.length : Int) == 0) = false := by rw [beq_eq_false_iff_ne]; omega
          have NX1 := NX.1.1
          have htot : l.length + cs.length ≤ 20000 := by omega
          obtain ⟨a6, c6, rfl, hc6, _⟩ := (OwnX.sl hO6).ex
          have hgt : ¬ (20000 : Int) < (l.length : Int) + (cs.length : Int) := by omega
          have HNX := Lib.hid NX
          have HCS := Lib.hid (OwnX.sl hO6)
          have hr1 : l.length + cs.length ≤ 9223372036854775807 := by omega
          have hr2 : (l.length + cs.length) * eC.bytes ≤ 140737488355328 := by show _ * 112 ≤ _; omega
          have hsz6 : w.heap.size ≤ w6.heap.size := Nat.le_trans BEL.out.size HB6.out.size
          have hat2 : at_ + um ≤ b.length := NX.1.2.1
          have hum : 8 ≤ um := NX.1.2.2.1
          have HLL := Lib.hid (show (l ++ cs).length ≤ 20000 by rw [List.length_append]; exact htot)
          clear NX NX1 hfl hO6 hcs
          go_wp2_with (at_builtin; go_must (refine ap_g (E := eC) (by rfl) (.tmp 41) (.tmp 42) (by rfl) w.heap.size _ l _ _ cs (by rfl) (by rfl) HCS.out HLO.out hsz6 hr1 hr2 ?_); intro v9 w9 hO9 hG9; have HO9 := Lib.hid hO9; have BE9 := Lib.hid ((below_tr BEL.out HB6.out).trans (hG9.below hsz6 HLO.out.base)); clear hO9 hG9)
          have ENV := Lib.hid (HE.out.below BE9.out)
          have hflat : ((l ++ cs).flatMap cellL).length ≤ b.length := by have := HNX.out.1.1; omega
          obtain ⟨hfit, hct⟩ := fit_read (l ++ cs) HNX.out.1.2.2.2 (by omega)
          have HFLAT := Lib.hid hflat; have HREAD := Lib.hid HNX.out.1.2.2.2
          have NEXT := Lib.hid (fun (hn : ¬ (OkT (l ++ cs) ∧ tableL (l ++ cs) = b)) W' (hb : Below w9.heap.size w9 W') => show RI b w W' v9 (l ++ cs) (at_ + um) from
            ⟨HNX.out.2 hn, HO9.out.below hb, BE9.out.trans (hb.mono BE9.out.size)⟩)
          obtain ⟨a9, c9, e9, _, _⟩ := (OwnX.sl HO9.out).ex
          obtain ⟨M, hM⟩ : ∃ M, l ++ cs = M := ⟨_, rfl⟩
          rw [hM] at HO9 NEXT HFLAT HREAD HLL hfit hct e9
          have hmeas : b.length - (at_ + um) < b.length - at_ := by omega
          clear hflat HNX hM
          by_cases hok : OkT M
          · have WR := Lib.hid (rwrite_ok v9 M w9 ENV.out (OwnX.sl HO9.out) hok hfit)
            have HOK := Lib.hid hok; have HFIT := Lib.hid hfit
            clear hok hfit hct
            subst e9
            refine WR.out.mono ?_
            rintro e w10 ⟨v10, rfl, hO10, hb10⟩
            have HB10 := Lib.hid hb10
            have BE10 := Lib.hid (below_tr BE9.out hb10)
            have RD1 := (OwnB.reads hO10).out
            have RD2 := (SlB.reads (HV.out.below BE10.out)).out
            obtain ⟨R, hR⟩ : ∃ R, (tableL M == b) = R := ⟨_, rfl⟩
            have HRR := Lib.hid hR
            clear hO10 hb10 WR
            generalize tableL M = tm at RD1 hR
            cases R with
            | false =>
              have N := Lib.hid (NEXT.out (fun h => by have := HRR.out; rw [h.2] at this; simp at this) w10 HB10.out)
              go_wp2_with fail
              go_roundw
              case rel => exact ⟨M, at_ + um, by first | rfl | go_num, by omega, N⟩
              case measure => simp [intOf]; omega
            | true =>
              have heq : tableL M = b := by simpa using HRR.out
              have HOP := Lib.hid (show O = some (chunk8 M) by rw [← HO.out]; exact RO.hit hl HFLAT.out HREAD.out HOK.out heq)
              have FI := Lib.hid (rfilter_any _ M w10 (ENV.out.below HB10.out) ((OwnX.sl HO9.out).keep HB10.out) HFIT.out.keys HLL.out)
              clear heq
              go_wp2_with fail
              refine FI.out.mono ?_
              rintro e w11 ⟨gf, rfl, hF, hb11⟩
              have F2 := Lib.hid (show ROpenPost w O (.returned (.tuple #[.pointer (some ⟨w11.heap.size, 0, none⟩), .int .i64 0])) (w11.alloc (.cells #[.slice a9 M.length c9, .pointer (some ⟨gf, 0, none⟩)] 99)) by
                have ba := below_alloc (Below.refl _ w11) (.cells #[.slice a9 M.length c9, .pointer (some ⟨gf, 0, none⟩)] 99)
                rw [HOP.out]
                refine ⟨below_tr (below_tr BE10.out hb11) ba, _, rfl, ?_⟩
                rw [chunk8_flat M.length M (Nat.le_refl _)]
                exact ⟨_, gf, Blk.new _ _ _, (((OwnX.sl HO9.out).keep HB10.out).keep hb11).keep ba, (hF.keep ba).r⟩)
              clear hF hb11 FI
              go_wp2_with fail
              exact bodyPost_ret (v := .tuple #[.pointer (some ⟨w11.heap.size, 0, none⟩), .int .i64 0]) (by simp [results, Tryz.results54, go_sem]) rfl F2.out
          · have N := Lib.hid (fun W' hb => NEXT.out (fun h => hok h.1) W' hb)
            have WR := Lib.hid (rwrite_bad v9 M w9 (OwnX.sl HO9.out) (by unfold Room; have := HLL.out; omega) hct hok)
            have hb9 : ((2 : Int) == 0) = false := by decide
            subst e9
            clear hok hfit hct
            refine WR.out.mono ?_
            rintro e w10 ⟨rfl, hb10⟩
            have N2 := Lib.hid (N.out w10 hb10)
            clear hb10 WR N
            go_wp2_with fail
            go_roundw
            case rel => exact ⟨M, at_ + um, by first | rfl | go_num, by omega, N2⟩
            case measure => simp [intOf]; omega
    · have HFIN := Lib.hid (FAIL.out w5 (HR.out.ro.none hl (.inl (by rw [HU.out]; exact hue))) HB5.out)
      have hb9 : (ue != 0) = true := by rw [bne_iff_ne]; exact hue
      go_wp2_with fail
      exact bodyPost_ret (v := .tuple #[.pointer none, .int .i64 8]) (by simp [results, Tryz.results54, go_sem]) rfl HFIN.out

/-- while the document's scan goes on -/
structure RScan (w wr : World) (kf ku : Ky) (v : Value) (M : List Cel) : Prop where
  own : OwnX eC wr w.heap.size v (M.filter (inK kf ku))
  bel : Below w.heap.size w wr
set_option maxHeartbeats 4000000 in
theorem rscan_any (g : Nat) (L : List Cel) (kf ku : Ky) (w : World) (h : TbR w g L) (hm : L.length ≤ 20000) :
    Calls Tryz.prog 56 #[.pointer (some ⟨g, 0, none⟩), kyVal kf, kyVal ku] w fun e w' => ∃ v, e = .returned v ∧ OwnX eC w' w.heap.size v (L.filter (inK kf ku)) ∧ Below w.heap.size w w' := by
  have b1 := (Blk.new w 24 #[.string kf.t, .string kf.p, .int .i64 kf.r, .string kf.c]).alloc (.cells #[.string ku.t, .string ku.p, .int .i64 ku.r, .string ku.c] 24)
  have b2 := Blk.new (w.alloc (.cells #[.string kf.t, .string kf.p, .int .i64 kf.r, .string kf.c] 24)) 24 #[.string ku.t, .string ku.p, .int .i64 ku.r, .string ku.c]
  have B0 := below_alloc (below_alloc (Below.refl _ w) (.cells #[.string kf.t, .string kf.p, .int .i64 kf.r, .string kf.c] 24)) (.cells #[.string ku.t, .string ku.p, .int .i64 ku.r, .string ku.c] 24)
  rw [show (w.alloc (.cells #[.string kf.t, .string kf.p, .int .i64 kf.r, .string kf.c] 24)).heap.size = w.heap.size + 1 by simp] at b2
  have h1 := h.keep B0
  obtain ⟨lv, gf, hb, hsl, _⟩ := h1.ex
  have HSL := Lib.hid hsl
  obtain ⟨a, c, rfl, hc, hx⟩ := hsl.ex
  have HX := Lib.hid hx
  have t0 := hb.cell 0 rfl
  have K1 := Lib.hid b1; have K2 := Lib.hid b2; have HB0 := Lib.hid B0
  obtain ⟨R, hR⟩ : ∃ R, L.filter (inK kf ku) = R := ⟨_, rfl⟩
  rw [hR]
  have HR := Lib.hid hR
  clear hR b1 b2 B0 h h1 hb hsl hx
  unfold kyVal
  go_enter Tryz.func56, Tryz.ntmps56
  go_wp2_with fail
  generalize (w.alloc (.cells #[.string kf.t, .string kf.p, .int .i64 kf.r, .string kf.c] 24)).alloc (.cells #[.string ku.t, .string ku.p, .int .i64 ku.r, .string ku.c] 24) = W0 at *
  clear t0
  go_loopw [7, 9, 15] (fun v7 _ v15 wr => ∃ i : Nat, v15 = .int .i64 (i : Int) ∧ i ≤ L.length ∧ Hid (RScan W0 wr kf ku v7 (L.take i))) (fun _ _ v15 _ => L.length - (intOf v15).toNat)
  case atStart => exact ⟨0, rfl, Nat.zero_le _, Lib.hid ⟨OwnX.nil _ _, Below.refl _ _⟩⟩
  case round =>
    obtain ⟨i, rfl, hi, HS⟩ := hrel
    have HBQ := Lib.hid HS.out.bel; have HO2 := Lib.hid HS.out.own
    obtain ⟨acc, hacc⟩ : ∃ acc, (L.take i).filter (inK kf ku) = acc := ⟨_, rfl⟩
    rw [hacc] at HO2
    have HA2 := Lib.hid hacc.symm
    have hal : acc.length ≤ 20000 := by
      rw [← hacc]
      have h1 := List.length_filter_le (inK kf ku) (L.take i)
      rw [List.length_take] at h1; omega
    clear hacc
    obtain ⟨aa, ca, ea, _, _⟩ := (OwnX.sl HO2.out).ex
    subst ea
    by_cases hil : i < L.length
    · have hz2 : (i : Int) < (L.length : Int) := by omega
      obtain ⟨gl, o, rfl, hgl2, _⟩ := HX.out (by omega)
      have ten := (Ten.of HSL.out i hil).keep HBQ.out
      have TI := Lib.hid (show L.take (i + 1) = L.take i ++ [L[i]] from List.take_succ_eq_append_getElem hil)
      generalize L[i] = x at *
      have YES := Lib.hid (fun (h1 : kcK x.k ku < 0) (h2 : 0 ≤ kcK x.k kf) => show acc ++ [x] = (L.take (i + 1)).filter (inK kf ku) by
        rw [TI.out, List.filter_append, ← HA2.out, List.filter_cons_of_pos (by unfold inK; simp; omega)]; rfl)
      have NO := Lib.hid (fun (h2 : ¬ (kcK x.k ku < 0 ∧ 0 ≤ kcK x.k kf)) => show acc = (L.take (i + 1)).filter (inK kf ku) by
        rw [TI.out, List.filter_append, ← HA2.out, List.filter_cons_of_neg (by unfold inK; simp; omega), List.filter_nil, List.append_nil])
      have C1 := Lib.hid (fun W => show Calls _ _ _ _ _ from rCmp_any x.k.t x.k.p x.k.c ku.t ku.p ku.c x.k.r ku.r W)
      have kE : kcK x.k ku = cmpR x.k.t x.k.p x.k.c ku.t ku.p ku.c x.k.r ku.r := (kcmp_ref _ _ _ _ _ _ _ _).symm
      rw [← kE] at C1
      have C2 := Lib.hid (fun W => show Calls _ _ _ _ _ from rCmp_any x.k.t x.k.p x.k.c kf.t kf.p kf.c x.k.r kf.r W)
      have kE2 : kcK x.k kf = cmpR x.k.t x.k.p x.k.c kf.t kf.p kf.c x.k.r kf.r := (kcmp_ref _ _ _ _ _ _ _ _).symm
      rw [← kE2] at C2
      clear kE kE2
      generalize kcK x.k ku = r1 at *
      generalize kcK x.k kf = r2 at *
      obtain ⟨c0, c1, c2, c3, c4, c5, c6, c7, c8, c9⟩ := ten
      have BK := Lib.hid (Blk.new wr 61 (celEnc x).toArray)
      have BX := Lib.hid (below_alloc (Below.refl _ wr) (.cells (celEnc x).toArray 61))
      obtain ⟨⟨t, p, rr, q⟩, ⟨tm, dd, lc, kd, nn, ss⟩⟩ := x
      simp only [celEnc] at *
      go_upto_region 5 with (fail)
      clear c0 c1 c2 c3 c4 c5 c6 c7 c8 c9
      generalize hW1 : wr.alloc (.cells #[.string t, .string p, .int .i64 rr, .string q, .int .i64 tm, .bool dd, .int .i64 lc, .int .i64 kd, .int .i64 nn, .string ss] 61) = W1 at *
      have HB4 := Lib.hid (below_tr HBQ.out BX.out)
      have kf' := K1.out.below HB4.out
      have u0 := kf'.cell 0 rfl; have u1 := kf'.cell 1 rfl; have u2 := kf'.cell 2 rfl; have u3 := kf'.cell 3 rfl
      have c0 := BK.out.cell 0 rfl; have c1 := BK.out.cell 1 rfl; have c2' := BK.out.cell 2 rfl; have c3 := BK.out.cell 3 rfl
      clear kf'
      go_wp2_with fail
      refine (C2.out _).mono ?_
      rintro e w5 ⟨rfl, hb5⟩
      have HB5 := Lib.hid (below_tr HB4.out hb5)
      have bk := BK.out.below hb5
      have ku' := K2.out.below HB5.out
      have O5 := Lib.hid ((HO2.out.below BX.out).below hb5)
      clear u0 u1 u2 u3 c0 c1 c2' c3 C2
      have u0 := ku'.cell 0 rfl; have u1 := ku'.cell 1 rfl; have u2 := ku'.cell 2 rfl; have u3 := ku'.cell 3 rfl
      have c0 := bk.cell 0 rfl; have c1 := bk.cell 1 rfl; have c2' := bk.cell 2 rfl; have c3 := bk.cell 3 rfl
      have BK5 := Lib.hid bk
      clear ku' bk hb5
      by_cases hr2 : 0 ≤ r2
      · go_wp2_with fail
        refine (C1.out _).mono ?_
        rintro e w6 ⟨rfl, hb6⟩
        have HB6 := Lib.hid (below_tr HB5.out hb6)
        have bk := BK5.out.below hb6
        have O6 := Lib.hid (O5.out.below hb6)
        clear u0 u1 u2 u3 c0 c1 c2' c3 C1
        obtain ⟨c0, c1, c2, c3, c4, c5, c6, c7, c8, c9⟩ := Blk.ten (x := (⟨⟨t, p, rr, q⟩, ⟨tm, dd, lc, kd, nn, ss⟩⟩ : Cel)) bk
        simp only [Nat.zero_add] at c0 c1 c2 c3 c4 c5 c6 c7 c8 c9
        clear bk hb6
        by_cases hr1 : r1 < 0
        · have HY := Lib.hid (YES.out hr1 hr2)
          have BX7 := Lib.hid (below_al HB6.out (.cells #[.string t, .string p, .int .i64 rr, .string q, .int .i64 tm, .bool dd, .int .i64 lc, .int .i64 kd, .int .i64 nn, .string ss] 61) HB6.out.size)
          have OX7 := Lib.hid (O6.out.alloc (.cells #[.string t, .string p, .int .i64 rr, .string q, .int .i64 tm, .bool dd, .int .i64 lc, .int .i64 kd, .int .i64 nn, .string ss] 61))
          have SX7 := Lib.hid (SlX.lit (E := eC) w6 #[.string t, .string p, .int .i64 rr, .string q, .int .i64 tm, .bool dd, .int .i64 lc, .int .i64 kd, .int .i64 nn, .string ss] [(⟨⟨t, p, rr, q⟩, ⟨tm, dd, lc, kd, nn, ss⟩⟩ : Cel)] 1 1 rfl (by simp) (by simp [El.cells, eC, celEnc]))
          go_wp2_with (at_builtin; go_must (refine ap_x (E := eC) rfl (.tmp 31) (.tmp 33) rfl W0.heap.size _ acc _ _ [(⟨⟨t, p, rr, q⟩, ⟨tm, dd, lc, kd, nn, ss⟩⟩ : Cel)] rfl rfl SX7.out OX7.out BX7.out BX7.out.size (by simp; omega) (by simp [eC]; omega) ?_); intro v7 w7 hO7 hB7 hz7 hg7)
          have O7 := Lib.hid hO7; have B7 := Lib.hid hB7
          have G7 := Lib.hid hg7
          clear hO7 hB7 hz7 hg7
          have SC := Lib.hid (show RScan W0 w7 kf ku _ (L.take (i + 1)) from ⟨by rw [← HY.out]; exact O7.out, B7.out⟩)
          go_roundw
          case rel => exact ⟨i + 1, by first | rfl | go_num, by omega, SC⟩
          case measure => simp [intOf]; omega
        · have HN := Lib.hid (NO.out (by omega))
          have SC := Lib.hid (show RScan W0 w6 kf ku _ (L.take (i + 1)) from ⟨by rw [← HN.out]; exact O6.out, HB6.out⟩)
          go_wp2_with fail
          go_roundw
          case rel => exact ⟨i + 1, by first | rfl | go_num, by omega, SC⟩
          case measure => simp [intOf]; omega
      · have HN := Lib.hid (NO.out (by omega))
        have SC := Lib.hid (show RScan W0 w5 kf ku _ (L.take (i + 1)) from ⟨by rw [← HN.out]; exact O5.out, HB5.out⟩)
        go_wp2_with fail
        go_roundw
        case rel => exact ⟨i + 1, by first | rfl | go_num, by omega, SC⟩
        case measure => simp [intOf]; omega
    · have hz : ¬ (i : Int) < (L.length : Int) := by omega
      have FIN := Lib.hid (show acc = R by rw [HA2.out, List.take_of_length_le (by omega)]; exact HR.out)
      go_wp2_with fail
      go_ret
      exact ⟨_, rfl, by rw [← FIN.out]; exact HO2.out.weaken HB0.out.size, HB0.out.trans (HBQ.out.mono HB0.out.size)⟩

set_option maxHeartbeats 1000000 in
theorem rtmay_any (g : Nat) (L : List Cel) (k : Ky) (w : World) (h : TbR w g L) (he : Env w) (hk : k.t.size + k.p.size + k.c.size ≤ 2000000) :
    Calls Tryz.prog 57 #[.pointer (some ⟨g, 0, none⟩), kyVal k] w fun e w' => e = .returned (.bool (mayF 7 (bitsL L) (kyL k))) ∧ Below w.heap.size w w' := by
  have b1 := Blk.new w 24 #[.string k.t, .string k.p, .int .i64 k.r, .string k.c]
  have B0 := below_alloc (Below.refl _ w) (.cells #[.string k.t, .string k.p, .int .i64 k.r, .string k.c] 24)
  have h0 := h.keep B0
  obtain ⟨lv, gf, hb, hsl, hfl⟩ := h0.ex
  have HFL := Lib.hid hfl
  have he0 := he.below B0
  have hkl := kyL_len k
  have HKL := Lib.hid (show (kyL k).length ≤ 10000000 by omega)
  obtain ⟨R, hR⟩ : ∃ R, mayF 7 (bitsL L) (kyL k) = R := ⟨_, rfl⟩
  rw [hR]
  have HR := Lib.hid hR
  clear hR hkl hsl hfl h0 h
  unfold kyVal
  go_enter Tryz.func57, Tryz.ntmps57
  go_wp2_with fail
  generalize w.alloc (.cells #[.string k.t, .string k.p, .int .i64 k.r, .string k.c] 24) = W at *
  have KB := Lib.hid (fun W' (hb : Below W.heap.size W W') => rBytes_any k.t k.p k.c k.r W' (he0.below hb) (by omega))
  have HM := Lib.hid (fun W' v (hb : Below W.heap.size W W') (ho : SlB W'.heap.size W' v (keyBytes k.t k.p k.r k.c)) => show Calls Tryz.prog 97 #[.pointer (some ⟨gf, 0, none⟩), v] W' (fun e w' => e = .returned (.bool R) ∧ Below W'.heap.size W' w') from by
    have := rfMay_any v (kyL k) gf 7 (bitsL L) W' (HFL.out.keep hb) ho HKL.out
    rwa [HR.out] at this)
  have HS := Lib.hid (fun W' (hb' : Below W.heap.size W W') => show InW W W' ∧ W'.cell? ⟨g, 1, none⟩ = some (.pointer (some ⟨gf, 0, none⟩)) ∧ W'.cell? ⟨w.heap.size, 0, none⟩ = some (.string k.t) ∧ W'.cell? ⟨w.heap.size, 1, none⟩ = some (.string k.p) ∧ W'.cell? ⟨w.heap.size, 2, none⟩ = some (.int .i64 k.r) ∧ W'.cell? ⟨w.heap.size, 3, none⟩ = some (.string k.c) from
    ⟨hb', (hb.below hb').cell 1 rfl, (b1.below hb').cell 0 rfl, (b1.below hb').cell 1 rfl, (b1.below hb').cell 2 rfl, (b1.below hb').cell 3 rfl⟩)
  have HB0 := Lib.hid B0
  clear b1 B0 hb he0 he
  go_region_held3 (fun W' => InW W W' ∧ W'.cell? ⟨g, 1, none⟩ = some (.pointer (some ⟨gf, 0, none⟩)) ∧ W'.cell? ⟨w.heap.size, 0, none⟩ = some (.string k.t) ∧ W'.cell? ⟨w.heap.size, 1, none⟩ = some (.string k.p) ∧ W'.cell? ⟨w.heap.size, 2, none⟩ = some (.int .i64 k.r) ∧ W'.cell? ⟨w.heap.size, 3, none⟩ = some (.string k.c)) (first | exact HS.out _ (InW.drew (InW.refl _)) | with_reducible assumption | exact HS.out _ (InW.tr (And.left (by with_reducible assumption)) (by with_reducible assumption)))
    (first | (go_at_call 49; refine (KB.out _ (‹InW W _ ∧ _›).1).mono ?_; rintro e w' ⟨v, rfl, HO, hb⟩) | (go_at_call 97; refine (HM.out _ _ (‹InW W _ ∧ _›).1 (OwnB.slB (by with_reducible assumption))).mono ?_; rintro e w' ⟨rfl, hb5⟩))
  all_goals have HB5 := Lib.hid (HB0.out.trans ((show Below W.heap.size W _ from (‹InW W _ ∧ _›).1).mono HB0.out.size))
  all_goals go_wp2_with fail
  all_goals go_ret
  all_goals exact ⟨rfl, HB5.out⟩
end Go.Proofs.YtplghaoflmaadaaGreatDoor
end
