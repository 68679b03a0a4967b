/- The contract of the table reader's end. Conditions: room. The contract of slices.Equal at bytes. No condition but room. The contract of the table's Open. Conditions: room. -/
import Derived.Test.YtplghaoflmaadaaGreatDoorZ24
import Derived.Test.YtplghaoflmaadaaGreatDoorZ09
import Derived.Test.YtplghaoflmaadaaGreatDoorZ07
import Derived.Test.YtplghaoflmaadaaGreatDoorZ10
import Derived.WalkMore
import Derived.Test.YtplghaoflmaadaaGreatDoorZ33
import Derived.Test.YtplghaoflmaadaaGreatDoorZ30
import Derived.Test.YtplghaoflmaadaaGreatDoorZ25
import Derived.Test.YtplghaoflmaadaaGreatDoorZ26
import Derived.Laws.Cover3
section
set_option linter.unusedVariables false
set_option linter.unusedSimpArgs false
set_option maxRecDepth 50000
namespace Go.Proofs.YtplghaoflmaadaaGreatDoor
open Go.RowKit Go.Sort
open Go.Lib hiding intOf

theorem infoU : (Tryz.prog.info? 84).map (fun i => (i.zero, i.size, i.bytes)) = some (some (.int .u64 0), 1, 8) := by kernel_rfl
def eU : El Nat := { st := 112, t := 84, size := 1, bytes := 8, z := .int .u64 0, enc := fun n => [.int .u64 (n : Int)], len := fun _ => rfl, one := fun x u hu => by simp at hu; subst hu; rfl, info := infoU, und := Tryz.underlying112, elem := by kernel_rfl, zs := rfl, pos := by decide }
theorem unframe_le (l : List UInt8) : (unframeL l).1.length ≤ l.length := by
  unfold unframeL
  split
  · simp
  · split
    · simp
    · split
      · simp
      · split
        · simp
        · simp only [List.length_take, List.length_drop]; omega
def EndPost (B : Nat) (W : World) (g : Nat) (o : Option (List Nat × List UInt8)) (e : Ending) (w' : World) : Prop :=
  But (fun k => k = g) W w' ∧ match o with
    | none => e = .returned (.slice none 0 0)
    | some (l, body) => ∃ v' vb, e = .returned v' ∧ OwnX eU w' W.heap.size v' l ∧ Blk w' g 111 #[vb] ∧ SlB B w' vb body
theorem EndPost.none' {B : Nat} {W : World} {g : Nat} {o : Option (List Nat × List UInt8)} {w' : World} (ho : o = none) (hb : But (fun k => k = g) W w') : EndPost B W g o (.returned (.slice none 0 0)) w' := by subst ho; exact ⟨hb, rfl⟩

def slLen : Value → Nat
  | .slice _ n _ => n
  | _ => 0
/-- The state of the loop over the numbers. -/
structure NS (w w1 : World) (g : Nat) (vb v5 v8 : Value) (acc : List Nat) (rest : List UInt8) (wr : World) : Prop where
  sl : SlB w1.heap.size wr v5 rest
  own : OwnX eU wr w1.heap.size v8 acc
  blk : Blk wr g 111 #[vb]
  bel : Below w1.heap.size w1 wr
theorem rdNums_fuel : ∀ (f : Nat) (l : List UInt8), l.length ≤ f → ∀ f2, l.length ≤ f2 → rdNums f l = rdNums f2 l
  | 0, l, h, f2, h2 => by
    obtain rfl := List.length_eq_zero_iff.1 (Nat.le_zero.1 h)
    cases f2 <;> rfl
  | f + 1, l, h, f2, h2 => by
    by_cases h0 : l.length = 0
    · obtain rfl := List.length_eq_zero_iff.1 h0
      cases f2 <;> rfl
    · obtain ⟨f2', rfl⟩ : ∃ k, f2 = k + 1 := ⟨f2 - 1, by omega⟩
      rw [rdNums, rdNums, if_neg h0, if_neg h0]
      cases e : rdNum l with
      | none => rfl
      | some p =>
        obtain ⟨u, r⟩ := p
        have := rdNum_len e
        simp only
        rw [rdNums_fuel f r (by omega) f2' (by omega)]
theorem rdNums_step (l : List UInt8) (h : 0 < l.length) : rdNums l.length l = match getL 0 0 l with
    | none => none
    | some (u, k) => (rdNums (l.drop k).length (l.drop k)).map (u :: ·) := by
  obtain ⟨f, hf⟩ : ∃ f, l.length = f + 1 := ⟨l.length - 1, by omega⟩
  rw [hf, rdNums, if_neg (by omega), rdNum]
  cases e : getL 0 0 l with
  | none => rfl
  | some p =>
    obtain ⟨u, k⟩ := p
    have hb := getL_bound l 0 0 u k (by decide) (by decide) e
    simp only [Option.map_some]
    rw [rdNums_fuel f (l.drop k) (by simp; omega) (l.drop k).length (Nat.le_refl _)]

set_option maxHeartbeats 4000000 in
theorem end_any (B g : Nat) (v : Value) (b : List UInt8) (w : World) (hk : Blk w g 111 #[v]) (hv : SlB B w v b) (hB : B ≤ g) (hl : b.length ≤ 1000000) :
    Calls Tryz.prog 72 #[.pointer (some ⟨g, 0, none⟩)] w (EndPost B w g (endN b)) := by
  have HV := Lib.hid hv
  obtain ⟨a, cap, rfl, hc, hx⟩ := hv.ex
  have HK := Lib.hid hk
  have c0 := hk.cell 0 rfl; have f0 := hk.frozen 0
  have hgl := hk.lt
  by_cases h0 : b.length = 0
  · have HE := Lib.hid (show endN b = none by unfold endN; rw [if_pos h0])
    rw [HE.out]
    clear hk hv hx HV
    generalize b.length = len at *
    have hz : ((len : Int) == 0) = true := by rw [beq_iff_eq]; omega
    clear h0
    go_enter Tryz.func72, Tryz.ntmps72
    go_wp2_with fail
    go_step3
    go_wp2_with fail
    first | rw [Exit.noGoto_ret] | skip
    go_ret
    exact ⟨But.refl _ _, rfl⟩
  · obtain ⟨n1, hn1⟩ : ∃ n1, b.length = n1 + 1 := ⟨b.length - 1, by omega⟩
    have hlt : n1 < b.length := by omega
    obtain ⟨ga, o, rfl, hga, hcell⟩ := hx (by omega)
    have cl := hcell n1 hlt
    obtain ⟨n, hn⟩ : ∃ n, b[n1].toNat = n := ⟨_, rfl⟩
    have hgd : (b.getD (b.length - 1) 0).toNat = n := by rw [hn1, Nat.add_sub_cancel, List.getD_eq_getElem?_getD, List.getElem?_eq_getElem hlt]; exact hn
    rw [hn] at cl
    have hn256 : n < 256 := by rw [← hn]; exact b[n1].toNat_lt
    have HG := Lib.hid hgd; have HN1 := Lib.hid hn1
    have hz : ((b.length : Int) == 0) = false := by rw [beq_eq_false_iff_ne]; omega
    obtain ⟨len, hlen⟩ : ∃ len, b.length = len := ⟨_, rfl⟩
    have HLEN := Lib.hid hlen
    have hw1 : IntKind.i64.wrap ((len : Int) - 1) = (n1 : Int) := by rw [IntKind.wrap_i64]; omega
    have hwn : IntKind.i64.wrap (n : Int) = (n : Int) := by rw [IntKind.wrap_i64]; omega
    have hi1 : (n1 : Int) < (len : Int) := by omega
    have hi2 : ¬ (n1 : Int) < 0 := by omega
    have hi3 : n1 < len := by omega
    clear hcell
    rw [hlen] at hz hc
    rw [hlen] at HV HK c0
    clear hk hv hx hn hgd h0 hlt
    by_cases hq : n1 < n
    · have HE := Lib.hid (show endN b = none by
        unfold endN; rw [if_neg (by have := HN1.out; omega), HG.out, if_pos (by have := HN1.out; omega)])
      rw [HE.out]
      have hw2 : IntKind.i64.wrap ((n1 : Int) - (n : Int)) = (n1 : Int) - (n : Int) := by rw [IntKind.wrap_i64]; omega
      have hw3 : (n1 : Int) - (n : Int) < 0 := by omega
      go_enter Tryz.func72, Tryz.ntmps72
      go_wp2_with fail
      go_step3
      go_wp2_with fail
      go_quiet (fail)
      go_wp2_with fail
      first | rw [Exit.noGoto_ret] | skip
      go_ret
      exact ⟨But.drewN (But.refl _ _) _, rfl⟩
    · obtain ⟨q, hqe⟩ : ∃ q, q = n1 - n := ⟨_, rfl⟩
      have hmid := HV.out.mid q n (by rw [HLEN.out]; omega)
      obtain ⟨a2, c2, hs2, hrun0⟩ := hmid
      have hrun := fun W => hrun0 (n1 : Int) (by omega) W
      have HU := Lib.hid (fun W' (hb : Below w.heap.size w W') => Unframe_any _ _ W' ((hs2.below (hb.mono (by omega))).up (Nat.le_trans (show B ≤ w.heap.size by omega) hb.size)) (by simp; omega))
      have hw2 : IntKind.i64.wrap ((n1 : Int) - (n : Int)) = (q : Int) := by rw [IntKind.wrap_i64]; omega
      have hw3 : ¬ (q : Int) < 0 := by omega
      obtain ⟨U, hU⟩ : ∃ U, unframeL ((b.drop q).take n) = U := ⟨_, rfl⟩
      rw [hU] at HU
      have HE := Lib.hid (show endN b = if U.2.2 = 0 ∧ U.2.1 = n then (match rdNums U.1.length U.1 with | none => none | some l => if l.length = 5 then some (l, b.take q) else none) else none by
        unfold endN; rw [if_neg (by have := HN1.out; omega), HG.out, if_neg (by have := HN1.out; omega)]
        rw [show b.length - 1 - n = q by have := HN1.out; omega, hU]
        rfl)
      have HQE := Lib.hid hqe; have HUE := Lib.hid hU; have HS2 := Lib.hid hs2
      have HSS := Lib.hid (fun W' (hb : Below w.heap.size w W') => show Below w.heap.size w W' ∧ W'.cell? ⟨g, 0, none⟩ = some (.slice (some ⟨ga, o, none⟩) len cap) from ⟨hb, cell_keep hb c0⟩)
      clear hrun0 hs2 hU hqe
      obtain ⟨uc, um, ue⟩ := U
      simp only at *
      go_enter Tryz.func72, Tryz.ntmps72
      go_wp2_with fail
      go_step3
      go_wp2_with fail
      go_quiet (fail)
      have HSq := Lib.hid (show Below w.heap.size w (w.drewN nq) from below_drewN (Below.refl _ _) nq)
      have c1 := (HSS.out _ HSq.out).2
      go_wp2_with fail
      go_region_held3 (fun W' => Below w.heap.size w W' ∧ W'.cell? ⟨g, 0, none⟩ = some (.slice (some ⟨ga, o, none⟩) len cap)) (first | exact HSS.out _ (Below.drew HSq.out) | assumption | exact HSS.out _ (Below.trans (And.left (by assumption)) (by assumption)))
        (first | (go_at_call 73; refine (HU.out _ (‹Below w.heap.size w _ ∧ _›).1).mono ?_; rintro e w' ⟨v5, rfl, hO5, hb5⟩))
      have HB5 := Lib.hid (show Below w.heap.size w w' from (‹Below w.heap.size w w' ∧ _›).1)
      have HO5 := Lib.hid hO5
      have c5 := (HSS.out _ HB5.out).2
      have f5 : w'.frozen? ⟨g, 0, none⟩ = false := (HB5.out.frozen (p := ⟨g, 0, none⟩) hgl).trans f0
      clear hO5 hb5 c0 c1 cl f0
      by_cases hue : ue = 0
      · subst hue
        by_cases hum : um = n
        · subst hum
          have hqc : q ≤ cap := by have := HQE.out; omega
          have hb2 : ((um : Int) != (um : Int)) = false := by simp
          go_wp2_with fail
          go_step3
          go_wp2_with fail
          have hb6 := But.setCell (p := ⟨g, 0, none⟩) (But.of_below (fun k => k = g) HB5.out) rfl (.slice (some ⟨ga, o, none⟩) q cap)
          have k6 := (HK.out.below HB5.out).put 0 (.slice (some ⟨ga, o, none⟩) q cap)
          have o6 := (own_eB.2 HO5.out).grown (Lib.grownBy_setCell w' g 0 (.slice (some ⟨ga, o, none⟩) q cap)) (.inr (fun e => by have := OwnX.base (own_eB.2 HO5.out) g e; simp at this; omega))
          have HUl := Lib.hid (show uc.length ≤ 300 by
            have h1 := HUE.out
            have : uc.length ≤ ((b.drop q).take um).length := by
              have h2 : uc = (unframeL ((b.drop q).take um)).1 := by rw [h1]
              rw [h2]; exact unframe_le _
            rw [List.length_take] at this; omega)
          generalize hW1 : w'.setCell ⟨g, 0, none⟩ (.slice (some ⟨ga, o, none⟩) q cap) = w1 at *
          have hgw1 : g < w1.heap.size := k6.lt
          have HB6 := Lib.hid hb6
          have NS0 := Lib.hid (show NS w w1 g (.slice (some ⟨ga, o, none⟩) q cap) v5 (.slice none 0 0) [] uc w1 from ⟨OwnB.slB (own_eB.1 o6), OwnX.nil _ _, k6, Below.refl _ _⟩)
          have hw1s : w.heap.size ≤ w1.heap.size := hb6.size
          clear hb6 k6 o6 hW1 HO5
          go_loopw [5, 8, 9, 10] (fun v5 v8 _ _ wr => ∃ (acc : List Nat) (rest : List UInt8), Hid (NS w w1 g (.slice (some ⟨ga, o, none⟩) q cap) v5 v8 acc rest wr) ∧ Hid (rdNums uc.length uc = (rdNums rest.length rest).map (acc ++ ·)) ∧ acc.length + rest.length ≤ 300 ∧ slLen v5 = rest.length) (fun v5 _ _ _ _ => slLen v5)
          case atStart =>
            refine ⟨[], uc, NS0, Lib.hid (by cases rdNums uc.length uc <;> simp), by have := HUl.out; simpa using this, ?_⟩
            obtain ⟨a7, c7, e7, _⟩ := NS0.out.sl.ex
            rw [e7]; rfl
          case round =>
            obtain ⟨acc, rest, HNS, HRD, hal, hsl⟩ := hrel
            obtain ⟨a7, c7, e7, hc7, _⟩ := HNS.out.sl.ex
            obtain ⟨a8, c8, e8, hc8, _⟩ := (OwnX.sl HNS.out.own).ex
            subst e7 e8
            have HBUT := Lib.hid (show But (fun k => k = g) w wr from HB6.out.tail HNS.out.bel)
            by_cases hr : rest.length = 0
            · obtain rfl := List.length_eq_zero_iff.1 hr
              have HA := Lib.hid (show rdNums uc.length uc = some acc by rw [HRD.out]; simp [rdNums])
              by_cases h5 : acc.length = 5
              · have HN := Lib.hid (show endN b = some (acc, b.take q) from HE.out.trans (by rw [if_pos (by simp), HA.out]; simp only [h5, if_true]))
                have hb5 : ((acc.length : Int) != 5) = false := by rw [h5]; rfl
                have HH := Lib.hid (HV.out.head q (by have := HQE.out; have := HN1.out; omega) rfl)
                have hfin : EndPost B w g (endN b) (.returned (.slice a8 acc.length c8)) wr := by
                  rw [HN.out]
                  exact ⟨HBUT.out, _, _, rfl, HNS.out.own.weaken hw1s, HNS.out.blk, HH.out.below (HBUT.out.below (by omega) (fun k hk => by subst hk; exact hB))⟩
                have HFIN := Lib.hid hfin
                clear hfin
                go_wp2_with fail
                first | rw [Exit.noGoto_ret] | skip
                go_ret
                exact HFIN.out
              · have HN := Lib.hid (show endN b = none from HE.out.trans (by rw [if_pos (by simp), HA.out]; simp only [h5, if_false]))
                have hb5 : ((acc.length : Int) != 5) = true := by rw [bne_iff_ne]; omega
                go_wp2_with fail
                first | rw [Exit.noGoto_ret] | skip
                go_ret
                exact EndPost.none' HN.out HBUT.out
            · obtain ⟨m, hm⟩ : ∃ m, rest.length = m + 1 := ⟨rest.length - 1, by omega⟩
              have G := Get_any _ rest w1.heap.size wr HNS.out.sl (by omega)
              have ST := rdNums_step rest (by omega)
              have HM := Lib.hid hm
              have HNS0 := HNS
              have hz : (0 : Int) < (m : Int) + 1 := by omega
              rw [hm] at G
              rw [hm] at HNS
              rw [hm]
              cases hget : getL 0 0 rest with
              | none =>
                rw [hget] at G ST
                have HA := Lib.hid (show rdNums uc.length uc = none by rw [HRD.out, ST]; rfl)
                have HN := Lib.hid (show endN b = none from HE.out.trans (by rw [if_pos (by simp), HA.out]))
                have GG := Lib.hid G
                clear G ST hm hr hget hal hsl hc7
                go_wp2_with fail
                refine GG.out.mono ?_
                rintro e wg ⟨rfl, rfl⟩
                unfold getV
                go_wp2_with fail
                first | rw [Exit.noGoto_ret] | skip
                go_ret
                exact EndPost.none' HN.out HBUT.out
              | some p =>
                obtain ⟨u, k⟩ := p
                rw [hget] at G ST
                have hb := getL_bound rest 0 0 u k (by decide) (by decide) hget
                have GG := Lib.hid G
                have hk0 : ((k : Int) == 0) = false := by rw [beq_eq_false_iff_ne]; omega
                clear G hget
                go_wp2_with fail
                refine GG.out.mono ?_
                rintro e wg ⟨rfl, rfl⟩
                unfold getV
                go_wp2_with fail
                have hk1 : k ≤ rest.length := by omega
                have cr := fun W => HNS.out.sl.cut_run k hk1 W
                have cut := Lib.hid (HNS.out.sl.cut k hk1)
                unfold cutV at cr cut
                have hsz := HNS.out.bel.size
                have hr1 : acc.length + [u].length ≤ 9223372036854775807 := by simp; omega
                have hr2 : (acc.length + [u].length) * eU.bytes ≤ 140737488355328 := by show _ * 8 ≤ _; simp; omega
                have hsz2 : w1.heap.size ≤ (wr.alloc (.cells #[.int .u64 (u : Int)] 84)).drew.heap.size := Nat.le_trans hsz (by show wr.heap.size ≤ (wr.alloc (.cells #[.int .u64 (u : Int)] 84)).heap.size; rw [World.size_alloc]; omega)
                have OD := Lib.hid ((HNS.out.own.alloc (.cells #[.int .u64 (u : Int)] 84)).drew)
                have SLU := Lib.hid (show SlX eU (wr.alloc (.cells #[.int .u64 (u : Int)] 84)).heap.size (wr.alloc (.cells #[.int .u64 (u : Int)] 84)).drew (.slice (some ⟨wr.heap.size, 0, none⟩) 1 1) [u] from (SlX.lit (E := eU) wr #[.int .u64 (u : Int)] [u] 1 1 rfl (Nat.le_refl _) rfl).below (Below.drew (Below.refl _ _)))
                go_region_held3 (fun _ => True) (trivial) (first | (go_must (refine st_x (E := eU) (by rfl) (.tmp 83) (.tmp 85) (by rfl) w1.heap.size _ acc _ _ [u] (by rfl) (by rfl) SLU.out OD.out hsz2 hr1 hr2 ?_); intro v9 w9 hO9 hG9 hH9))
                have hb9 : Below w1.heap.size wr w9 := (((Below.refl w1.heap.size wr).alloc hsz (.cells #[.int .u64 (u : Int)] 84)).drew).grown hG9 hsz2 (OwnX.base HNS.out.own)
                have NX := Lib.hid (show NS w w1 g (.slice (some ⟨ga, o, none⟩) q cap) _ v9 (acc ++ [u]) (rest.drop k) w9 from ⟨cut.out.below hb9, hO9, HNS.out.blk.under hb9 hgw1, HNS.out.bel.trans hb9⟩)
                have RDN := Lib.hid (show rdNums uc.length uc = (rdNums (rest.drop k).length (rest.drop k)).map ((acc ++ [u]) ++ ·) by
                  rw [HRD.out, ST]
                  cases rdNums (rest.drop k).length (rest.drop k) <;> simp)
                have hll : (acc ++ [u]).length + (rest.drop k).length ≤ 300 := by simp; omega
                have hsl9 : m + 1 - k = (rest.drop k).length := by rw [List.length_drop, HM.out]
                have hmeas : m + 1 - k < m + 1 := by omega
                go_wp2_with fail
                go_roundw
                case rel => exact ⟨acc ++ [u], rest.drop k, NX, RDN, hll, hsl9⟩
                case measure => exact hmeas
        · have HN := Lib.hid (show endN b = none from HE.out.trans (if_neg (by omega)))
          have hb2 : ((um : Int) != (n : Int)) = true := by rw [bne_iff_ne]; omega
          go_wp2_with fail
          first | rw [Exit.noGoto_ret] | skip
          go_ret
          exact EndPost.none' HN.out (But.of_below _ HB5.out)
      · have HN := Lib.hid (show endN b = none from HE.out.trans (if_neg (by omega)))
        have hb1 : (ue != 0) = true := by rw [bne_iff_ne]; exact hue
        go_wp2_with fail
        first | rw [Exit.noGoto_ret] | skip
        go_ret
        exact EndPost.none' HN.out (But.of_below _ HB5.out)
end Go.Proofs.YtplghaoflmaadaaGreatDoor
end

section
set_option linter.unusedVariables false
set_option linter.unusedSimpArgs false
set_option maxRecDepth 50000
namespace Go.Proofs.YtplghaoflmaadaaGreatDoor
open Go.RowKit

set_option maxHeartbeats 1000000 in
theorem eqB_any (v1 v2 : Value) (l1 l2 : List UInt8) (B : Nat) (w : World) (h1 : SlB B w v1 l1) (h2 : SlB B w v2 l2) (hl : l1.length ≤ 1000000000) :
    Calls Tryz.prog 75 #[v1, v2] w fun e w' => e = .returned (.bool (decide (l1 = l2))) ∧ Below w.heap.size w w' := by
  obtain ⟨a1, c1, rfl, hc1, hx1⟩ := h1.ex
  obtain ⟨a2, c2, rfl, hc2, hx2⟩ := h2.ex
  clear h1 h2
  obtain ⟨R, hR⟩ : ∃ R, decide (l1 = l2) = R := ⟨_, rfl⟩
  rw [hR]
  have HR := Lib.hid hR
  clear hR
  by_cases hne : l1.length = l2.length
  · have HX1 := Lib.hid hx1; have HX2 := Lib.hid hx2
    clear hx1 hx2
    rw [← hne]
    have hb : ((l1.length : Int) != (l1.length : Int)) = false := by simp
    have HNE := Lib.hid hne
    clear hne
    go_enter Tryz.func75, Tryz.ntmps75
    go_wp2_with fail
    go_loopw [5, 13] (fun _ v13 wr => ∃ i : Nat, v13 = .int .i64 (i : Int) ∧ i ≤ l1.length ∧ Hid (l1.take i = l2.take i) ∧ Below w.heap.size w wr) (fun _ v13 _ => l1.length - (intOf v13).toNat)
    case atStart => exact ⟨0, rfl, by omega, Lib.hid (by simp), Below.refl _ _⟩
    case round =>
      obtain ⟨i, rfl, hi, HT, hb⟩ := hrel
      have HBw := Lib.hid hb; clear hb
      by_cases hlt : i < l1.length
      · have hz : (i : Int) < (l1.length : Int) := by omega
        have hi0 : ¬ (i : Int) < 0 := by omega
        have hlt2 : i < l2.length := by have := HNE.out; omega
        obtain ⟨g1, o1, rfl, hg1, hcell1⟩ := HX1.out (by omega)
        obtain ⟨g2, o2, rfl, hg2, hcell2⟩ := HX2.out (by omega)
        have d1 := cell_keep HBw.out (hcell1 i hlt)
        have d2 := cell_keep HBw.out (hcell2 i hlt2)
        have YES := Lib.hid (fun (h : l1[i] = l2[i]) => show l1.take (i + 1) = l2.take (i + 1) by
          rw [List.take_succ_eq_append_getElem hlt, List.take_succ_eq_append_getElem hlt2, HT.out, h])
        have NO := Lib.hid (fun (h : l1[i] ≠ l2[i]) => show R = false by
          rw [← HR.out]; exact decide_eq_false (fun e => h (by subst e; rfl)))
        by_cases hq : l1[i] = l2[i]
        · have Y := Lib.hid (YES.out hq)
          rw [← hq] at d2
          generalize l1[i] = x at *
          clear hcell1 hcell2 YES NO
          have hb : ((x.toNat : Int) != (x.toNat : Int)) = false := by simp
          go_wp2_with fail
          go_quiet (fail)
          go_wp2_with fail
          exact ⟨⟨i + 1, by first | rfl | go_num, by omega, Y, below_drewN HBw.out _⟩, by simp [intOf]; omega⟩
        · have Y := Lib.hid (NO.out hq)
          have hb : ((l1[i].toNat : Int) != (l2[i].toNat : Int)) = true := by
            rw [bne_iff_ne]; intro h; exact hq (UInt8.toNat_inj.1 (by omega))
          generalize l1[i] = x at *
          generalize l2[i] = y at *
          clear hcell1 hcell2 YES NO
          go_wp2_with fail
          go_quiet (fail)
          go_wp2_with fail
          go_ret
          exact ⟨by rw [Y.out]; rfl, below_drewN HBw.out _⟩
      · have hz : ¬ (i : Int) < (l1.length : Int) := by omega
        have Y := Lib.hid (show R = true by
          rw [← HR.out]
          have h := HT.out
          rw [List.take_of_length_le (by omega), List.take_of_length_le (by have := HNE.out; omega)] at h
          exact decide_eq_true h)
        go_wp2_with fail
        go_ret
        exact ⟨by rw [Y.out]; rfl, HBw.out⟩
  · have Y := Lib.hid (show R = false by rw [← HR.out]; exact decide_eq_false (fun e => hne (by rw [e])))
    have hb : ((l1.length : Int) != (l2.length : Int)) = true := by rw [bne_iff_ne]; omega
    clear hx1 hx2 hne
    go_enter Tryz.func75, Tryz.ntmps75
    go_wp2_with fail
    go_ret
    exact ⟨by rw [Y.out]; rfl, Below.refl _ _⟩
end Go.Proofs.YtplghaoflmaadaaGreatDoor
end

section
set_option linter.unusedVariables false
set_option linter.unusedSimpArgs false
set_option maxRecDepth 50000
namespace Go.Proofs.YtplghaoflmaadaaGreatDoor
open Go.RowKit Go.Sort
open Go.Lib hiding intOf

def OpenPost (w : World) (o : Option (List (List Cel))) (e : Ending) (w' : World) : Prop :=
  Below w.heap.size w w' ∧ match o with
    | none => e = .returned (.tuple #[.pointer none, .int .i64 8])
    | some bs => ∃ g, e = .returned (.tuple #[.pointer (some ⟨g, 0, none⟩), .int .i64 0]) ∧ Tb w' g bs
theorem endN_len {b : List UInt8} {l : List Nat} {body : List UInt8} (h : endN b = some (l, body)) : l.length = 5 ∧ body.length ≤ b.length := by
  unfold endN at h
  split at h
  · cases h
  · split at h
    · cases h
    · split at h
      · split at h
        · cases h
        · split at h
          · rename_i h5
            simp only [Option.some.injEq, Prod.mk.injEq] at h
            obtain ⟨rfl, rfl⟩ := h
            exact ⟨h5, by rw [List.length_take]; exact Nat.min_le_right _ _⟩
          · cases h
      · cases h
theorem eql_nilU (a : Option Addr) (l c : Nat) (W : World) : (binOp .eql 112 (.slice a l c) (.slice none 0 0)).run Tryz.prog W = .ok (.bool a.isNone) W := by
  simp only [binOp]
  simp [run_equal_slice_nil W 112 _ a l c Tryz.underlying112]

set_option maxHeartbeats 4000000 in
theorem open_any (v : Value) (b : List UInt8) (w : World) (he : Env w) (hv : SlB w.heap.size w v b) (hl : b.length ≤ 120000) :
    Calls Tryz.prog 27 #[v] w (OpenPost w (openN b)) := by
  have HV := Lib.hid hv
  have HE := Lib.hid he
  have k0 := Blk.new w 111 #[v]
  have B0 := Lib.hid (below_alloc (Below.refl _ w) (.cells #[v] 111))
  have EN := Lib.hid (end_any w.heap.size w.heap.size v b _ k0 (hv.below B0.out) (Nat.le_refl _) (by omega))
  obtain ⟨a, cap, rfl, hc, _⟩ := hv.ex
  clear k0 hv he
  go_enter Tryz.func27, Tryz.ntmps27
  go_wp2_with fail
  refine EN.out.mono ?_
  rintro e w1 ⟨hbut, hpost⟩
  have HB1 := Lib.hid (B0.out.trans (hbut.below (B := w.heap.size) (by simp) (fun k hk => by omega)))
  clear hbut
  cases hen : endN b with
  | none =>
    rw [hen] at hpost
    have HN := Lib.hid (show openN b = none by unfold openN; rw [hen])
    have hfin : OpenPost w (openN b) (.returned (.tuple #[.pointer none, .int .i64 8])) w1 := by rw [HN.out]; exact ⟨HB1.out, rfl⟩
    simp only at hpost
    subst hpost
    have HFIN := Lib.hid (fun nq => show OpenPost w (openN b) (.returned (.tuple #[.pointer none, .int .i64 8])) (w1.drewN nq) from by rw [HN.out]; exact ⟨below_drewN HB1.out nq, rfl⟩)
    clear hfin
    have hnil := fun W => eql_nilU none 0 0 W
    go_wp2_with fail
    go_quiet (fail)
    go_wp2_with fail
    exact bodyPost_ret (v := .tuple #[.pointer none, .int .i64 8]) (by simp [results, Tryz.results27, go_sem]) rfl (HFIN.out _)
  | some p =>
    obtain ⟨ns, body⟩ := p
    rw [hen] at hpost
    obtain ⟨v', vb, rfl, hou, hkb, hsb⟩ := hpost
    obtain ⟨hn5, hbl⟩ := endN_len hen
    obtain ⟨gu, cu, rfl, hcu, _, _, hcells⟩ := OwnX.formN hou 5 hn5 (by omega)
    obtain ⟨n0, n1, n2, n3, n4, rfl⟩ : ∃ a b c d e, ns = [a, b, c, d, e] := by
      match ns, hn5 with
      | [a, b, c, d, e], _ => exact ⟨a, b, c, d, e, rfl⟩
    have u1 := hcells 1 (.int .u64 (n1 : Int)) rfl
    have u4 := hcells 4 (.int .u64 (n4 : Int)) rfl
    have hnn := fun W => eql_nilU (some ⟨gu, 0, none⟩) 5 cu W
    have c0 := hkb.cell 0 rfl
    obtain ⟨ab, cb, rfl, hcb, _⟩ := hsb.ex
    have SU1 := fun W (hb : Below w1.heap.size w1 W) => cSum_any _ body w.heap.size W (hsb.below (hb.mono HB1.out.size)) (by omega)
    simp only [(sumN_val body).1] at SU1
    have hs32 := (sumN_val body).2
    generalize hsum : sumN body = sm at *
    have SU := Lib.hid SU1
    have hw1 : IntKind.u64.wrap (body.length : Int) = (body.length : Int) := by rw [wu64]; omega
    have hw2 : IntKind.u64.wrap (sm : Int) = (sm : Int) := by rw [wu64]; omega
    have HSB := Lib.hid hsb; have HSM := Lib.hid hsum
    have HBL := Lib.hid hbl
    clear SU1 hou hkb hsb hcells hs32 hsum hbl
    by_cases hn1 : body.length < n1
    · have HN := Lib.hid (show openN b = none by unfold openN; rw [hen]; simp only [List.getD_cons_succ, List.getD_cons_zero]; rw [if_pos (.inl hn1)])
      have HFIN := Lib.hid (fun nq => show OpenPost w (openN b) (.returned (.tuple #[.pointer none, .int .i64 8])) (w1.drewN nq) from by rw [HN.out]; exact ⟨below_drewN HB1.out nq, rfl⟩)
      have hz : (body.length : Int) < (n1 : Int) := by omega
      go_wp2_with fail
      go_quiet (fail)
      go_wp2_with fail
      exact bodyPost_ret (v := .tuple #[.pointer none, .int .i64 8]) (by simp [results, Tryz.results27, go_sem]) rfl (HFIN.out _)
    · have hz : ¬ (body.length : Int) < (n1 : Int) := by omega
      have hz2 : (n1 : Int) ≤ (body.length : Int) := by omega
      by_cases hn4 : n4 = sm
      · subst hn4
        have hb4 : ((n4 : Int) != (n4 : Int)) = false := by simp
        go_wp2_with fail
        go_quiet ((first | (go_at_call 43; exact Calls.quiet_of_same ((SU.out _ (by first | exact Below.refl _ _ | exact below_drewN (Below.refl _ _) _)).mono (fun e w' h => ⟨h.1, h.2.symm⟩)))))
        have HX0 := Lib.hid (show Below w1.heap.size w1 ((w1.drewN nq).alloc (.cells #[.slice none 0 0, .pointer none, .int .i64 0] 43)) from below_al (below_drewN (Below.refl _ _) nq) _ (Nat.le_refl _))
        have x0 := cell_keep HX0.out c0; have x1 := cell_keep HX0.out u1
        have KT := Lib.hid (Blk.new (w1.drewN nq) 43 #[.slice none 0 0, .pointer none, .int .i64 0])
        have hncb : n1 ≤ cb := by omega
        go_wp2_with fail
        generalize hX : (w1.drewN nq).alloc (.cells #[.slice none 0 0, .pointer none, .int .i64 0] 43) = X at *
        go_quiet (fail)
        have HOP := Lib.hid (openN_blocks hen hn1 HSM.out.symm)
        have OS0 := Lib.hid (show OS w1 w1.heap.size (X.drewN nq) (.slice none 0 0) (.slice none 0 0) [] [] [] from
          OS.below ⟨KT.out, OwnX.nil _ _, OwnX.nil _ _, Lists.nil _, fun x hx => by simp at hx, HX0.out⟩ (below_drewN (Below.refl _ _) nq))
        have HSR := Lib.hid (HSB.out.head n1 (by omega) rfl)
        have HLT := Lib.hid (show (body.take n1).length = n1 by rw [List.length_take]; omega)
        have HS1 := Lib.hid HB1.out.size
        clear x0 x1 u1 u4 c0 hnn hw1 hw2 hb4 hz hz2 hen SU KT HX0 hX
        go_wp2_with fail
        go_loopw [7, 8, 9, 10, 11, 12] (fun v7 v8 _ _ _ _ wr => ∃ (hv : Value) (hs : List Hd) (bs : List (List Cel)) (L : List Cel) (rest : List UInt8), Hid (OS w1 w1.heap.size wr hv v7 hs bs L) ∧ Hid (L = bs.flatten) ∧ Hid (SlB w.heap.size w1 v8 rest) ∧ Hid ((L.flatMap cellL).length + rest.length ≤ 120000) ∧ Hid (bs.length + rest.length ≤ 120000) ∧ Hid (rdBlocks n1 (body.take n1) = (rdBlocks rest.length rest).map (bs ++ ·)) ∧ slLen v8 = rest.length) (fun _ v8 _ _ _ _ _ => slLen v8)
        case atStart =>
          refine ⟨_, [], [], [], body.take n1, OS0, Lib.hid rfl, HSR, Lib.hid (by have := HLT.out; have := HBL.out; simp; omega), Lib.hid (by have := HLT.out; have := HBL.out; simp; omega), Lib.hid (by rw [HLT.out]; cases rdBlocks n1 (body.take n1) <;> simp), by rw [HLT.out]; rfl⟩
        case round =>
          clear OS0 HSR
          obtain ⟨hv, hs, bs, L, rest, HOS, HLB, HR, HF, HN, HRD, hsl⟩ := hrel
          obtain ⟨ar, cr, er, hcr, _⟩ := HR.out.ex
          obtain ⟨aa, ca, ea, hca, _⟩ := (OwnX.sl HOS.out.oa).ex
          subst er ea
          by_cases hr : rest.length = 0
          · have HA := Lib.hid (round_end HRD.out hr)
            have HOB := Lib.hid (show openN b = openR b (some bs) by rw [HOP.out, HA.out])
            have HFL := Lib.hid (show (L.flatMap cellL).length ≤ 120000 by have := HF.out; omega)
            have hcel : ∀ c ∈ L, CelR c := by rw [HLB.out]; exact (rdBlocks_flat _ _ _ HA.out).2
            obtain ⟨hfit, hct⟩ := fit_read L hcel HFL.out
            have hfl := flat_least L
            have HLL := Lib.hid (show L.length ≤ 20000 by have := HFL.out; omega)
            have ENV := Lib.hid (HE.out.below (HB1.out.trans (HOS.out.bel.mono HS1.out)))
            have HTG := Lib.hid HOS.out.tb.lt
            obtain rfl := List.length_eq_zero_iff.1 hr
            have HBW := Lib.hid (HB1.out.trans (HOS.out.bel.mono HS1.out))
            by_cases hok : OkT L
            · have HOK := Lib.hid hok; have HFIT := Lib.hid hfit
              have hol := outL_len L hok.most hfit.flat hfit.idx
              have hel := endL_len L hok.most hfit.flat hfit.idx
              have htl := frameL_length (endL L) (by omega)
              have HTL := Lib.hid (show (tableL L).length ≤ 1000000000 by unfold tableL; simp only [List.length_append, List.length_cons, List.length_nil]; omega)
              have WR := Lib.hid (write_ok _ L wr ENV.out (OwnX.sl HOS.out.oa) hok hfit)
              clear hok hfit hct hcel hfl hol hel htl hr
              go_wp2_with fail
              refine WR.out.mono ?_
              rintro e w5 ⟨v5, rfl, hO5, hb5⟩
              have OS5 := Lib.hid (HOS.out.below hb5); have HB5 := Lib.hid hb5
              have EQ := Lib.hid (eqB_any v5 _ (tableL L) b w5.heap.size w5 (OwnB.slB hO5) ((HV.out.below (HBW.out.trans (hb5.mono HBW.out.size))).up (Nat.le_trans HBW.out.size hb5.size)) HTL.out)
              clear hO5 hb5 WR
              have hb9 : ((0 : Int) != 0) = false := by decide
              obtain ⟨R, hR⟩ : ∃ R, decide (tableL L = b) = R := ⟨_, rfl⟩
              rw [hR] at EQ
              have HR := Lib.hid hR
              clear hR
              go_wp2_with fail
              refine EQ.out.mono ?_
              rintro e w6 ⟨rfl, hb6⟩
              have OS6 := Lib.hid (OS5.out.below hb6); have HB6 := Lib.hid (below_tr HB5.out hb6)
              clear hb6 EQ
              cases R with
              | false =>
                have hne := of_decide_eq_false HR.out
                have HFIN := Lib.hid (show OpenPost w (openN b) (.returned (.tuple #[.pointer none, .int .i64 8])) w6 by
                  rw [HOB.out]; unfold openR; simp only
                  rw [if_neg (by rw [← HLB.out]; exact fun h => hne h.2)]
                  exact ⟨HB1.out.trans (OS6.out.bel.mono HS1.out), rfl⟩)
                clear hne
                go_wp2_with fail
                exact bodyPost_ret (v := .tuple #[.pointer none, .int .i64 8]) (by simp [results, Tryz.results27, go_sem]) rfl HFIN.out
              | true =>
                have heq := of_decide_eq_true HR.out
                have HFIN := Lib.hid (fun W' g (hb : Below w.heap.size w W') (ht : Tb W' g bs) => show OpenPost w (openN b) (.returned (.tuple #[.pointer (some ⟨g, 0, none⟩), .int .i64 0])) W' by
                  rw [HOB.out]; unfold openR; simp only
                  rw [if_pos (by rw [← HLB.out]; exact ⟨HOK.out, heq⟩)]
                  exact ⟨hb, g, rfl, ht⟩)
                have HCH := Lib.hid (show bs = chunk8 L by
                  have h1 := openN_table L HOK.out HFIT.out
                  rw [heq, HOB.out] at h1
                  unfold openR at h1
                  simp only at h1
                  rw [if_pos (by rw [← HLB.out]; exact ⟨HOK.out, heq⟩)] at h1
                  injection h1)
                have FI := Lib.hid (filter_any _ L w6 (ENV.out.below HB6.out) (OwnX.sl OS6.out.oa) HFIT.out.keys HLL.out)
                have HTG6 := Lib.hid OS6.out.tb.lt
                clear heq
                go_wp2_with fail
                refine FI.out.mono ?_
                rintro e w7 ⟨gf, rfl, hF7, hb7⟩
                have OS7 := Lib.hid (OS6.out.below hb7)
                have FIN := Lib.hid (OS7.out.done hF7 HTG6.out HLB.out HOK.out HCH.out)
                have t0 := OS7.out.tb.cell 0 rfl; have t1 := OS7.out.tb.cell 1 rfl; have t2 := OS7.out.tb.cell 2 rfl
                have tf := OS7.out.tb.frozen
                clear hF7 hb7 FI
                go_wp2_with fail
                exact bodyPost_ret (v := .tuple #[.pointer (some ⟨w1.heap.size, 0, none⟩), .int .i64 0]) (by simp [results, Tryz.results27, go_sem]) rfl (HFIN.out _ _ (HB1.out.trans (FIN.out.2.mono HS1.out)) FIN.out.1)
            · have HFIN := Lib.hid (fun W' (hb : Below wr.heap.size wr W') => show OpenPost w (openN b) (.returned (.tuple #[.pointer none, .int .i64 8])) W' by
                rw [HOB.out]; unfold openR; simp only
                rw [if_neg (by rw [← HLB.out]; exact fun h => hok h.1)]
                exact ⟨HBW.out.trans (hb.mono HBW.out.size), rfl⟩)
              have WR := Lib.hid (write_bad _ L wr (OwnX.sl HOS.out.oa) (by unfold Room; have := HLL.out; omega) hct hok)
              have hb9 : ((2 : Int) != 0) = true := by decide
              clear hok hfit hct hcel hfl hr
              go_wp2_with fail
              refine WR.out.mono ?_
              rintro e w5 ⟨rfl, hb5⟩
              have HF5 := Lib.hid (HFIN.out w5 hb5)
              go_wp2_with fail
              exact bodyPost_ret (v := .tuple #[.pointer none, .int .i64 8]) (by simp [results, Tryz.results27, go_sem]) rfl HF5.out
          · obtain ⟨m, hm⟩ : ∃ m, rest.length = m + 1 := ⟨rest.length - 1, by omega⟩
            have hpos : 0 < rest.length := by omega
            have hz : (0 : Int) < (m : Int) + 1 := by omega
            have hb1w := HOS.out.bel
            have UF := Unframe_any _ rest wr ((HR.out.below (hb1w.mono HS1.out)).up (Nat.le_trans HS1.out hb1w.size)) (by have := HN.out; omega)
            obtain ⟨U, hU⟩ : ∃ U, unframeL rest = U := ⟨_, rfl⟩
            rw [hU] at UF
            have HU := Lib.hid hU; have HM := Lib.hid hm; have HP := Lib.hid hpos
            rw [hm] at UF hcr
            have UF := Lib.hid UF
            have HR0 := HR
            rw [hm] at HR
            rw [hm] at hsl
            clear hb1w hU hpos hr
            rw [hm]
            clear hm
            obtain ⟨uc, um, ue⟩ := U
            go_wp2_with fail
            refine UF.out.mono ?_
            rintro e w5 ⟨v5, rfl, hO5, hb5⟩
            have HO5 := Lib.hid hO5; have OS5 := Lib.hid (HOS.out.below hb5); have HB5 := Lib.hid hb5
            clear hO5 hb5 UF
            have FAIL := Lib.hid (fun (W' : World) (hx : rdBlocks n1 (body.take n1) = none) (hb : Below wr.heap.size wr W') => show OpenPost w (openN b) (.returned (.tuple #[.pointer none, .int .i64 8])) W' from by
              rw [HOP.out, hx]; exact ⟨HB1.out.trans ((HOS.out.below hb).bel.mono HS1.out), rfl⟩)
            by_cases hue : ue = 0
            · subst hue
              have hb9 : ((0 : Int) != 0) = false := by decide
              have hsu : (unframeL rest).2.2 = 0 := by rw [HU.out]
              have UO := unframe_ok rest hsu
              rw [HU.out] at UO
              simp only at UO
              have HUO := Lib.hid UO; have HSU := Lib.hid hsu
              have RC := Lib.hid (ReadCells_any v5 uc w5 (OwnB.slB HO5.out) (by omega))
              clear UO hsu
              go_wp2_with fail
              refine RC.out.mono ?_
              rintro e w6 ⟨hb6, hp6⟩
              have OS6 := Lib.hid (OS5.out.below hb6)
              have HB6 := Lib.hid (below_tr HB5.out hb6)
              have hsz56 := HB5.out.size
              clear hb6 RC
              cases hrc : rdCells uc with
              | none =>
                rw [hrc] at hp6
                simp only at hp6
                subst hp6
                have HFIN := Lib.hid (FAIL.out w6 (round_none HRD.out HP.out (.inr (.inl (by rw [HU.out]; exact hrc)))) HB6.out)
                have hb8 : ((8 : Int) != 0) = true := by decide
                go_wp2_with fail
                exact bodyPost_ret (v := .tuple #[.pointer none, .int .i64 8]) (by simp [results, Tryz.results27, go_sem]) rfl HFIN.out
              | some cs =>
                rw [hrc] at hp6
                obtain ⟨v6, rfl, hO6⟩ := hp6
                by_cases hcs : cs.length = 0
                · obtain rfl := List.length_eq_zero_iff.1 hcs
                  have HFIN := Lib.hid (FAIL.out w6 (round_none HRD.out HP.out (.inr (.inr (by rw [HU.out]; exact hrc)))) HB6.out)
                  obtain ⟨a6, c6, rfl, _, _⟩ := (OwnX.sl hO6).ex
                  simp only [List.length_nil] at *
                  clear hO6
                  go_wp2_with fail
                  exact bodyPost_ret (v := .tuple #[.pointer none, .int .i64 8]) (by simp [results, Tryz.results27, go_sem]) rfl HFIN.out
                · have hcs0 : 0 < cs.length := by omega
                  have RS := Lib.hid (round_some HRD.out HP.out HSU.out (by rw [HU.out]; exact hrc) hcs0)
                  have RZ := round_size HSU.out (by rw [HU.out]; exact hrc) (show (bs.flatten.flatMap cellL).length + rest.length ≤ 120000 by rw [← HLB.out]; exact HF.out) HN.out
                  rw [HU.out] at RS RZ
                  simp only at RS RZ
                  have HRZ := Lib.hid RZ
                  have hfl := flat_least (bs ++ [cs]).flatten
                  rw [List.flatten_append, List.length_append] at hfl
                  simp only [List.flatten_cons, List.flatten_nil, List.append_nil] at hfl
                  have RZ1 := RZ.1
                  rw [List.flatten_append] at RZ1
                  simp only [List.flatten_cons, List.flatten_nil, List.append_nil] at RZ1
                  rw [← HLB.out] at hfl RZ1
                  have HF2 := Lib.hid RZ1
                  obtain ⟨tot, htot⟩ : ∃ tot, L.length + cs.length = tot := ⟨_, rfl⟩
                  have HTOT := Lib.hid htot
                  have htl : tot ≤ 20000 := by omega
                  have HTL := Lib.hid htl
                  have hbl : bs.length + 1 ≤ 120000 := by have := RZ.2.1; rw [List.length_append] at this; simp only [List.length_cons, List.length_nil] at this; omega
                  have hsl2 := OS6.out.ls.len
                  obtain ⟨g6, c6, rfl, hc6, hg6, hgl6, _⟩ := OwnX.formN hO6 cs.length rfl hcs0
                  have HSX := Lib.hid ((OwnX.sl hO6).keep (below_alloc (Below.refl _ w6) (.cells #[.slice (some ⟨g6, 0, none⟩) cs.length c6] 22)))
                  have OS7 := Lib.hid (OS6.out.below (below_alloc (Below.refl _ w6) (.cells #[.slice (some ⟨g6, 0, none⟩) cs.length c6] 22)))
                  have t0 := OS7.out.tb.cell 0 rfl
                  have t0b := OS6.out.tb.cell 0 rfl
                  have hhd : hs.length + ([⟨some ⟨g6, 0, none⟩, cs.length, c6⟩] : List Hd).length ≤ 9223372036854775807 := by simp only [List.length_cons, List.length_nil]; omega
                  have hhd2 : (hs.length + ([⟨some ⟨g6, 0, none⟩, cs.length, c6⟩] : List Hd).length) * eH.bytes ≤ 140737488355328 := by show _ * 24 ≤ _; simp only [List.length_cons, List.length_nil]; omega
                  have hcl : L.length + cs.length ≤ 9223372036854775807 := by omega
                  have hcl2 : (L.length + cs.length) * eC.bytes ≤ 140737488355328 := by show _ * 112 ≤ _; omega
                  have hrm : Room cs.length := by unfold Room; omega
                  have hgw : wr.heap.size ≤ g6 := Nat.le_trans hsz56 hg6
                  have hgt : g6 ≠ w1.heap.size := by have := HOS.out.tb.lt; omega
                  have hgh : hv.ownBlock ≠ some g6 := fun e => by have := OwnX.lt HOS.out.oh g6 e; omega
                  have hga : (Value.slice aa L.length ca).ownBlock ≠ some g6 := fun e => by have := OwnX.lt HOS.out.oa g6 e; omega
                  have hgl7 : g6 < (w6.alloc (.cells #[.slice (some ⟨g6, 0, none⟩) cs.length c6] 22)).heap.size := by simp; omega
                  have hsz7 : w1.heap.size ≤ (w6.alloc (.cells #[.slice (some ⟨g6, 0, none⟩) cs.length c6] 22)).heap.size := Nat.le_of_lt OS7.out.tb.lt
                  have HA := Lib.hid (And.intro hrm (And.intro hgt (And.intro hgh (And.intro hga hgl7))))
                  have SLX := Lib.hid (SlX.lit (E := eH) w6 #[.slice (some ⟨g6, 0, none⟩) cs.length c6] [⟨some ⟨g6, 0, none⟩, cs.length, c6⟩] 1 1 rfl (Nat.le_refl _) rfl)
                  have hk1 : um ≤ rest.length := RZ.2.2.1
                  have cr := fun W => HR0.out.cut_run um hk1 W
                  have cut := HR0.out.cut um hk1
                  rw [HM.out] at cr cut
                  unfold cutV at cr cut
                  have CUT := Lib.hid cut
                  have hcz : ((cs.length : Int) == 0) = false := by rw [beq_eq_false_iff_ne]; omega
                  clear hsl2 hfl RZ RZ1 htot htl hO6 hrm hgt hgh hga hgl7 cut hcs hcs0
                  go_wp2_with (first | (at_builtin; (refine ap_g (E := eH) (by rfl) (.tmp 83) (.tmp 85) (by rfl) w1.heap.size hv hs _ _ [⟨some ⟨g6, 0, none⟩, cs.length, c6⟩] (by rfl) (by rfl) SLX.out OS7.out.oh hsz7 hhd hhd2 ?_); intro v7 w7 hO7 hG7; obtain ⟨g7, c7, rfl, _⟩ := OwnX.formN hO7 (hs.length + 1) (by simp) (by omega); have OS8 := Lib.hid (OS7.out.heads (x := ⟨some ⟨g6, 0, none⟩, cs.length, c6⟩) rfl HSX.out HA.out.1 HA.out.2.2.2.2 HA.out.2.1 HA.out.2.2.1 HA.out.2.2.2.1 hO7 hG7); have t1 := OS8.out.1.cell 0 rfl; have f1 := OS8.out.1.frozen 0; clear hO7 hG7) | (at_builtin; (refine ap_g (E := eC) (by rfl) (.tmp 89) (.tmp 90) (by rfl) w1.heap.size _ _ _ _ cs (by rfl) (by rfl) OS8.out.2.2 OS8.out.2.1.oa (Nat.le_of_lt OS8.out.2.1.tb.lt) hcl hcl2 ?_); intro v9 w9 hO9 hG9; have OS9 := Lib.hid (OS8.out.2.1.more hO9 hG9); clear hO9 hG9))
                  exact ⟨⟨_, _, _, L ++ cs, rest.drop um, OS9, Lib.hid (by rw [HLB.out]; simp), CUT, HF2, Lib.hid HRZ.out.2.1, RS, by show m + 1 - um = _; rw [List.length_drop, HM.out]⟩, by show m + 1 - um < m + 1; have := HRZ.out.2.2.2; omega⟩
            · have HX := Lib.hid (round_none HRD.out HP.out (.inl (by rw [HU.out]; exact hue)))
              have HFIN := Lib.hid (FAIL.out w5 HX.out HB5.out)
              have hb9 : (ue != 0) = true := by rw [bne_iff_ne]; exact hue
              go_wp2_with fail
              exact bodyPost_ret (v := .tuple #[.pointer none, .int .i64 8]) (by simp [results, Tryz.results27, go_sem]) rfl HFIN.out
      · have HN := Lib.hid (show openN b = none by unfold openN; rw [hen]; simp only [List.getD_cons_succ, List.getD_cons_zero]; rw [if_pos (.inr (by rw [HSM.out]; exact hn4))])
        have HFIN := Lib.hid (fun nq => show OpenPost w (openN b) (.returned (.tuple #[.pointer none, .int .i64 8])) (w1.drewN nq) from by rw [HN.out]; exact ⟨below_drewN HB1.out nq, rfl⟩)
        have hb4 : ((n4 : Int) != (sm : Int)) = true := by rw [bne_iff_ne]; omega
        go_wp2_with fail
        go_quiet ((first | (go_at_call 43; exact Calls.quiet_of_same ((SU.out _ (by first | exact Below.refl _ _ | exact below_drewN (Below.refl _ _) _)).mono (fun e w' h => ⟨h.1, h.2.symm⟩)))))
        go_wp2_with fail
        exact bodyPost_ret (v := .tuple #[.pointer none, .int .i64 8]) (by simp [results, Tryz.results27, go_sem]) rfl (HFIN.out _)
end Go.Proofs.YtplghaoflmaadaaGreatDoor
end
