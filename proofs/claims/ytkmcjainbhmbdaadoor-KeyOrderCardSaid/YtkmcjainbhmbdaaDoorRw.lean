/- Contract of the reference's Read: bytes as a key. Condition: at most a million bytes. -/
import Derived.Test.YtkmcjainbhmbdaaDoorRz
set_option linter.unusedVariables false
set_option linter.unusedSimpArgs false
set_option maxRecDepth 20000
namespace Go.Proofs.YtkmcjainbhmbdaaDoor
open Go.RowKit

theorem SlB.back {B : Nat} {w w1 : World} {v : Value} {l : List UInt8} (h : SlB B w1 v l) (hb : Below B w w1) : SlB B w v l := by
  obtain ⟨a, c, e, hc, hx⟩ := h.ex
  refine ⟨a, c, e, hc, fun h0 => ?_⟩
  obtain ⟨g, o, ea, hg, hcell⟩ := hx h0
  exact ⟨g, o, ea, hg, fun j hj => by rw [← hb.cell (p := ⟨g, o + j, none⟩) hg]; exact hcell j hj⟩
theorem tk_some {B : Nat} {w W : World} {v : Value} {l t r : List UInt8} (hv : SlB B w v l) (hW : Below B w W) (hl : l.length ≤ 1000000) (he : takeT [] l = some (t, r)) :
    Calls Tryd.prog 90 #[v] W fun e W1 => ∃ a c, e = .returned (.tuple #[sv t, .slice a r.length c, .bool true]) ∧ SlB B w (.slice a r.length c) r ∧ Below W.heap.size W W1 := by
  refine (taken_any B v l W (hv.below hW) hl).mono ?_
  rintro e W1 ⟨hb, hm⟩
  rw [he] at hm
  obtain ⟨v', rfl, hv'⟩ := hm
  have hv2 := hv'.back hW
  obtain ⟨a, c, rfl, _, _⟩ := hv'.ex
  exact ⟨a, c, rfl, hv2, hb⟩
theorem tk_none {B : Nat} {w W : World} {v : Value} {l : List UInt8} (hv : SlB B w v l) (hW : Below B w W) (hl : l.length ≤ 1000000) (he : takeT [] l = none) :
    Calls Tryd.prog 90 #[v] W fun e W1 => e = .returned (.tuple #[.string ⟨#[]⟩, .slice none 0 0, .bool false]) ∧ Below W.heap.size W W1 := by
  refine (taken_any B v l W (hv.below hW) hl).mono ?_
  rintro e W1 ⟨hb, hm⟩
  rw [he] at hm
  exact ⟨hm, hb⟩
theorem KF.below {W W1 : World} {g : Nat} {t p c : ByteArray} {r : Int} (h : KF W g t p r c) (hb : Below W.heap.size W W1) : KF W1 g t p r c := h.grown (grown_of_below (row := some (g + 1)) hb) (by omega)
theorem below_put4k {w W : World} {a b c d : Value} (h : Below w.heap.size w W) : Below w.heap.size w ((((W.setCell ⟨w.heap.size + 1, 0, none⟩ a).setCell ⟨w.heap.size + 1, 1, none⟩ b).setCell ⟨w.heap.size + 1, 2, none⟩ c).setCell ⟨w.heap.size + 1, 3, none⟩ d) :=
  (((h.setCell (p := ⟨w.heap.size + 1, 0, none⟩) (Nat.le_succ _) a).setCell (p := ⟨w.heap.size + 1, 1, none⟩) (Nat.le_succ _) b).setCell (p := ⟨w.heap.size + 1, 2, none⟩) (Nat.le_succ _) c).setCell (p := ⟨w.heap.size + 1, 3, none⟩) (Nat.le_succ _) d

set_option maxHeartbeats 8000000 in
theorem rRead_any (v : Value) (l : List UInt8) (w : World) (hv : SlB w.heap.size w v l) (hl : l.length ≤ 1000000) :
    Calls Tryd.prog 49 #[v] w (ReadPost w l) := by
  have HV := Lib.hid hv
  obtain ⟨a, c, rfl, hc, hx⟩ := hv.ex
  clear hx hv
  go_enter Tryd.func49, Tryd.ntmps49
  go_wp2_with fail
  have hb0 := below_alloc (below_alloc (Below.refl _ w) (.cells #[.string ⟨#[]⟩, .string ⟨#[]⟩, .int .i64 0, .string ⟨#[]⟩] 60)) (.cells #[.string ⟨#[]⟩, .string ⟨#[]⟩, .int .i64 0, .string ⟨#[]⟩] 60)
  have KR : KF ((w.alloc (.cells #[.string ⟨#[]⟩, .string ⟨#[]⟩, .int .i64 0, .string ⟨#[]⟩] 60)).alloc (.cells #[.string ⟨#[]⟩, .string ⟨#[]⟩, .int .i64 0, .string ⟨#[]⟩] 60)) w.heap.size ⟨#[]⟩ ⟨#[]⟩ 0 ⟨#[]⟩ := by
    refine ⟨?_, ?_, ?_, ?_, ?_, ?_, ?_, ?_⟩ <;> go_simp
  have KK : KF ((w.alloc (.cells #[.string ⟨#[]⟩, .string ⟨#[]⟩, .int .i64 0, .string ⟨#[]⟩] 60)).alloc (.cells #[.string ⟨#[]⟩, .string ⟨#[]⟩, .int .i64 0, .string ⟨#[]⟩] 60)) (w.heap.size + 1) ⟨#[]⟩ ⟨#[]⟩ 0 ⟨#[]⟩ := by
    refine ⟨?_, ?_, ?_, ?_, ?_, ?_, ?_, ?_⟩ <;> go_simp
  generalize (w.alloc (.cells #[.string ⟨#[]⟩, .string ⟨#[]⟩, .int .i64 0, .string ⟨#[]⟩] 60)).alloc (.cells #[.string ⟨#[]⟩, .string ⟨#[]⟩, .int .i64 0, .string ⟨#[]⟩] 60) = W at *
  have HB0 := Lib.hid hb0; clear hb0
  have HR := Lib.hid KR; clear KR
  have HK := Lib.hid KK; clear KK
  rcases hk1 : takeT [] l with _ | ⟨t, l1⟩
  · have HK1 := Lib.hid hk1; clear hk1
    refine (tk_none HV.out HB0.out hl HK1.out).mono ?_
    rintro e w1 ⟨rfl, hb1⟩
    have HB1 := Lib.hid hb1; clear hb1
    obtain ⟨z0, z1, z2, z3, y0, y1, y2, y3⟩ := HR.out.below HB1.out
    go_wp2_with fail
    refine bodyPost_ret (v := .tuple #[noKey, .bool false]) (by simp [results, Tryd.results49, go_sem, z0, z1, z2, z3]) rfl ?_
    exact ReadPost.no (by unfold keyOf; rw [HK1.out]) (below_put4 (below_tr HB0.out HB1.out))
  · have hl1 : t.length + l1.length + 2 ≤ l.length := by have := (takeT_len _ [] l t l1 (Nat.le_refl _) hk1).1; simpa using this
    have HK1 := Lib.hid hk1; clear hk1
    refine (tk_some HV.out HB0.out hl HK1.out).mono ?_
    rintro e w1 ⟨a1, c1, rfl, hv1, hb1⟩
    have HV1 := Lib.hid hv1; clear hv1
    have HB1 := Lib.hid (below_tr HB0.out hb1)
    have HR1 := Lib.hid (HR.out.below hb1)
    have HKK1 := Lib.hid (HK.out.below hb1); clear hb1
    go_wp2_with fail
    rcases hk2 : takeT [] l1 with _ | ⟨p, l2⟩
    · have HK2 := Lib.hid hk2; clear hk2
      refine (tk_none HV1.out HB1.out (by omega) HK2.out).mono ?_
      rintro e w2 ⟨rfl, hb2⟩
      have HB2 := Lib.hid hb2; clear hb2
      obtain ⟨z0, z1, z2, z3, y0, y1, y2, y3⟩ := HR1.out.below HB2.out
      go_wp2_with fail
      refine bodyPost_ret (v := .tuple #[noKey, .bool false]) (by simp [results, Tryd.results49, go_sem, z0, z1, z2, z3]) rfl ?_
      exact ReadPost.no (by unfold keyOf; rw [HK1.out]; simp only []; rw [HK2.out]) (below_put4 (below_tr HB1.out HB2.out))
    · have hl2 : p.length + l2.length + 2 ≤ l1.length := by have := (takeT_len _ [] l1 p l2 (Nat.le_refl _) hk2).1; simpa using this
      have HK2 := Lib.hid hk2; clear hk2
      refine (tk_some HV1.out HB1.out (by omega) HK2.out).mono ?_
      rintro e w2 ⟨a2, c2, rfl, hv2, hb2⟩
      have HV2 := Lib.hid hv2; clear hv2
      have HB2 := Lib.hid (below_tr HB1.out hb2)
      have HR2 := Lib.hid (HR1.out.below hb2)
      have HKK2 := Lib.hid (HKK1.out.below hb2); clear hb2
      by_cases h8 : l2.length < 8
      · obtain ⟨z0, z1, z2, z3, y0, y1, y2, y3⟩ := HR2.out
        go_wp2_with fail
        refine bodyPost_ret (v := .tuple #[noKey, .bool false]) (by simp [results, Tryd.results49, go_sem, z0, z1, z2, z3]) rfl ?_
        exact ReadPost.no (by unfold keyOf; rw [HK1.out]; simp only []; rw [HK2.out]; simp only []; rw [if_pos h8]) (below_put4 HB2.out)
      · obtain ⟨a2', c2', e2, hc2, hx2⟩ := HV2.out.ex
        injection e2 with ea2 _ ec2
        subst ea2 ec2
        obtain ⟨gb, o, rfl, hgb, hcell⟩ := hx2 (by omega)
        have hcc : ∀ k, (h : k < 8) → w2.cell? ⟨gb, o + k, none⟩ = some (.int .u8 ((l2.take 8).getD k 0).toNat) := fun k hk => by
          rw [HB2.out.cell (p := ⟨gb, o + k, none⟩) hgb, hcell k (by omega)]
          simp [List.getD_eq_getElem?_getD, List.getElem?_take, hk, List.getElem?_eq_getElem (show k < l2.length by omega)]
        have hll : (l2.take 8).length = 8 := by rw [List.length_take]; omega
        clear hcell hx2
        have HC2 := Lib.hid hcc; clear hcc
        go_wp2_with fail
        go_loopw [9, 10] (fun u i wr => ∃ k : Nat, k ≤ 8 ∧ i = .int .i64 k ∧ wr = w2 ∧ u = .int .u64 (numU ((l2.take 8).take k))) (fun _ i _ => 8 - (intOf i).toNat)
        case atStart => exact ⟨0, by omega, rfl, rfl, rfl⟩
        case round =>
          obtain ⟨k, hk, rfl, rfl, rfl⟩ := hrel
          by_cases hlt : k < 8
          · have hck := HC2.out k hlt
            have hx0 : (((l2.take 8).getD k 0).toNat : Int) < 256 := by have := ((l2.take 8).getD k 0).toNat_lt; omega
            have ht : (l2.take 8).take (k + 1) = (l2.take 8).take k ++ [(l2.take 8).getD k 0] := take_snoc _ _ _ (by rw [List.getD_eq_getElem?_getD, List.getElem?_eq_getElem (by omega)]; rfl)
            have hn := numU_snoc ((l2.take 8).take k) ((l2.take 8).getD k 0)
            rw [← ht] at hn
            have HN := Lib.hid hn; clear hn ht
            generalize (l2.take 8).getD k 0 = x at *
            generalize numU ((l2.take 8).take k) = u at *
            go_wp2_with fail
            go_roundw
            case rel => exact ⟨k + 1, by omega, by go_num, trivial, by rw [HN.out]; rfl⟩
            case measure => (first | (simp [intOf]; done) | (simp [intOf]; omega))
          · obtain rfl : k = 8 := by omega
            have hm : numU ((l2.take 8).take 8) = numU (l2.take 8) := by rw [List.take_take]; rfl
            rw [hm]; clear hm
            have hro : wrap64 (Go.bits .xor .u64 (numU (l2.take 8)) 9223372036854775808) = rowOf (l2.take 8) := rfl
            have cut := HV2.out.cut 8 (by omega)
            have cr := HV2.out.cut_run 8 (by omega)
            obtain ⟨a', n', c', hv'⟩ : ∃ a' n' c', cutV (.slice (some ⟨gb, o, none⟩) l2.length c2) 8 = .slice a' n' c' := ⟨_, _, _, rfl⟩
            rw [hv'] at cut cr
            rw [show ((8 : Nat) : Int) = 8 by rfl] at cr
            have CUT := Lib.hid cut; clear cut hv'
            have hl3 : (l2.drop 8).length ≤ 1000000 := by rw [List.length_drop]; omega
            go_wp2_with fail
            clear cr
            rcases hk3 : takeT [] (l2.drop 8) with _ | ⟨c3, l3⟩
            · have HK3 := Lib.hid hk3; clear hk3
              refine (tk_none CUT.out HB2.out hl3 HK3.out).mono ?_
              rintro e w3 ⟨rfl, hb3⟩
              have HB3 := Lib.hid hb3; clear hb3
              obtain ⟨z0, z1, z2, z3, y0, y1, y2, y3⟩ := HR2.out.below HB3.out
              go_wp2_with fail
              refine bodyPost_ret (v := .tuple #[noKey, .bool false]) (by simp [results, Tryd.results49, go_sem, z0, z1, z2, z3]) rfl ?_
              exact ReadPost.no (by unfold keyOf; rw [HK1.out]; simp only []; rw [HK2.out]; simp only []; rw [if_neg h8, HK3.out]) (below_put4 (below_tr HB2.out HB3.out))
            · have hl4 : l3.length ≤ 1000000 := by have := (takeT_len _ [] (l2.drop 8) c3 l3 (Nat.le_refl _) hk3).1; simp at this; omega
              have HK3 := Lib.hid hk3; clear hk3
              refine (tk_some CUT.out HB2.out hl3 HK3.out).mono ?_
              rintro e w3 ⟨a3, cc3, rfl, hv3, hb3⟩
              clear hv3
              obtain ⟨z0, z1, z2, z3, y0, y1, y2, y3⟩ := HR2.out.below hb3
              obtain ⟨k0, k1, k2, k3, g0, g1, g2, g3⟩ := HKK2.out.below hb3
              have HB3 := Lib.hid hb3; clear hb3
              by_cases he : l3 = []
              · subst he
                go_wp2_with fail
                rw [hro]
                refine bodyPost_ret (v := .tuple #[.agg #[sv t, sv p, .int .i64 (rowOf (l2.take 8)), sv c3], .bool true]) (by simp [results, Tryd.results49, go_sem, z0, z1, z2, z3]) rfl ?_
                exact ReadPost.yes (by unfold keyOf; rw [HK1.out]; simp only []; rw [HK2.out]; simp only []; rw [if_neg h8, HK3.out]; simp) (below_put4 (below_put4k (below_tr HB2.out HB3.out)))
              · have hp : 0 < l3.length := List.length_pos_iff.2 he
                go_wp2_with fail
                refine bodyPost_ret (v := .tuple #[noKey, .bool false]) (by simp [results, Tryd.results49, go_sem, z0, z1, z2, z3]) rfl ?_
                exact ReadPost.no (by unfold keyOf; rw [HK1.out]; simp only []; rw [HK2.out]; simp only []; rw [if_neg h8, HK3.out]; simp [he]) (below_put4 (below_tr HB2.out HB3.out))
end Go.Proofs.YtkmcjainbhmbdaaDoor
