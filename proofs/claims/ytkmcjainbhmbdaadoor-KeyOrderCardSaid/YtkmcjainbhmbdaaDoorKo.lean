/- The law KeyOrder, walked: it returns true. Conditions: texts take at most the form's reach; rows are of int64. -/
import Derived.Test.YtkmcjainbhmbdaaDoorKn
import Derived.Test.YtkmcjainbhmbdaaDoorPo
set_option linter.unusedVariables false
set_option linter.unusedSimpArgs false
set_option maxRecDepth 50000
namespace Go.Proofs.YtkmcjainbhmbdaaDoor
open Go.RowKit Go.Lib Go.Sort

/-- Bytes that the call owns, as bytes in old memory. -/
theorem OwnB.slB {W : World} {base : Nat} {v : Value} {l : List UInt8} (h : OwnB W base v l) : SlB W.heap.size W v l := by
  have hlt := World.ownsRow.lt h
  rcases h.2 with ⟨rfl, h0⟩ | ⟨g, cap, cur, rfl, hg, hh, hn, hc⟩
  · obtain rfl : l = [] := List.eq_nil_of_length_eq_zero h0
    exact SlB.nil _ _ _
  · refine ⟨some ⟨g, 0, none⟩, cap, rfl, hn, fun _ => ⟨g, 0, rfl, (hlt g rfl).2, fun j hj => ?_⟩⟩
    have := World.ownsRow.cells h (g := g) rfl j (.int .u8 (l[j].toNat : Int)) (by rw [bcells_get, List.getElem?_eq_getElem hj]; rfl)
    rwa [show (⟨g, 0, none⟩ : Addr).add j = ⟨g, 0 + j, none⟩ by unfold Addr.add; split <;> simp_all] at this
theorem read_some {W : World} {v : Value} {l t p c : List UInt8} {r : Int} (h : SlB W.heap.size W v l) (hl : l.length ≤ 1000000) (hk : keyOf l = some (t, p, r, c)) :
    Calls Tryd.prog 48 #[v] W fun e w' => e = .returned (.tuple #[.agg #[sv t, sv p, .int .i64 r, sv c], .bool true]) ∧ Below W.heap.size W w' :=
  (kRead_any v l W h hl).mono fun e w' hp => by unfold ReadPost at hp; rw [hk] at hp; exact ⟨hp.2, hp.1⟩
theorem read_none {W : World} {v : Value} {l : List UInt8} (h : SlB W.heap.size W v l) (hl : l.length ≤ 1000000) (hk : keyOf l = none) :
    Calls Tryd.prog 48 #[v] W fun e w' => e = .returned (.tuple #[noKey, .bool false]) ∧ Below W.heap.size W w' :=
  (kRead_any v l W h hl).mono fun e w' hp => by unfold ReadPost at hp; rw [hk] at hp; exact ⟨hp.2, hp.1⟩

theorem eq_L (a b : List UInt8) : (a == b) = decide (cmpL a b = 0) := by
  have h := cmpS_zero ⟨a.toArray⟩ ⟨b.toArray⟩
  rw [cmpS_L, toList_mk, toList_mk] at h
  rw [Bool.eq_iff_iff, beq_iff_eq, decide_eq_true_eq]
  exact h.symm
theorem keyBytes_len (t p c : ByteArray) (r : Int) (h : t.size + p.size + c.size ≤ 5000) : (keyBytes t p r c).length ≤ 100000 := by
  have h1 := esc_len t.toList; have h2 := esc_len p.toList; have h3 := esc_len c.toList
  rw [str_len] at h1 h2 h3
  unfold keyBytes
  simp only [List.length_append, row8_length, List.length_cons, List.length_nil]
  omega
set_option maxHeartbeats 4000000 in
theorem KeyOrder_walk (t q c : ByteArray) (r : Int) (t' q' c' : ByteArray) (r' : Int) (w : World) (he : Env w) (x1 : t.size ≤ reachBytes) (x2 : q.size ≤ reachBytes) (x3 : c.size ≤ reachBytes) (x4 : -9223372036854775808 ≤ r) (x5 : r ≤ 9223372036854775807)
    (y1 : t'.size ≤ reachBytes) (y2 : q'.size ≤ reachBytes) (y3 : c'.size ≤ reachBytes) (y4 : -9223372036854775808 ≤ r') (y5 : r' ≤ 9223372036854775807) :
    Calls Tryd.prog 13 #[.agg #[.string t, .string q, .int .i64 r, .string c], .agg #[.string t', .string q', .int .i64 r', .string c']] w
      fun e w' => e = .returned (.bool true) ∧ Below w.heap.size w w' := by
  have G1 := Lib.hid (fun W => great_any t q c r W x1 x2 x3)
  have G2 := Lib.hid (fun W => great_any t' q' c' r' W y1 y2 y3)
  have HL := Lib.hid (fun W hE => lives4 W hE)
  have hb0 := Lib.hid (below_alloc (below_alloc (Below.refl _ w) (.cells #[.string t, .string q, .int .i64 r, .string c] 60)) (.cells #[.string t', .string q', .int .i64 r', .string c'] 60))
  have CA := Lib.hid (KB.mk (W := (w.alloc (.cells #[.string t, .string q, .int .i64 r, .string c] 60)).alloc (.cells #[.string t', .string q', .int .i64 r', .string c'] 60)) (g := w.heap.size) (t := t) (p := q) (c := c) (r := r) (by go_simp) (by go_simp) (by go_simp) (by go_simp))
  have CB := Lib.hid (KB.mk (W := (w.alloc (.cells #[.string t, .string q, .int .i64 r, .string c] 60)).alloc (.cells #[.string t', .string q', .int .i64 r', .string c'] 60)) (g := w.heap.size + 1) (t := t') (p := q') (c := c') (r := r') (by go_simp) (by go_simp) (by go_simp) (by go_simp))
  have he1 := Lib.hid (he.below hb0.out)
  clear he
  by_cases g1 : (5000 : Int) < (t.size : Int) + q.size + c.size
  · go_enter Tryd.func13, Tryd.ntmps13
    go_wp2_with fail
    refine (G1.out _).mono ?_
    rintro e w1 ⟨rfl, hb1⟩
    go_wp2_with fail
    refine (HL.out _ (he1.out.below hb1)).mono ?_
    rintro e w2 ⟨rfl, hb2⟩
    go_wp2
    go_ret
    exact ⟨rfl, below_tr hb0.out (below_tr hb1 hb2)⟩
  by_cases g2 : (5000 : Int) < (t'.size : Int) + q'.size + c'.size
  · go_enter Tryd.func13, Tryd.ntmps13
    go_wp2_with fail
    refine (G1.out _).mono ?_
    rintro e w1 ⟨rfl, hb1⟩
    obtain ⟨b0, b1, b2, b3⟩ := CB.out.keep hb1
    go_wp2_with fail
    refine (G2.out _).mono ?_
    rintro e w2 ⟨rfl, hb2⟩
    have hb2' := below_tr hb1 hb2
    go_wp2_with fail
    refine (HL.out _ (he1.out.below hb2')).mono ?_
    rintro e w3 ⟨rfl, hb3⟩
    go_wp2
    go_ret
    exact ⟨rfl, below_tr hb0.out (below_tr hb2' hb3)⟩
  have B1 := Lib.hid (fun W hE => Bytes_any t q c r W hE (by omega))
  have B2 := Lib.hid (fun W hE => Bytes_any t' q' c' r' W hE (by omega))
  have ln := keyBytes_len t q c r (by omega)
  have K1 := keyOf_more t q c r [] x4 x5
  have K2 := keyOf_more t q c r [0] x4 x5
  rw [List.append_nil, if_pos rfl] at K1
  rw [if_neg (by simp)] at K2
  have ord := cmpL_key t q c t' q' c' r r' x4 x5 y4 y5
  have l1 := less_L (keyBytes t q r c) (keyBytes t' q' r' c')
  have l2 := less_L (keyBytes t' q' r' c') (keyBytes t q r c)
  rw [cmpL_neg (keyBytes t q r c)] at l2
  have l3 := eq_L (keyBytes t q r c) (keyBytes t' q' r' c')
  rw [ord] at l1 l2 l3
  have hcm := Lib.hid (fun W => Cmp_k t q c t' q' c' r r' W)
  have hk := fun w => key_eql w t q c t q c r r
  have hke : keyEq t q r c t q r c = true := by simp [keyEq]
  rw [hke] at hk
  have k3 := kcmp_three t q r c t' q' r' c'
  generalize keyBytes t q r c = kx at *
  generalize keyBytes t' q' r' c' = ky at *
  generalize kcmp t q r c t' q' r' c' = z at *
  have R1 := Lib.hid (fun W v (h : SlB W.heap.size W v kx) => by
    have := read_some h (by omega) K1
    rw [sv_toList, sv_toList, sv_toList] at this
    exact this)
  have R2 := Lib.hid (fun W v (h : SlB W.heap.size W v (kx ++ [0])) => read_none h (by simp; omega) K2)
  have LN := Lib.hid ln; clear ln
  clear x1 x2 x3 y1 y2 y3 x4 x5 y4 y5 hke ord K1 K2
  go_enter Tryd.func13, Tryd.ntmps13
  go_wp2_with fail
  refine (G1.out _).mono ?_
  rintro e w1 ⟨rfl, hb1⟩
  obtain ⟨b0, b1, b2, b3⟩ := CB.out.keep hb1
  go_wp2_with fail
  refine (G2.out _).mono ?_
  rintro e w2 ⟨rfl, hb2⟩
  have hb2' := below_tr hb1 hb2
  clear b0 b1 b2 b3
  go_wp2_with fail
  obtain ⟨a0, a1, a2, a3⟩ := CA.out.keep hb2'
  obtain ⟨b0, b1, b2, b3⟩ := CB.out.keep hb2'
  have HB2 := Lib.hid hb2'
  clear hb2' hb1 hb2
  have l1' := Lib.hid l1; have l3' := Lib.hid l3; have hk' := Lib.hid hk; clear l1 l2 l3 hk
  have he4 := Lib.hid (he1.out.below HB2.out)
  go_region_with (first | (go_at_call_of 50 t; refine (B1.out _ ?_).mono ?_; exact he4.out.below (by repeat (first | exact Below.refl _ _ | assumption | refine Below.drew ?_ | refine below_drewN ?_ _ | refine below_tr ?_ (by assumption))); rintro e w' ⟨v, rfl, HO, hb⟩; have hbb : Below w2.heap.size w2 w' := (by repeat (first | exact Below.refl _ _ | assumption | refine Below.drew ?_ | refine below_drewN ?_ _ | refine below_tr ?_ (by assumption))); have rd := HO.reads.out; have rr := fun w3 (h : Below w'.heap.size w' w3) => (HO.below h).reads.out; obtain ⟨a0, a1, a2, a3⟩ := CA.out.keep (below_tr HB2.out hbb); obtain ⟨b0, b1, b2, b3⟩ := CB.out.keep (below_tr HB2.out hbb); clear HO) | (go_at_call_of 50 t'; refine (B2.out _ ?_).mono ?_; exact he4.out.below (by repeat (first | exact Below.refl _ _ | assumption | refine Below.drew ?_ | refine below_drewN ?_ _ | refine below_tr ?_ (by assumption))); rintro e w' ⟨v, rfl, HO, hb⟩; have hbb : Below w2.heap.size w2 w' := (by repeat (first | exact Below.refl _ _ | assumption | refine Below.drew ?_ | refine below_drewN ?_ _ | refine below_tr ?_ (by assumption))); have rd := HO.reads.out; have rr := fun w3 (h : Below w'.heap.size w' w3) => (HO.below h).reads.out; obtain ⟨a0, a1, a2, a3⟩ := CA.out.keep (below_tr HB2.out hbb); obtain ⟨b0, b1, b2, b3⟩ := CB.out.keep (below_tr HB2.out hbb); clear HO))
  all_goals (have HB3 := Lib.hid (below_tr HB2.out hbb); clear hb hbb rd rr)
  all_goals (rcases k3 with rfl | rfl | rfl)
  all_goals (first | have f1 : Op.bytesLess kx ky = true := l1'.out.trans (by decide) | have f1 : Op.bytesLess kx ky = false := l1'.out.trans (by decide))
  all_goals (first | have f2 : (kx == ky) = true := l3'.out.trans (by decide) | have f2 : (kx == ky) = false := l3'.out.trans (by decide))
  all_goals (go_wp2_with fail; refine (B1.out _ (he1.out.below HB3.out)).mono ?_; rintro e w4 ⟨v4, rfl, HO4, hb4⟩)
  all_goals (
    have S4 := Lib.hid HO4.slB
    have HB4 := Lib.hid (below_tr HB3.out hb4)
    clear HO4 hb4 a0 a1 a2 a3 b0 b1 b2 b3)
  all_goals (go_wp2_with fail; refine (R1.out _ _ S4.out).mono ?_; rintro e w5 ⟨rfl, hb5⟩)
  all_goals (
    have HB5 := Lib.hid (below_alloc (below_tr HB4.out hb5) (.cells #[.string t, .string q, .int .i64 r, .string c] 60))
    have KX := Lib.hid (KB.mk (W := w5.alloc (.cells #[.string t, .string q, .int .i64 r, .string c] 60)) (g := w5.heap.size) (t := t) (p := q) (c := c) (r := r) (by go_simp) (by go_simp) (by go_simp) (by go_simp))
    clear hb5
    obtain ⟨a0, a1, a2, a3⟩ := CA.out.keep HB5.out)
  all_goals (go_wp2_with fail)
  all_goals (
    generalize hgx : w5.heap.size = gx at *
    clear hgx
    generalize w5.alloc (.cells #[.string t, .string q, .int .i64 r, .string c] 60) = W5 at *
    refine (B1.out _ (he1.out.below HB5.out)).mono ?_
    rintro e w6 ⟨v6, rfl, HO6, hb6⟩
    clear a0 a1 a2 a3
    have HO6' := Lib.hid HO6; clear HO6
    have hz6 := hb6.size
    have HL6 : kx.length + 1 ≤ 140737488355328 := by have := LN.out; omega)
  all_goals (go_wp2_with (at_builtin; go_must (refine ap_lit rfl (.tmp 39) (.tmp 40) rfl W5.heap.size v6 kx [0] _ 1 1 rfl rfl rfl rfl HO6'.out hb6 hz6 HL6 ?_); intro v7 w7 hO7 hB7 hz7; clear HO6' hb6 hz6 HL6))
  all_goals (
    have S7 := Lib.hid hO7.slB
    have hb7 : Below W5.heap.size W5 w7 := hB7
    have HB7 := Lib.hid hb7
    clear hO7 hB7 hz7 hb7
    refine (R2.out _ _ S7.out).mono ?_
    rintro e w8 ⟨rfl, hb8⟩
    have hb8' := below_alloc (below_tr HB7.out hb8) (.cells #[.string ⟨#[]⟩, .string ⟨#[]⟩, .int .i64 0, .string ⟨#[]⟩] 60)
    have HB8 := Lib.hid (below_tr HB5.out hb8')
    have KX8 := Lib.hid (KX.out.keep hb8')
    clear hb8 hb8'
    obtain ⟨a0, a1, a2, a3⟩ := CA.out.keep HB8.out
    obtain ⟨b0, b1, b2, b3⟩ := CB.out.keep HB8.out)
  all_goals (go_wp2_with fail)
  all_goals (
    generalize hgy : w8.heap.size = gy at *
    clear hgy
    generalize w8.alloc (.cells #[.string ⟨#[]⟩, .string ⟨#[]⟩, .int .i64 0, .string ⟨#[]⟩] 60) = W8 at *
    refine (hcm.out _).mono ?_
    rintro e w9 ⟨rfl, hb9⟩
    clear a0 a1 a2 a3 b0 b1 b2 b3
    have HB9 := Lib.hid (below_tr HB8.out hb9)
    obtain ⟨c0, c1, c2, c3⟩ := KX8.out.keep hb9
    obtain ⟨a0, a1, a2, a3⟩ := CA.out.keep HB9.out
    clear hb9
    have hk := hk'.out)
  all_goals (go_wp2_with fail; refine (HL.out _ (he1.out.below HB9.out)).mono ?_; rintro e w10 ⟨rfl, hb10⟩; go_wp2; go_ret; exact ⟨rfl, below_tr hb0.out (below_tr HB9.out hb10)⟩)
end Go.Proofs.YtkmcjainbhmbdaaDoor
