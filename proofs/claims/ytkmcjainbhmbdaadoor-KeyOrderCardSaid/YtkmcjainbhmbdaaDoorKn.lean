/- The law KeyBytes, walked: it returns true. Conditions: texts and bytes take at most the form's reach. -/
import Derived.Test.YtkmcjainbhmbdaaDoorKj
import Derived.Test.YtkmcjainbhmbdaaDoorRw
set_option linter.unusedVariables false
set_option linter.unusedSimpArgs false
set_option maxRecDepth 50000
namespace Go.Proofs.YtkmcjainbhmbdaaDoor
open Go.RowKit Go.Lib Go.Sort

theorem reads_key (l : List UInt8) : ∃ (t p c : ByteArray) (r : Int) (ok : Bool), ∀ e w w', ReadPost w l e w' → e = .returned (.tuple #[.agg #[.string t, .string p, .int .i64 r, .string c], .bool ok]) ∧ Below w.heap.size w w' := by
  rcases h : keyOf l with _ | ⟨t, p, r, c⟩
  · exact ⟨_, _, _, _, _, fun e w w' hp => by unfold ReadPost at hp; rw [h] at hp; exact ⟨hp.2, hp.1⟩⟩
  · exact ⟨_, _, _, _, _, fun e w w' hp => by unfold ReadPost at hp; rw [h] at hp; exact ⟨hp.2, hp.1⟩⟩
theorem SlB.up {B B' : Nat} {w : World} {v : Value} {l : List UInt8} (h : SlB B w v l) (hB : B ≤ B') : SlB B' w v l := by
  obtain ⟨a, c, e, hc, hx⟩ := h.ex
  refine ⟨a, c, e, hc, fun h0 => ?_⟩
  obtain ⟨g, o, ea, hg, hcell⟩ := hx h0
  exact ⟨g, o, ea, by omega, hcell⟩
/-- Grown out of W; a word of its own, so that no search takes it for another growth. -/
def InW (W w : World) : Prop := Below W.heap.size W w

theorem SameT (x y : Value) (a : List UInt8) (w : World) (hx : ReadsB w x a) (hy : ReadsB w y a) :
    Calls Tryd.prog 22 #[x, y] w fun e w' => e = .returned (.bool true) ∧ Below w.heap.size w w' :=
  (Same_any x y a a w hx hy).mono fun e w' h => by obtain ⟨h1, rfl⟩ := h; rw [beq_self_eq_true] at h1; exact ⟨h1, Below.refl _ _⟩

set_option maxHeartbeats 4000000 in
theorem KeyBytes_walk (t q c : ByteArray) (r : Int) (v : Value) (l : List UInt8) (w : World) (he : Env w) (hv : SlB w.heap.size w v l) (hvl : l.length ≤ 140737488351232) (x1 : t.size ≤ reachBytes) (x2 : q.size ≤ reachBytes) (x3 : c.size ≤ reachBytes) :
    Calls Tryd.prog 12 #[.agg #[.string t, .string q, .int .i64 r, .string c], v] w
      fun e w' => e = .returned (.bool true) ∧ Below w.heap.size w w' := by
  have G1 := Lib.hid (fun W => great_any t q c r W x1 x2 x3)
  have HL := Lib.hid (fun W hE => lives4 W hE)
  have hb0 := Lib.hid (below_alloc (Below.refl _ w) (.cells #[.string t, .string q, .int .i64 r, .string c] 60))
  have CA := Lib.hid (KB.mk (W := (w.alloc (.cells #[.string t, .string q, .int .i64 r, .string c] 60))) (g := w.heap.size) (t := t) (p := q) (c := c) (r := r) (by go_simp) (by go_simp) (by go_simp) (by go_simp))
  have he1 := Lib.hid (he.below hb0.out)
  clear he
  have HV := Lib.hid hv
  obtain ⟨a, cc, rfl, hcc, hx⟩ := hv.ex
  clear hv hx
  by_cases g1 : (5000 : Int) < (t.size : Int) + q.size + c.size
  · go_enter Tryd.func12, Tryd.ntmps12
    go_wp2_with fail
    refine (G1.out _).mono ?_
    rintro e w1 ⟨rfl, hb1⟩
    go_wp2_with fail
    refine (HL.out _ (he1.out.below hb1)).mono ?_
    rintro e w2 ⟨rfl, hb2⟩
    go_wp2
    go_ret
    exact ⟨rfl, below_tr hb0.out (below_tr hb1 hb2)⟩
  by_cases g2 : (5000 : Int) < (l.length : Int)
  · go_enter Tryd.func12, Tryd.ntmps12
    go_wp2_with fail
    refine (G1.out _).mono ?_
    rintro e w1 ⟨rfl, hb1⟩
    go_wp2_with fail
    refine (HL.out _ (he1.out.below hb1)).mono ?_
    rintro e w2 ⟨rfl, hb2⟩
    go_wp2
    go_ret
    exact ⟨rfl, below_tr hb0.out (below_tr hb1 hb2)⟩
  have B1 := Lib.hid (fun W hE => Bytes_any t q c r W hE (by omega))
  have B2 := Lib.hid (fun W hE => rBytes_any t q c r W hE (by omega))
  obtain ⟨t', p', c', r', ok, hok⟩ := reads_key l
  have HOK := Lib.hid hok; clear hok
  have R1 := Lib.hid (fun W (h : SlB W.heap.size W (.slice a l.length cc) l) => (kRead_any (.slice a l.length cc) l W h (by omega)).mono (fun e w' h => HOK.out e W w' h))
  have R2 := Lib.hid (fun W (h : SlB W.heap.size W (.slice a l.length cc) l) => (rRead_any (.slice a l.length cc) l W h (by omega)).mono (fun e w' h => HOK.out e W w' h))
  have hk := fun w => key_eql w t' p' c' t' p' c' r' r'
  have hke : keyEq t' p' r' c' t' p' r' c' = true := by simp [keyEq]
  rw [hke] at hk
  have hs := fun (b : List UInt8) => (beq_self_eq_true b)
  have hoo := beq_self_eq_true ok
  generalize keyBytes t q r c = kb at *
  clear x1 x2 x3 hke
  go_enter Tryd.func12, Tryd.ntmps12
  go_wp2_with fail
  refine (G1.out _).mono ?_
  rintro e w1 ⟨rfl, hb1⟩
  have hsz0 := hb0.out.size
  go_wp2_with fail
  have V1 := Lib.hid ((HV.out.below (below_tr hb0.out hb1)).up (Nat.le_trans hsz0 hb1.size))
  refine (R1.out _ V1.out).mono ?_
  rintro e w2 ⟨rfl, hb2⟩
  have hb2' := Lib.hid (below_tr hb1 hb2)
  go_wp2_with fail
  have hb3 := below_alloc hb2'.out (.cells #[.string t', .string p', .int .i64 r', .string c'] 60)
  have K2 := KB.mk (W := w2.alloc (.cells #[.string t', .string p', .int .i64 r', .string c'] 60)) (g := w2.heap.size) (t := t') (p := p') (c := c') (r := r') (by go_simp) (by go_simp) (by go_simp) (by go_simp)
  have V2 := (V1.out.below (below_alloc hb2 (.cells #[.string t', .string p', .int .i64 r', .string c'] 60))).up (below_alloc hb2 (.cells #[.string t', .string p', .int .i64 r', .string c'] 60)).size
  generalize hgx : w2.heap.size = gx at *
  generalize w2.alloc (.cells #[.string t', .string p', .int .i64 r', .string c'] 60) = W2 at *
  refine (R2.out _ V2).mono ?_
  rintro e w3 ⟨rfl, hb4⟩
  have hb4' := below_alloc (below_tr hb3 hb4) (.cells #[.string t', .string p', .int .i64 r', .string c'] 60)
  have hb4'' := below_alloc hb4 (.cells #[.string t', .string p', .int .i64 r', .string c'] 60)
  have K3 := KB.mk (W := w3.alloc (.cells #[.string t', .string p', .int .i64 r', .string c'] 60)) (g := w3.heap.size) (t := t') (p := p') (c := c') (r := r') (by go_simp) (by go_simp) (by go_simp) (by go_simp)
  clear hgx hb2 hb2' hb1 V2 V1 HV R1 R2 HOK
  have hb4_ := Lib.hid hb4'; have K2_ := Lib.hid (K2.keep hb4''); have K3_ := Lib.hid K3; have K1_ := Lib.hid (CA.out.keep hb4')
  clear hb4' hb4'' K2 K3 hb4 hb3
  go_wp2_with fail
  generalize hgy : w3.heap.size = gy at *
  clear hgy
  generalize w3.alloc (.cells #[.string t', .string p', .int .i64 r', .string c'] 60) = W4 at *
  obtain ⟨a0, a1, a2, a3⟩ := K1_.out
  obtain ⟨b0, b1, b2, b3⟩ := K2_.out
  obtain ⟨c0, c1, c2, c3⟩ := K3_.out
  have HS : ∀ w', Below W4.heap.size W4 w' → (InW W4 w' ∧ w'.cell? ⟨w.heap.size, 0, none⟩ = some (.string t) ∧ w'.cell? ⟨w.heap.size, 1, none⟩ = some (.string q) ∧ w'.cell? ⟨w.heap.size, 2, none⟩ = some (.int .i64 r) ∧ w'.cell? ⟨w.heap.size, 3, none⟩ = some (.string c) ∧ w'.cell? ⟨gx, 0, none⟩ = some (.string t') ∧ w'.cell? ⟨gx, 1, none⟩ = some (.string p') ∧ w'.cell? ⟨gx, 2, none⟩ = some (.int .i64 r') ∧ w'.cell? ⟨gx, 3, none⟩ = some (.string c') ∧ w'.cell? ⟨gy, 0, none⟩ = some (.string t') ∧ w'.cell? ⟨gy, 1, none⟩ = some (.string p') ∧ w'.cell? ⟨gy, 2, none⟩ = some (.int .i64 r') ∧ w'.cell? ⟨gy, 3, none⟩ = some (.string c')) :=
    fun w' h => ⟨h, cell_keep h a0, cell_keep h a1, cell_keep h a2, cell_keep h a3, cell_keep h b0, cell_keep h b1, cell_keep h b2, cell_keep h b3, cell_keep h c0, cell_keep h c1, cell_keep h c2, cell_keep h c3⟩
  have HS' := Lib.hid HS; clear HS
  have he4 := Lib.hid (he1.out.below hb4_.out)
  clear a0 a1 a2 a3 b0 b1 b2 b3 c0 c1 c2 c3
  go_region_held3 (fun w' => InW W4 w' ∧ w'.cell? ⟨w.heap.size, 0, none⟩ = some (.string t) ∧ w'.cell? ⟨w.heap.size, 1, none⟩ = some (.string q) ∧ w'.cell? ⟨w.heap.size, 2, none⟩ = some (.int .i64 r) ∧ w'.cell? ⟨w.heap.size, 3, none⟩ = some (.string c) ∧ w'.cell? ⟨gx, 0, none⟩ = some (.string t') ∧ w'.cell? ⟨gx, 1, none⟩ = some (.string p') ∧ w'.cell? ⟨gx, 2, none⟩ = some (.int .i64 r') ∧ w'.cell? ⟨gx, 3, none⟩ = some (.string c') ∧ w'.cell? ⟨gy, 0, none⟩ = some (.string t') ∧ w'.cell? ⟨gy, 1, none⟩ = some (.string p') ∧ w'.cell? ⟨gy, 2, none⟩ = some (.int .i64 r') ∧ w'.cell? ⟨gy, 3, none⟩ = some (.string c')) (first | exact HS'.out _ (Below.drew (Below.refl _ _)) | exact HS'.out _ (below_tr (show Below W4.heap.size W4 _ from And.left (by assumption)) (by assumption)) | assumption)
    (first | (go_at_call 50; refine (B1.out _ (he4.out.below (‹InW W4 _ ∧ _›).1)).mono ?_; rintro e w' ⟨v, rfl, HO, hb⟩) | (go_at_call 51; refine (B2.out _ (he4.out.below (‹InW W4 _ ∧ _›).1)).mono ?_; rintro e w' ⟨v, rfl, HO, hb⟩) | (go_at_call 38; refine (HL.out _ (he4.out.below (‹InW W4 _ ∧ _›).1)).mono ?_; rintro e w' ⟨rfl, hb⟩) | (go_at_call 22; refine (SameT _ _ kb _ (OwnB.reads (by first | with_reducible assumption | exact OwnB.below (by with_reducible assumption) (by with_reducible assumption) | exact OwnB.below (OwnB.drew (by with_reducible assumption)) (by with_reducible assumption))) (OwnB.reads (by first | with_reducible assumption | exact OwnB.below (by with_reducible assumption) (by with_reducible assumption) | exact OwnB.below (OwnB.drew (by with_reducible assumption)) (by with_reducible assumption)))).mono ?_; rintro e w' ⟨rfl, hb⟩))
  have hB := (‹InW W4 _ ∧ _›).1
  go_wp2_with fail
  go_ret
  exact ⟨rfl, below_tr hb0.out (below_tr hb4_.out hB)⟩
theorem KeyBytes_row (t q c : ByteArray) (r : Int) (v : Value) (l : List UInt8) (w : World) (he : Env w) (x1 : t.size ≤ reachBytes) (x2 : q.size ≤ reachBytes) (x3 : c.size ≤ reachBytes) (x4 : -9223372036854775808 ≤ r) (x5 : r ≤ 9223372036854775807) (hv : SlB w.heap.size w v l) (hvl : l.length ≤ 140737488351232) :
    Calls Tryd.prog 12 #[.agg #[.string t, .string q, .int .i64 r, .string c], v] w
      fun e w' => e = .returned (.bool true) ∧ Below w.heap.size w w' := KeyBytes_walk t q c r v l w he hv hvl x1 x2 x3
end Go.Proofs.YtkmcjainbhmbdaaDoor
