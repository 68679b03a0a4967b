/- Contract of key's Read: bytes as a key. Condition: at most a million bytes. -/
import Derived.Test.YtkmcjainbhmbdaaDoorRy
set_option linter.unusedVariables false
set_option linter.unusedSimpArgs false
set_option maxRecDepth 20000
namespace Go.Proofs.YtkmcjainbhmbdaaDoor
open Go.RowKit

/-- The key that bytes are. -/
def keyOf (l : List UInt8) : Option (List UInt8 × List UInt8 × Int × List UInt8) :=
  match takeT [] l with
  | none => none
  | some (t, l1) => match takeT [] l1 with
    | none => none
    | some (p, l2) => if l2.length < 8 then none else match takeT [] (l2.drop 8) with
      | none => none
      | some (c, l3) => if l3 = [] then some (t, p, rowOf (l2.take 8), c) else none

abbrev noKey : Value := .agg #[.string ⟨#[]⟩, .string ⟨#[]⟩, .int .i64 0, .string ⟨#[]⟩]
/-- What Read hands back. -/
def ReadPost (w : World) (l : List UInt8) (e : Ending) (w' : World) : Prop :=
  Below w.heap.size w w' ∧ match keyOf l with
    | some (t, p, r, c) => e = .returned (.tuple #[.agg #[sv t, sv p, .int .i64 r, sv c], .bool true])
    | none => e = .returned (.tuple #[noKey, .bool false])
theorem ReadPost.yes {w w' : World} {l t p c : List UInt8} {r : Int} (h : keyOf l = some (t, p, r, c)) (hb : Below w.heap.size w w') : ReadPost w l (.returned (.tuple #[.agg #[sv t, sv p, .int .i64 r, sv c], .bool true])) w' := by
  unfold ReadPost; rw [h]; exact ⟨hb, rfl⟩
theorem ReadPost.no {w w' : World} {l : List UInt8} (h : keyOf l = none) (hb : Below w.heap.size w w') : ReadPost w l (.returned (.tuple #[noKey, .bool false])) w' := by
  unfold ReadPost; rw [h]; exact ⟨hb, rfl⟩

/-- A key's four cells that may be written. -/
structure KF (W : World) (g : Nat) (t p : ByteArray) (r : Int) (c : ByteArray) : Prop where
  c0 : W.cell? ⟨g, 0, none⟩ = some (.string t)
  c1 : W.cell? ⟨g, 1, none⟩ = some (.string p)
  c2 : W.cell? ⟨g, 2, none⟩ = some (.int .i64 r)
  c3 : W.cell? ⟨g, 3, none⟩ = some (.string c)
  fr : W.frozen? ⟨g, 0, none⟩ = false ∧ W.frozen? ⟨g, 1, none⟩ = false ∧ W.frozen? ⟨g, 2, none⟩ = false ∧ W.frozen? ⟨g, 3, none⟩ = false
theorem KF.grown {W W1 : World} {g row : Nat} {t p c : ByteArray} {r : Int} (h : KF W g t p r c) (hg : W.grownBy W1 (some row)) (hne : g ≠ row) : KF W1 g t p r c := by
  have hlt : g < W.heap.size := World.block_lt_of_cell? W _ h.c0
  have hn : some g ≠ some row := fun e => hne (by injection e)
  exact ⟨hg.cell h.c0 hn, hg.cell h.c1 hn, hg.cell h.c2 hn, hg.cell h.c3 hn, (hg.frozen_far ⟨g, 0, none⟩ hlt hn).trans h.fr.1, (hg.frozen_far ⟨g, 1, none⟩ hlt hn).trans h.fr.2.1, (hg.frozen_far ⟨g, 2, none⟩ hlt hn).trans h.fr.2.2.1, (hg.frozen_far ⟨g, 3, none⟩ hlt hn).trans h.fr.2.2.2⟩
theorem KF.put {W : World} {g : Nat} {t p c : ByteArray} {r : Int} (h : KF W g t p r c) :
    (∀ x, KF (W.setCell ⟨g, 0, none⟩ (.string x)) g x p r c) ∧ (∀ x, KF (W.setCell ⟨g, 1, none⟩ (.string x)) g t x r c) ∧ (∀ x, KF (W.setCell ⟨g, 2, none⟩ (.int .i64 x)) g t p x c) ∧ (∀ x, KF (W.setCell ⟨g, 3, none⟩ (.string x)) g t p r x) := by
  obtain ⟨h0, h1, h2, h3, f0, f1, f2, f3⟩ := h
  refine ⟨fun x => ⟨?_, ?_, ?_, ?_, ?_, ?_, ?_, ?_⟩, fun x => ⟨?_, ?_, ?_, ?_, ?_, ?_, ?_, ?_⟩, fun x => ⟨?_, ?_, ?_, ?_, ?_, ?_, ?_, ?_⟩, fun x => ⟨?_, ?_, ?_, ?_, ?_, ?_, ?_, ?_⟩⟩ <;> go_simp
theorem KF.far {W : World} {g g' o : Nat} {t p c : ByteArray} {r : Int} (h : KF W g t p r c) (v : Value) (hne : g ≠ g') : KF (W.setCell ⟨g', o, none⟩ v) g t p r c := h.grown (Lib.grownBy_setCell W g' o v) hne
theorem St.far {W : World} {g g' o : Nat} {v : Value} {bad : Bool} (h : St W g v bad) (u : Value) (hne : g ≠ g') : St (W.setCell ⟨g', o, none⟩ u) g v bad := by
  have hg := Lib.grownBy_setCell W g' o u
  have hlt : g < W.heap.size := World.block_lt_of_cell? W _ h.c0
  have hn : some g ≠ some g' := fun e => hne (by injection e)
  exact ⟨hg.cell h.c0 hn, hg.cell h.c1 hn, (hg.frozen_far ⟨g, 0, none⟩ hlt hn).trans h.f0, (hg.frozen_far ⟨g, 1, none⟩ hlt hn).trans h.f1⟩

/-- Read's state: result, reader and key. -/
structure RS (w W : World) (v : Value) (bad : Bool) (t p : ByteArray) (r : Int) (c : ByteArray) : Prop where
  below : Below w.heap.size w W
  st : St W (w.heap.size + 1) v bad
  key : KF W (w.heap.size + 1 + 1) t p r c
  res : KF W w.heap.size ⟨#[]⟩ ⟨#[]⟩ 0 ⟨#[]⟩
theorem RS.call {w W W1 : World} {v v' : Value} {bad bad' : Bool} {t p c : ByteArray} {r : Int} (h : RS w W v bad t p r c) (hb : Below w.heap.size w W1) (hg : W.grownBy W1 (some (w.heap.size + 1))) (hs : St W1 (w.heap.size + 1) v' bad') : RS w W1 v' bad' t p r c :=
  ⟨hb, hs, h.key.grown hg (by omega), h.res.grown hg (by omega)⟩
theorem RS.puts {w W : World} {v : Value} {bad : Bool} {t p c : ByteArray} {r : Int} (h : RS w W v bad t p r c) :
    (∀ x, RS w (W.setCell ⟨w.heap.size + 1 + 1, 0, none⟩ (.string x)) v bad x p r c) ∧ (∀ x, RS w (W.setCell ⟨w.heap.size + 1 + 1, 1, none⟩ (.string x)) v bad t x r c) ∧ (∀ x, RS w (W.setCell ⟨w.heap.size + 1 + 1, 2, none⟩ (.int .i64 x)) v bad t p x c) ∧ (∀ x, RS w (W.setCell ⟨w.heap.size + 1 + 1, 3, none⟩ (.string x)) v bad t p r x) := by
  obtain ⟨hb, hs, hk, hr⟩ := h
  have hB : ∀ o u, Below w.heap.size w (W.setCell ⟨w.heap.size + 1 + 1, o, none⟩ u) := fun o u => hb.setCell (p := ⟨w.heap.size + 1 + 1, o, none⟩) (by show w.heap.size ≤ w.heap.size + 1 + 1; omega) u
  obtain ⟨k0, k1, k2, k3⟩ := hk.put
  exact ⟨fun x => ⟨hB 0 _, hs.far _ (by omega), k0 x, hr.far _ (by omega)⟩, fun x => ⟨hB 1 _, hs.far _ (by omega), k1 x, hr.far _ (by omega)⟩, fun x => ⟨hB 2 _, hs.far _ (by omega), k2 x, hr.far _ (by omega)⟩, fun x => ⟨hB 3 _, hs.far _ (by omega), k3 x, hr.far _ (by omega)⟩⟩

theorem below_put4 {w W : World} {a b c d : Value} (h : Below w.heap.size w W) : Below w.heap.size w ((((W.setCell ⟨w.heap.size, 0, none⟩ a).setCell ⟨w.heap.size, 1, none⟩ b).setCell ⟨w.heap.size, 2, none⟩ c).setCell ⟨w.heap.size, 3, none⟩ d) :=
  (((h.setCell (p := ⟨w.heap.size, 0, none⟩) (Nat.le_refl _) a).setCell (p := ⟨w.heap.size, 1, none⟩) (Nat.le_refl _) b).setCell (p := ⟨w.heap.size, 2, none⟩) (Nat.le_refl _) c).setCell (p := ⟨w.heap.size, 3, none⟩) (Nat.le_refl _) d
theorem kt_some {w W : World} {v : Value} {bad : Bool} {t p c : ByteArray} {r : Int} {l : List UInt8} (h : RS w W v bad t p r c) (hv : SlB w.heap.size w v l) (hl : l.length ≤ 1000000) {s l' : List UInt8} (he : takeT [] l = some (s, l')) :
    Calls Tryd.prog 88 #[.pointer (some ⟨w.heap.size + 1, 0, none⟩)] W fun e W1 => ∃ a n c', e = .returned (sv s) ∧ n = l'.length ∧ SlB w.heap.size w (.slice a l'.length c') l' ∧ RS w W1 (.slice a l'.length c') bad t p r c := by
  refine (ktext_any w (w.heap.size + 1) v bad l W h.below (by omega) hv h.st hl).mono ?_
  rintro e W1 ⟨hb, hg, hm⟩
  rw [he] at hm
  obtain ⟨v', rfl, hv', hs⟩ := hm
  have hv2 := hv'
  obtain ⟨a, c', rfl, _, _⟩ := hv'.ex
  exact ⟨a, _, c', rfl, rfl, hv2, h.call hb hg hs⟩
theorem kt_none {w W : World} {v : Value} {bad : Bool} {t p c : ByteArray} {r : Int} {l : List UInt8} (h : RS w W v bad t p r c) (hv : SlB w.heap.size w v l) (hl : l.length ≤ 1000000) (he : takeT [] l = none) :
    Calls Tryd.prog 88 #[.pointer (some ⟨w.heap.size + 1, 0, none⟩)] W fun e W1 => e = .returned (.string ⟨#[]⟩) ∧ RS w W1 v true t p r c := by
  refine (ktext_any w (w.heap.size + 1) v bad l W h.below (by omega) hv h.st hl).mono ?_
  rintro e W1 ⟨hb, hg, hm⟩
  rw [he] at hm
  exact ⟨hm.1, h.call hb hg hm.2⟩
theorem kr_bad {w W : World} {v : Value} {bad : Bool} {t p c : ByteArray} {r : Int} {l : List UInt8} (h : RS w W v bad t p r c) (hv : SlB w.heap.size w v l) (hl : l.length ≤ 1000000) (he : bad = true ∨ l.length < 8) :
    Calls Tryd.prog 89 #[.pointer (some ⟨w.heap.size + 1, 0, none⟩)] W fun e W1 => e = .returned (.int .i64 0) ∧ RS w W1 v true t p r c := by
  refine (krow_any w (w.heap.size + 1) v bad l W h.below (by omega) hv h.st hl).mono ?_
  rintro e W1 ⟨hb, hg, hm⟩
  rw [if_pos he] at hm
  exact ⟨hm.1, h.call hb hg hm.2⟩
theorem kr_good {w W : World} {v : Value} {bad : Bool} {t p c : ByteArray} {r : Int} {l : List UInt8} (h : RS w W v bad t p r c) (hv : SlB w.heap.size w v l) (hl : l.length ≤ 1000000) (he : bad = false) (h8 : 8 ≤ l.length) :
    Calls Tryd.prog 89 #[.pointer (some ⟨w.heap.size + 1, 0, none⟩)] W fun e W1 => ∃ a c', e = .returned (.int .i64 (rowOf (l.take 8))) ∧ SlB w.heap.size w (.slice a (l.drop 8).length c') (l.drop 8) ∧ RS w W1 (.slice a (l.drop 8).length c') false t p r c := by
  refine (krow_any w (w.heap.size + 1) v bad l W h.below (by omega) hv h.st hl).mono ?_
  rintro e W1 ⟨hb, hg, hm⟩
  rw [if_neg (by simp [he]; omega)] at hm
  obtain ⟨v', rfl, hv', hs⟩ := hm
  have hv2 := hv'
  obtain ⟨a, c', rfl, _, _⟩ := hv'.ex
  exact ⟨a, c', rfl, hv2, h.call hb hg hs⟩

set_option maxHeartbeats 8000000 in
theorem kRead_any (v : Value) (l : List UInt8) (w : World) (hv : SlB w.heap.size w v l) (hl : l.length ≤ 1000000) :
    Calls Tryd.prog 48 #[v] w (ReadPost w l) := by
  have HV := Lib.hid hv
  obtain ⟨a, c, rfl, hc, hx⟩ := hv.ex
  clear hx hv
  go_enter Tryd.func48, Tryd.ntmps48
  go_wp2_with fail
  have R0 : RS w (((w.alloc (.cells #[.string ⟨#[]⟩, .string ⟨#[]⟩, .int .i64 0, .string ⟨#[]⟩] 60)).alloc (.cells #[.slice a l.length c, .bool false] 115)).alloc (.cells #[.string ⟨#[]⟩, .string ⟨#[]⟩, .int .i64 0, .string ⟨#[]⟩] 60)) (.slice a l.length c) false ⟨#[]⟩ ⟨#[]⟩ 0 ⟨#[]⟩ := by
    refine ⟨below_alloc (below_alloc (below_alloc (Below.refl _ w) _) _) _, ⟨?_, ?_, ?_, ?_⟩, ⟨?_, ?_, ?_, ?_, ?_, ?_, ?_, ?_⟩, ⟨?_, ?_, ?_, ?_, ?_, ?_, ?_, ?_⟩⟩ <;> go_simp
  generalize ((w.alloc (.cells #[.string ⟨#[]⟩, .string ⟨#[]⟩, .int .i64 0, .string ⟨#[]⟩] 60)).alloc (.cells #[.slice a l.length c, .bool false] 115)).alloc (.cells #[.string ⟨#[]⟩, .string ⟨#[]⟩, .int .i64 0, .string ⟨#[]⟩] 60) = W0 at *
  have R0' := Lib.hid R0; clear R0
  rcases hk1 : takeT [] l with _ | ⟨t, l1⟩
  · have HK1 := Lib.hid hk1; clear hk1
    refine (kt_none R0'.out HV.out hl HK1.out).mono ?_
    rintro e W1 ⟨rfl, R1⟩
    have R1p := Lib.hid (R1.puts.1 ⟨#[]⟩)
    have R1' := Lib.hid R1; clear R1
    obtain ⟨hb, ⟨s0, s1, f0, f1⟩, ⟨k0, k1, k2, k3, g0, g1, g2, g3⟩, ⟨z0, z1, z2, z3, y0, y1, y2, y3⟩⟩ := R1'.out
    go_wp2_with fail
    refine (kr_bad R1p.out HV.out (by omega) (.inl rfl)).mono ?_
    rintro e W1 ⟨rfl, R2⟩
    clear hb s0 s1 f0 f1 k0 k1 k2 k3 g0 g1 g2 g3 z0 z1 z2 z3 y0 y1 y2 y3
    have R2p := Lib.hid (R2.puts.2.2.1 0)
    have R2' := Lib.hid R2; clear R2
    obtain ⟨hb, ⟨s0, s1, f0, f1⟩, ⟨k0, k1, k2, k3, g0, g1, g2, g3⟩, ⟨z0, z1, z2, z3, y0, y1, y2, y3⟩⟩ := R2'.out
    go_wp2_with fail
    refine bodyPost_ret (v := .tuple #[noKey, .bool false]) (by simp [results, Tryd.results48, go_sem, z0, z1, z2, z3]) rfl ?_
    exact ReadPost.no (by unfold keyOf; rw [HK1.out]) (below_put4 R2p.out.below)
  · have hl1 : t.length + l1.length + 2 ≤ l.length := by have := (takeT_len _ [] l t l1 (Nat.le_refl _) hk1).1; simpa using this
    have HK1 := Lib.hid hk1; clear hk1
    refine (kt_some R0'.out HV.out hl HK1.out).mono ?_
    rintro e W1 ⟨a1, n1, c1, rfl, hn1, hv1, R1⟩
    clear hn1 n1
    have HV1 := Lib.hid hv1; clear hv1
    have R1p := Lib.hid (R1.puts.1 ⟨t.toArray⟩)
    have R1' := Lib.hid R1; clear R1
    obtain ⟨hb, ⟨s0, s1, f0, f1⟩, ⟨k0, k1, k2, k3, g0, g1, g2, g3⟩, ⟨z0, z1, z2, z3, y0, y1, y2, y3⟩⟩ := R1'.out
    go_wp2_with fail
    rcases hk2 : takeT [] l1 with _ | ⟨p, l2⟩
    · have HK2 := Lib.hid hk2; clear hk2
      refine (kt_none R1p.out HV1.out (by omega) HK2.out).mono ?_
      rintro e W1 ⟨rfl, R2⟩
      clear hb s0 s1 f0 f1 k0 k1 k2 k3 g0 g1 g2 g3 z0 z1 z2 z3 y0 y1 y2 y3
      have R2p := Lib.hid (R2.puts.2.1 ⟨#[]⟩)
      have R2' := Lib.hid R2; clear R2
      obtain ⟨hb, ⟨s0, s1, f0, f1⟩, ⟨k0, k1, k2, k3, g0, g1, g2, g3⟩, ⟨z0, z1, z2, z3, y0, y1, y2, y3⟩⟩ := R2'.out
      go_wp2_with fail
      refine (kr_bad R2p.out HV1.out (by omega) (.inl rfl)).mono ?_
      rintro e W1 ⟨rfl, R3⟩
      clear hb s0 s1 f0 f1 k0 k1 k2 k3 g0 g1 g2 g3 z0 z1 z2 z3 y0 y1 y2 y3
      have R3p := Lib.hid (R3.puts.2.2.1 0)
      have R3' := Lib.hid R3; clear R3
      obtain ⟨hb, ⟨s0, s1, f0, f1⟩, ⟨k0, k1, k2, k3, g0, g1, g2, g3⟩, ⟨z0, z1, z2, z3, y0, y1, y2, y3⟩⟩ := R3'.out
      go_wp2_with fail
      refine bodyPost_ret (v := .tuple #[noKey, .bool false]) (by simp [results, Tryd.results48, go_sem, z0, z1, z2, z3]) rfl ?_
      exact ReadPost.no (by unfold keyOf; rw [HK1.out]; simp only []; rw [HK2.out]) (below_put4 R3p.out.below)
    · have hl2 : p.length + l2.length + 2 ≤ l1.length := by have := (takeT_len _ [] l1 p l2 (Nat.le_refl _) hk2).1; simpa using this
      have HK2 := Lib.hid hk2; clear hk2
      refine (kt_some R1p.out HV1.out (by omega) HK2.out).mono ?_
      rintro e W1 ⟨a2, n2, c2, rfl, hn2, hv2, R2⟩
      clear hn2 n2
      have HV2 := Lib.hid hv2; clear hv2
      clear hb s0 s1 f0 f1 k0 k1 k2 k3 g0 g1 g2 g3 z0 z1 z2 z3 y0 y1 y2 y3
      have R2p := Lib.hid (R2.puts.2.1 ⟨p.toArray⟩)
      have R2' := Lib.hid R2; clear R2
      obtain ⟨hb, ⟨s0, s1, f0, f1⟩, ⟨k0, k1, k2, k3, g0, g1, g2, g3⟩, ⟨z0, z1, z2, z3, y0, y1, y2, y3⟩⟩ := R2'.out
      go_wp2_with fail
      by_cases h8 : l2.length < 8
      · refine (kr_bad R2p.out HV2.out (by omega) (.inr h8)).mono ?_
        rintro e W1 ⟨rfl, R3⟩
        clear hb s0 s1 f0 f1 k0 k1 k2 k3 g0 g1 g2 g3 z0 z1 z2 z3 y0 y1 y2 y3
        have R3p := Lib.hid (R3.puts.2.2.1 0)
        have R3' := Lib.hid R3; clear R3
        obtain ⟨hb, ⟨s0, s1, f0, f1⟩, ⟨k0, k1, k2, k3, g0, g1, g2, g3⟩, ⟨z0, z1, z2, z3, y0, y1, y2, y3⟩⟩ := R3'.out
        go_wp2_with fail
        refine bodyPost_ret (v := .tuple #[noKey, .bool false]) (by simp [results, Tryd.results48, go_sem, z0, z1, z2, z3]) rfl ?_
        exact ReadPost.no (by unfold keyOf; rw [HK1.out]; simp only []; rw [HK2.out]; simp only []; rw [if_pos h8]) (below_put4 R3p.out.below)
      · have hl3 : (l2.drop 8).length ≤ 1000000 := by rw [List.length_drop]; omega
        have hl4 : (l2.drop 8).length < 9223372036854775808 := by omega
        refine (kr_good R2p.out HV2.out (by omega) rfl (by omega)).mono ?_
        rintro e W1 ⟨a3, c3, rfl, hv3, R3⟩
        have HV3 := Lib.hid hv3; clear hv3
        have HL3 := Lib.hid (rfl : l2.drop 8 = l2.drop 8)
        clear hb s0 s1 f0 f1 k0 k1 k2 k3 g0 g1 g2 g3 z0 z1 z2 z3 y0 y1 y2 y3
        have R3p := Lib.hid (R3.puts.2.2.1 (rowOf (l2.take 8)))
        have R3' := Lib.hid R3; clear R3
        obtain ⟨hb, ⟨s0, s1, f0, f1⟩, ⟨k0, k1, k2, k3, g0, g1, g2, g3⟩, ⟨z0, z1, z2, z3, y0, y1, y2, y3⟩⟩ := R3'.out
        go_wp2_with fail
        rcases hk3 : takeT [] (l2.drop 8) with _ | ⟨c3', l3⟩
        · have HK3 := Lib.hid hk3; clear hk3
          refine (kt_none R3p.out HV3.out hl3 HK3.out).mono ?_
          rintro e W1 ⟨rfl, R4⟩
          clear hb s0 s1 f0 f1 k0 k1 k2 k3 g0 g1 g2 g3 z0 z1 z2 z3 y0 y1 y2 y3
          have R4p := Lib.hid (R4.puts.2.2.2 ⟨#[]⟩)
          have R4' := Lib.hid R4; clear R4
          obtain ⟨hb, ⟨s0, s1, f0, f1⟩, ⟨k0, k1, k2, k3, g0, g1, g2, g3⟩, ⟨z0, z1, z2, z3, y0, y1, y2, y3⟩⟩ := R4'.out
          go_wp2_with fail
          refine bodyPost_ret (v := .tuple #[noKey, .bool false]) (by simp [results, Tryd.results48, go_sem, z0, z1, z2, z3]) rfl ?_
          exact ReadPost.no (by unfold keyOf; rw [HK1.out]; simp only []; rw [HK2.out]; simp only []; rw [if_neg h8, HK3.out]) (below_put4 R4p.out.below)
        · have HK3 := Lib.hid hk3; clear hk3
          by_cases he : l3 = []
          · subst he
            refine (kt_some R3p.out HV3.out hl3 HK3.out).mono ?_
            rintro e W1 ⟨a4, n4, c4, rfl, hn4, hv4, R4⟩
            clear hb s0 s1 f0 f1 k0 k1 k2 k3 g0 g1 g2 g3 z0 z1 z2 z3 y0 y1 y2 y3
            have R4p := Lib.hid (R4.puts.2.2.2 ⟨c3'.toArray⟩)
            have R4' := Lib.hid R4; clear R4
            obtain ⟨hb, ⟨s0, s1, f0, f1⟩, ⟨k0, k1, k2, k3, g0, g1, g2, g3⟩, ⟨z0, z1, z2, z3, y0, y1, y2, y3⟩⟩ := R4'.out
            go_wp2_with fail
            refine bodyPost_ret (v := .tuple #[.agg #[sv t, sv p, .int .i64 (rowOf (l2.take 8)), sv c3'], .bool true]) (by simp [results, Tryd.results48, go_sem, z0, z1, z2, z3]) rfl ?_
            exact ReadPost.yes (by unfold keyOf; rw [HK1.out]; simp only []; rw [HK2.out]; simp only []; rw [if_neg h8, HK3.out]; simp) (below_put4 R4p.out.below)
          · have hp : 0 < l3.length := List.length_pos_iff.2 he
            refine (kt_some R3p.out HV3.out hl3 HK3.out).mono ?_
            rintro e W1 ⟨a4, n4, c4, rfl, hn4, hv4, R4⟩
            clear hb s0 s1 f0 f1 k0 k1 k2 k3 g0 g1 g2 g3 z0 z1 z2 z3 y0 y1 y2 y3
            have R4p := Lib.hid (R4.puts.2.2.2 ⟨c3'.toArray⟩)
            have R4' := Lib.hid R4; clear R4
            obtain ⟨hb, ⟨s0, s1, f0, f1⟩, ⟨k0, k1, k2, k3, g0, g1, g2, g3⟩, ⟨z0, z1, z2, z3, y0, y1, y2, y3⟩⟩ := R4'.out
            go_wp2_with fail
            refine bodyPost_ret (v := .tuple #[noKey, .bool false]) (by simp [results, Tryd.results48, go_sem, z0, z1, z2, z3]) rfl ?_
            exact ReadPost.no (by unfold keyOf; rw [HK1.out]; simp only []; rw [HK2.out]; simp only []; rw [if_neg h8, HK3.out]; simp [he]) (below_put4 R4p.out.below)
end Go.Proofs.YtkmcjainbhmbdaaDoor
