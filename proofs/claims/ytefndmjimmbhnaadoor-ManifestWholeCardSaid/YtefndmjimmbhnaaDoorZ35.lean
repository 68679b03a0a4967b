/- Contracts of manifest's Load over a disk that holds at most its two files, and of Store's closures. Conditions: as told at each. -/
import Derived.Test.YtefndmjimmbhnaaDoorZ26
import Derived.Test.YtefndmjimmbhnaaDoorZ34
section
set_option linter.unusedVariables false
set_option linter.unusedSimpArgs false
set_option maxRecDepth 50000
namespace Go.Proofs.YtefndmjimmbhnaaDoor
open Go.RowKit Go.Shelf

theorem name_fresh : diskNameB (⟨#[109, 97, 110, 105, 102, 101, 115, 116, 46, 110, 101, 119]⟩ : ByteArray) = true := by decide +kernel
/-- what stands under the name when these are stored; (0: none) -/
def manB (o : Option (List Int × Int × Int)) : Option (List UInt8) := o.map fun r => frameL (encM r.1 r.2.1 r.2.2)
def manG (o : Option (List Int × Int × Int)) : Prop := ∀ r, o = some r → goodM r.1 r.2.1 r.2.2 = true
def manV (o : Option (List Int × Int × Int)) : List Int × Int × Int := match o with
  | none => ([], 1, 1)
  | some r => r
theorem frame_len13 {l : List Int} {nx fr : Int} (h : goodM l nx fr = true) : (frameL (encM l nx fr)).length ≤ 1008 := by
  have h1 := encM_len h
  rw [frameL_length _ (by omega)]; omega
theorem plan13 {l : List Int} {nx fr : Int} (h : goodM l nx fr = true) : Plan (⟨#[109, 97, 110, 105, 102, 101, 115, 116]⟩ : ByteArray) (⟨#[109, 97, 110, 105, 102, 101, 115, 116, 46, 110, 101, 119]⟩ : ByteArray) 1008 100000 (frameL (encM l nx fr)) :=
  ⟨name_manifest, name_fresh, by decide, frame_len13 h, by decide⟩
theorem SlI.but {S : Nat → Prop} {W W1 : World} {v : Value} {l : List Int} (h : SlI W v l) (hB : But S W W1) (hs : ∀ g o n c, v = .slice (some ⟨g, o, none⟩) n c → 0 < l.length → ¬ S g) : SlI W1 v l := by
  obtain ⟨a, c, e, hc, hx⟩ := h.ex
  refine ⟨a, c, e, hc, fun h0 => ?_⟩
  obtain ⟨g, o, ea, hcell⟩ := hx h0
  exact ⟨g, o, ea, fun j hj => hB.cell (hcell j hj) (hs g o _ _ (by rw [e, ea]) h0)⟩
/-- tables' numbers do not lie where a new manifest does -/
theorem SlI.far {W : World} {v : Value} {l : List Int} {k : Nat} {t : TypeId} (h : SlI W v l) (hp : ∀ j (h : j < l.length), 1 ≤ l[j]) (hb : Blk W k t #[.slice none 0 0, .int .i64 0, .int .i64 0]) {g o n c : Nat} (e : v = .slice (some ⟨g, o, none⟩) n c) (h0 : 0 < l.length) : ¬ g = k := by
  rintro rfl
  obtain ⟨a, c', e2, hc, hx⟩ := h.ex
  obtain ⟨g', o', ea, hcell⟩ := hx h0
  subst ea
  rw [e] at e2
  injection e2 with e3 _ _
  injection e3 with e3
  injection e3 with e3 e4
  subst e3 e4
  have hc0 := hcell 0 h0
  have hp0 := hp 0 h0
  rw [Nat.add_zero] at hc0
  have hh : W.heap[g]? = some (.cells #[.slice none 0 0, .int .i64 0, .int .i64 0] t) := hb
  simp only [World.cell?, hh] at hc0
  rcases o with _ | _ | _ | o
  · simp at hc0
  · simp at hc0; omega
  · simp at hc0; omega
  · simp at hc0
def MLoadPost (w : World) (r : List Int × Int × Int) (e : Ending) (w' : World) : Prop :=
  ∃ a c, e = .returned (.tuple #[.agg #[.slice a r.1.length c, .int .i64 r.2.1, .int .i64 r.2.2], .int .i64 0]) ∧ SlI w' (.slice a r.1.length c) r.1 ∧ Below w.heap.size w w'
set_option maxHeartbeats 2000000 in
theorem mLoad_none (D : Dsk) (w : World) (h : DiskW w D) (hd : D.dark = false) (hf : D.get (⟨#[109, 97, 110, 105, 102, 101, 115, 116]⟩ : ByteArray) = none) :
    Calls Tryd.prog 14 #[ptrV D.d] w (MLoadPost w ([], 1, 1)) := by
  have hb := below_alloc (Below.refl _ w) (.cells #[.slice none 0 0, .int .i64 0, .int .i64 0] 24)
  have H := Lib.hid (read_none D (⟨#[109, 97, 110, 105, 102, 101, 115, 116]⟩ : ByteArray) _ (h.below hb) hd name_manifest hf)
  have HBg := Lib.hid (fun W => Begin_any W)
  have z0 := Blk.new w 24 #[.slice none 0 0, .int .i64 0, .int .i64 0]
  have HB := Lib.hid hb; clear hb h hd hf
  go_enter Tryd.func14, Tryd.ntmps14
  go_wp2_with fail
  generalize w.alloc (.cells #[.slice none 0 0, .int .i64 0, .int .i64 0] 24) = W at *
  refine H.out.mono ?_
  rintro e w1 ⟨rfl, hb1⟩
  go_wp2_with fail
  refine (HBg.out _).mono ?_
  rintro e w2 ⟨rfl, hb2⟩
  have hb2' := below_tr hb1 hb2
  have z2 := z0.below hb2'
  have x0 : w2.cell? ⟨w.heap.size, 0, none⟩ = some (.slice none 0 0) := z2.cell 0 rfl
  have x1 : w2.cell? ⟨w.heap.size, 1, none⟩ = some (.int .i64 0) := z2.cell 1 rfl
  have x2 : w2.cell? ⟨w.heap.size, 2, none⟩ = some (.int .i64 0) := z2.cell 2 rfl
  have y0 := z2.frozen 0; have y1 := z2.frozen 1; have y2 := z2.frozen 2
  have HB2 := Lib.hid (below_tr HB.out hb2'); clear hb1 hb2 hb2' z0 z2
  go_wp2_with fail
  refine bodyPost_ret (v := .tuple #[.agg #[.slice none 0 0, .int .i64 1, .int .i64 1], .int .i64 0]) (by simp [results, Tryd.results14, go_sem, x0, x1, x2]) rfl ⟨none, 0, rfl, ⟨none, 0, rfl, by simp, fun h => absurd h (by simp)⟩, ?_⟩
  exact ((HB2.out.setCell (p := ⟨w.heap.size, 0, none⟩) (Nat.le_refl _) _).setCell (p := ⟨w.heap.size, 1, none⟩) (Nat.le_refl _) _).setCell (p := ⟨w.heap.size, 2, none⟩) (Nat.le_refl _) _
set_option maxHeartbeats 2000000 in
theorem mLoad_some (D : Dsk) (f : Fil) (l : List Int) (nx fr : Int) (w : World) (h : DiskW w D) (hd : D.dark = false) (hf : D.get (⟨#[109, 97, 110, 105, 102, 101, 115, 116]⟩ : ByteArray) = some f) (hg : goodM l nx fr = true) (hb0 : f.b = frameL (encM l nx fr)) :
    Calls Tryd.prog 14 #[ptrV D.d] w (MLoadPost w (l, nx, fr)) := by
  have hb := below_alloc (Below.refl _ w) (.cells #[.slice none 0 0, .int .i64 0, .int .i64 0] 24)
  have H := Lib.hid (read_any D (⟨#[109, 97, 110, 105, 102, 101, 115, 116]⟩ : ByteArray) f _ (h.below hb) hd name_manifest hf)
  have HP := Lib.hid (fun j (hj : j < l.length) => show 1 ≤ l[j] from by
    have := (goodM_pos hg).2.2.2.2.2 j hj
    rw [List.getD_eq_getElem?_getD, List.getElem?_eq_getElem hj] at this
    exact this.1)
  have hlen := frame_len13 hg
  have R := readM_enc hg
  rw [← hb0] at hlen R
  have HR := Lib.hid (fun W base v (hv : OwnB W base v f.b) => mRead_any v f.b W hv.slB (by omega))
  rw [R] at HR
  have z0 := Blk.new w 24 #[.slice none 0 0, .int .i64 0, .int .i64 0]
  have HB := Lib.hid hb; clear hb h hd hf hg hb0 hlen R
  go_enter Tryd.func14, Tryd.ntmps14
  go_wp2_with fail
  have SZ : w.heap.size ≤ (w.alloc (.cells #[.slice none 0 0, .int .i64 0, .int .i64 0] 24)).heap.size := HB.out.size
  generalize w.alloc (.cells #[.slice none 0 0, .int .i64 0, .int .i64 0] 24) = W at *
  refine H.out.mono ?_
  rintro e w1 ⟨v, rfl, ho, hb1⟩
  have HO := Lib.hid (ho.weaken SZ); clear ho
  go_wp2_with fail
  refine (HR.out _ _ _ HO.out).mono ?_
  rintro e w2 ⟨a, c, rfl, hs, hb2⟩
  have hb2' := below_tr hb1 hb2
  have HS := Lib.hid (hs.but (S := (· = w.heap.size)) (((But.put w2 w.heap.size 0 (.slice a l.length c)).trans (But.put _ w.heap.size 1 (.int .i64 nx))).trans (But.put _ w.heap.size 2 (.int .i64 fr))) (fun g o n' c' e h0 => hs.far HP.out (z0.below hb2') e h0))
  have z2 := z0.below hb2'
  have x0 : w2.cell? ⟨w.heap.size, 0, none⟩ = some (.slice none 0 0) := z2.cell 0 rfl
  have x1 : w2.cell? ⟨w.heap.size, 1, none⟩ = some (.int .i64 0) := z2.cell 1 rfl
  have x2 : w2.cell? ⟨w.heap.size, 2, none⟩ = some (.int .i64 0) := z2.cell 2 rfl
  have y0 := z2.frozen 0; have y1 := z2.frozen 1; have y2 := z2.frozen 2
  have HB2 := Lib.hid (below_tr HB.out hb2'); clear hb1 hb2 hb2' z0 z2
  go_wp2_with fail
  refine bodyPost_ret (v := .tuple #[.agg #[.slice a l.length c, .int .i64 nx, .int .i64 fr], .int .i64 0]) (by simp [results, Tryd.results14, go_sem, x0, x1, x2]) rfl ⟨a, c, rfl, HS.out, ?_⟩
  exact ((HB2.out.setCell (p := ⟨w.heap.size, 0, none⟩) (Nat.le_refl _) _).setCell (p := ⟨w.heap.size, 1, none⟩) (Nat.le_refl _) _).setCell (p := ⟨w.heap.size, 2, none⟩) (Nat.le_refl _) _
end Go.Proofs.YtefndmjimmbhnaaDoor
end
