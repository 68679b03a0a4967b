/- Contracts of the filter's made, Places and May. Conditions: room. Contracts of slices.IndexFunc and ContainsFunc at numbers, of the filter's May, Bytes and New. Conditions: room. Contracts of the filter's New, Add and Bytes. Conditions: room. -/
import Derived.Test.YtplghaoflmaadaaGreatDoorZ03
import Derived.Test.YtplghaoflmaadaaGreatDoorZ09
import Derived.Test.YtplghaoflmaadaaGreatDoorZ05
import Derived.Test.YtplghaoflmaadaaGreatDoorZ10
import Derived.Laws.MakeOwn
import Derived.Lib.BufferOwn
section
set_option linter.unusedVariables false
set_option linter.unusedSimpArgs false
set_option maxRecDepth 50000
namespace Go.Proofs.YtplghaoflmaadaaGreatDoor
open Go.RowKit

/-- A filter (a struct of type T) in old memory: its number of places, its bits. -/
structure FlT (T : TypeId) (B : Nat) (W : World) (g k : Nat) (bits : List UInt8) : Prop where
  ex : ∃ v, Blk W g T #[.int .i64 (k : Int), v] ∧ SlB B W v bits
  hg : g < B
  k0 : 0 < k
  k1 : k ≤ 16
  b0 : 0 < bits.length
  b1 : bits.length ≤ 1000000
section
variable {T : TypeId}
theorem FlT.below {B : Nat} {w w1 : World} {g k : Nat} {bits : List UInt8} (h : FlT T B w g k bits) (hb : Below B w w1) : FlT T B w1 g k bits := by
  obtain ⟨v, h1, h2⟩ := h.ex
  exact ⟨⟨v, h1.under hb h.hg, h2.below hb⟩, h.hg, h.k0, h.k1, h.b0, h.b1⟩
theorem FlT.up {B B' : Nat} {w : World} {g k : Nat} {bits : List UInt8} (h : FlT T B w g k bits) (hB : B ≤ B') : FlT T B' w g k bits := by
  obtain ⟨v, h1, h2⟩ := h.ex
  exact ⟨⟨v, h1, h2.up hB⟩, Nat.lt_of_lt_of_le h.hg hB, h.k0, h.k1, h.b0, h.b1⟩
theorem FlT.keep {w w1 : World} {g k : Nat} {bits : List UInt8} (h : FlT T w.heap.size w g k bits) (hb : Below w.heap.size w w1) : FlT T w1.heap.size w1 g k bits := (h.below hb).up hb.size
end
abbrev FlR := FlT 124
theorem made_yes {B : Nat} {w : World} {g k : Nat} {bits : List UInt8} (h : FlR B w g k bits) : Calls Tryz.prog 85 #[.pointer (some ⟨g, 0, none⟩)] w fun e w' => e = .returned (.bool true) ∧ w = w' := by
  obtain ⟨v, hb, _⟩ := h.ex
  have c0 := hb.cell 0 rfl
  have hk := h.k0
  obtain ⟨m, rfl⟩ : ∃ m, k = m + 1 := ⟨k - 1, by omega⟩
  have q : (0 : Int) < (m : Int) + 1 := by omega
  clear h hb hk
  go_enter Tryz.func85, Tryz.ntmps85
  go_wp2_with fail
  go_ret
  exact ⟨rfl, rfl⟩
theorem mmSum_range (l : List UInt8) (s : Int) : (0 ≤ (mmSum l s).1 ∧ (mmSum l s).1 < 18446744073709551616) ∧ (0 ≤ (mmSum l s).2 ∧ (mmSum l s).2 < 18446744073709551616) := ⟨w64_range _, w64_range _⟩
theorem place_any (i : Nat) (h g : Int) (gh gg gf gp k : Nat) (bits : List UInt8) (B : Nat) (w : World) (h0 : w.cell? ⟨gh, 0, none⟩ = some (.int .u64 h)) (h1 : w.cell? ⟨gg, 0, none⟩ = some (.int .u64 g)) (h2 : w.cell? ⟨gp, 0, none⟩ = some (.pointer (some ⟨gf, 0, none⟩))) (hf : FlR B w gf k bits) (hi : i < 16) :
    Calls Tryz.prog 124 #[.int .i64 (i : Int), .pointer (some ⟨gh, 0, none⟩), .pointer (some ⟨gg, 0, none⟩), .pointer (some ⟨gp, 0, none⟩)] w fun e w' => e = .returned (.int .i64 (placeI (h, g) bits.length i : Int)) ∧ Below w.heap.size w w' := by
  have b0 := hf.b0; have b1 := hf.b1
  obtain ⟨v, hb, hs⟩ := hf.ex
  have c1 := hb.cell 1 rfl
  obtain ⟨a, c, rfl, hc, -⟩ := hs.ex
  have hp : (IntKind.u64.wrap (h + IntKind.u64.wrap ((i : Int) * g)) % ((8 * bits.length : Nat) : Int)) = (placeI (h, g) bits.length i : Int) := by
    unfold placeI
    simp only
    have := Int.emod_nonneg (IntKind.u64.wrap (h + IntKind.u64.wrap ((i : Int) * g))) (show ((8 * bits.length : Nat) : Int) ≠ 0 by omega)
    omega
  have hlt := placesL_lt (i + 1) bits.length [] b0
  have HP := Lib.hid hp
  generalize hn : bits.length = n at *
  obtain ⟨m, rfl⟩ : ∃ m, n = m + 1 := ⟨n - 1, by omega⟩
  clear hf hb hs hp hn hlt
  go_enter Tryz.func124, Tryz.ntmps124
  go_wp2_with fail
  go_quiet (fail)
  go_wp2_with fail
  go_ret
  refine ⟨ret_i ?_, below_drewN (Below.refl _ _) _⟩
  have hr := w64_range (h + IntKind.u64.wrap ((i : Int) * g))
  have HP1 := HP.out
  have hlt : (placeI (h, g) (m + 1) i : Int) < 8 * ((m : Int) + 1) := by
    rw [← HP1]
    have := Int.emod_lt_of_pos (IntKind.u64.wrap (h + IntKind.u64.wrap ((i : Int) * g))) (show (0 : Int) < ((8 * (m + 1) : Nat) : Int) by omega)
    omega
  rw [Int.tmod_eq_emod_of_nonneg hr.1, show (8 * ((m : Int) + 1)) = ((8 * (m + 1) : Nat) : Int) by omega, HP1]
  unfold wrap64
  omega
theorem made_full {α : Type} (E : El α) (z0 : α) (hs : E.size = 1) (hz : E.enc z0 = [E.z]) (hz1 : E.z.cells = #[E.z]) (w : World) (n : Nat) (hb : E.bytes * n ≤ 281474976710656) (h63 : n ≤ 9223372036854775807) (kl : IntKind) :
    (Instr.makeSlice E.st (.int kl (n : Int)) (.int kl (n : Int))).run Tryz.prog w = .ok (.slice (some ⟨w.heap.size, 0, none⟩) n n) (w.alloc (.cells (Array.replicate n E.z) E.t)) ∧ OwnX E (w.alloc (.cells (Array.replicate n E.z) E.t)) w.heap.size (.slice (some ⟨w.heap.size, 0, none⟩) n n) (List.replicate n z0) := by
  obtain ⟨i0, hi, hz0, hz2, hz3⟩ := info_parts E.info
  have hr := run_make (P := Tryz.prog) w E.st E.t i0 E.z E.und hi hz0 kl kl (n : Int) (n : Int) (by omega) (Int.le_refl _) (by rw [hz3]; have h : ((E.bytes * n : Nat) : Int) ≤ 281474976710656 := (by omega); rwa [Int.natCast_mul] at h) (by omega)
  rw [Int.toNat_natCast, hz2, hs, Nat.mul_one, hz1] at hr
  have e : madeCells #[E.z] n = Array.replicate n E.z := by
    unfold madeCells
    apply Array.ext
    · simp
    · intro j h1 h2; simp [Nat.mod_one]
  rw [e] at hr
  refine ⟨hr, ?_⟩
  have h := World.ownsRow_lit (base := w.heap.size) (e := E.t) (size := E.size) w (Array.replicate n E.z) n (Nat.le_refl _) (by unfold maxLen; omega) (by rw [hs]; simp)
  unfold OwnX
  rw [List.length_replicate]
  have ec : E.cells (List.replicate n z0) = (Array.replicate n E.z).toList := by
    rw [Array.toList_replicate]
    clear hr e h h63 hb
    induction n with
    | zero => rfl
    | succ n ih => rw [List.replicate_succ, E.cells_cons, ih, hz, List.replicate_succ]; rfl
  rw [ec]
  exact h
/-- a number is stored -/
theorem OwnX.set1 {w : World} {base g n c : Nat} {l : List Int} (h : OwnX eI w base (.slice (some ⟨g, 0, none⟩) n c) l) (k : Nat) (hk : k < l.length) (x : Int) :
    OwnX eI (w.setCell ⟨g, k, none⟩ (.int .i64 x)) base (.slice (some ⟨g, 0, none⟩) n c) (l.set k x) := by
  have := (h.put k hk x).1
  have e : setW g w (k * eI.size) (eI.enc x) = w.setCell ⟨g, k, none⟩ (.int .i64 x) := by
    show (w.setCell ⟨g, k * 1, none⟩ (.int .i64 x)) = _
    rw [Nat.mul_one]
  rwa [e] at this
set_option maxHeartbeats 1000000 in
theorem Places_any (v : Value) (l : List UInt8) (g k : Nat) (bits : List UInt8) (w : World) (hf : FlR w.heap.size w g k bits) (hv : SlB w.heap.size w v l) (hl : l.length ≤ 10000000) :
    Calls Tryz.prog 103 #[.pointer (some ⟨g, 0, none⟩), v] w fun e w' => ∃ v', e = .returned v' ∧ OwnX eI w' w.heap.size v' ((placesL k bits.length l).map fun p : Nat => (p : Int)) ∧ Below w.heap.size w w' := by
  have HF := Lib.hid hf; have HV := Lib.hid hv
  have hmf : ∀ (fn : Fn) (first cap : Array Value) (w : World), (Instr.makeFunc fn first cap).run Tryz.prog w = .ok (.func fn first cap) w := fun _ _ _ _ => rfl
  have hk0 := hf.k0; have hk1 := hf.k1
  have HB1 := Lib.hid (below_alloc (Below.refl _ w) (.cells #[.pointer (some ⟨g, 0, none⟩)] 41))
  obtain ⟨⟨r1, r2⟩, r3, r4⟩ := mmSum_range l 0
  have HPL := Lib.hid (show placesL k bits.length l = (List.range k).map (placeI (mmSum l 0) bits.length) from rfl)
  have HS := Lib.hid (fun W (hb : Below w.heap.size w W) => mmSum_any v l 0 W ((hv.keep hb)) hl (by omega) (by omega))
  generalize hmm : mmSum l 0 = mm at *
  clear hf hv hmm
  obtain ⟨m1, m2⟩ := mm
  simp only at r1 r2 r3 r4
  go_enter Tryz.func103, Tryz.ntmps103
  go_wp2_with fail
  refine (made_yes (HF.out.keep HB1.out)).mono ?_
  rintro e w' ⟨rfl, rfl⟩
  go_wp2_with fail
  refine (HS.out _ HB1.out).mono ?_
  rintro e w2 ⟨rfl, hb2⟩
  have HB2 := Lib.hid (HB1.out.trans (hb2.mono HB1.out.size))
  have c0 := cell_keep hb2 (show (w.alloc (.cells #[.pointer (some ⟨g, 0, none⟩)] 41)).cell? ⟨w.heap.size, 0, none⟩ = some (.pointer (some ⟨g, 0, none⟩)) by simp)
  have hlt0 : w.heap.size < w2.heap.size := by have := hb2.size; simp at this; omega
  clear hb2
  have hf2 := (HF.out.below HB2.out).ex
  obtain ⟨vf, hfb, -⟩ := hf2
  have kf := hfb.cell 0 rfl; have hgl := hfb.lt
  clear hfb
  have hmk1 : ∀ W, (Instr.makeSlice 85 (.int .i64 (k : Int)) (.int .i64 (k : Int))).run Tryz.prog W = .ok (.slice (some ⟨W.heap.size, 0, none⟩) k k) (W.alloc (.cells (Array.replicate k (.int .i64 0)) 3)) := fun W => (made_full eI 0 rfl rfl rfl W k (by show 8 * k ≤ _; omega) (by omega) .i64).1
  have hst : ∃ W3, W3 = (w2.alloc (.cells #[.int .u64 m1] 84)).alloc (.cells #[.int .u64 m2] 84) := ⟨_, rfl⟩
  obtain ⟨W3, hW3⟩ := hst
  have hs3 : W3.heap.size = w2.heap.size + 1 + 1 := by rw [hW3]; simp
  have hb3 : Below w2.heap.size w2 W3 := by rw [hW3]; exact below_alloc (below_alloc (Below.refl _ _) _) _
  have d0 : W3.cell? ⟨w2.heap.size, 0, none⟩ = some (.int .u64 m1) := by rw [hW3]; exact ((Blk.new w2 _ _).alloc _).cell 0 rfl
  have d1 : W3.cell? ⟨w2.heap.size + 1, 0, none⟩ = some (.int .u64 m2) := by
    rw [hW3]
    have := (Blk.new (w2.alloc (.cells #[.int .u64 m1] 84)) 84 #[.int .u64 m2]).cell 0 rfl
    simp
  have d2 := cell_keep hb3 c0
  have hown := (made_full eI 0 rfl rfl rfl W3 k (by show 8 * k ≤ _; omega) (by omega) .i64).2
  have hkf := cell_keep hb3 kf
  have ST : Hid (OwnX eI (W3.alloc (.cells (Array.replicate k (.int .i64 0)) 3)) W3.heap.size (.slice (some ⟨W3.heap.size, 0, none⟩) k k) (List.replicate k 0) ∧ Below W3.heap.size W3 (W3.alloc (.cells (Array.replicate k (.int .i64 0)) 3))) := Lib.hid ⟨hown, below_alloc (Below.refl _ _) _⟩
  have CL := Lib.hid (fun W (hW : Below W3.heap.size W3 W) (i : Nat) (hi : i < 16) => place_any i m1 m2 w2.heap.size (w2.heap.size + 1) g w.heap.size k bits w.heap.size W (cell_keep hW d0) (cell_keep hW d1) (cell_keep hW d2) ((HF.out.below HB2.out).below ((hb3.mono HB2.out.size).trans (hW.mono (by rw [hs3]; have := HB2.out.size; omega)))) hi)
  have HB3 := Lib.hid (HB2.out.trans (hb3.mono HB2.out.size))
  have KF := Lib.hid (fun W (hW : Below W3.heap.size W3 W) => cell_keep hW hkf)
  have HW3 := Lib.hid hW3; have HS3 := Lib.hid hs3
  rw [hs3, hW3] at ST
  have hlt1 : w.heap.size < w2.heap.size + 1 := by omega
  have hlt2 : w.heap.size < w2.heap.size + 1 + 1 := by omega
  have hgl1 : g < w2.heap.size + 1 := by omega
  have hgl2 : g < w2.heap.size + 1 + 1 := by omega
  clear hown hkf d0 d1 d2 hb3 hs3 hW3
  go_wp2_with fail

  go_loopw [28] (fun v28 wr => ∃ (i : Nat) (cur : List Int), v28 = .int .i64 (i : Int) ∧ i ≤ k ∧ cur.length = k ∧ Hid (cur.take i = ((List.range k).map fun j => (placeI (m1, m2) bits.length j : Int)).take i) ∧ OwnX eI wr (w2.heap.size + 1 + 1) (.slice (some ⟨w2.heap.size + 1 + 1, 0, none⟩) k k) cur ∧ Below (w2.heap.size + 1 + 1) W3 wr) (fun v28 _ => k - (intOf v28).toNat)
  case atStart => exact ⟨0, List.replicate k 0, rfl, Nat.zero_le _, by simp, Lib.hid (by simp), ST.out.1, by rw [HW3.out]; exact ST.out.2⟩
  case round =>
    clear ST
    obtain ⟨i, cur, rfl, hi, hcl, HC, hO, hB⟩ := hrel
    have hB' : Below W3.heap.size W3 wr := by rw [HS3.out]; exact hB
    have kk := KF.out wr hB'
    have HO := Lib.hid hO; have HB := Lib.hid hB
    clear hO hB
    by_cases hlt : i < k
    · have hz : (i : Int) < (k : Int) := by omega
      have C := Lib.hid (CL.out wr hB' i (by omega))
      clear hB'
      go_wp2_with fail
      refine C.out.mono ?_
      rintro e w5 ⟨rfl, hb5⟩
      have hO5 := HO.out.below hb5
      have hlen : i < cur.length := by omega
      have f5 := hO5.frozen i
      have c5 : w5.cell? ⟨w2.heap.size + 1 + 1, i, none⟩ = some (.int .i64 cur[i]) := by
        have := hO5.cell i 0 hlen (u := .int .i64 cur[i]) rfl
        rwa [show i * eI.size + 0 = i from Nat.mul_one i] at this
      have hO6 := hO5.set1 i hlen (placeI (m1, m2) bits.length i : Int)
      have hB6 : Below (w2.heap.size + 1 + 1) W3 (w5.setCell ⟨w2.heap.size + 1 + 1, i, none⟩ (.int .i64 (placeI (m1, m2) bits.length i : Int))) :=
        (HB.out.trans (hb5.mono (by have := HB.out.size; rw [HS3.out] at this; exact this))).setCell (p := ⟨w2.heap.size + 1 + 1, i, none⟩) (Nat.le_refl _) _
      have hC6 : (cur.set i (placeI (m1, m2) bits.length i : Int)).take (i + 1) = ((List.range k).map fun j => (placeI (m1, m2) bits.length j : Int)).take (i + 1) := by
        rw [List.take_succ_eq_append_getElem (by rw [List.length_set]; exact hlen), List.take_succ_eq_append_getElem (by simp; exact hlt), List.take_set_of_le (Nat.le_refl _), HC.out]
        simp
      have HO6 := Lib.hid hO6; have HB6 := Lib.hid hB6; have HC6 := Lib.hid hC6
      have hcap : (i : Int) < (k : Int) := hz
      clear hO5 hO6 hB6 hC6 hb5 HO HB HC C
      go_wp2_with fail
      go_roundw
      case rel => exact ⟨i + 1, _, by go_num, by omega, by rw [List.length_set]; exact hcl, HC6, HO6.out, HB6.out⟩
      case measure => (first | (simp [intOf]; done) | (simp [intOf]; omega))
    · have hz : ¬ (i : Int) < (k : Int) := by omega
      have hcur : cur = (placesL k bits.length l).map fun p : Nat => (p : Int) := by
        have h1 := HC.out
        rw [List.take_of_length_le (by omega), List.take_of_length_le (by simp; omega)] at h1
        rw [h1, HPL.out, List.map_map]
        rfl
      have HCUR := Lib.hid hcur
      clear hcur
      go_wp2_with fail
      go_ret
      refine ⟨_, rfl, ?_, ?_⟩
      · rw [← HCUR.out]
        exact HO.out.weaken (by have := HB2.out.size; omega)
      · exact HB3.out.trans (hB'.mono (by rw [HS3.out]; have := HB2.out.size; omega))
end Go.Proofs.YtplghaoflmaadaaGreatDoor
end

section
set_option linter.unusedVariables false
set_option linter.unusedSimpArgs false
set_option maxRecDepth 50000
namespace Go.Proofs.YtplghaoflmaadaaGreatDoor
open Go.RowKit

/-- a function on numbers that answers b, in every world that w0 (of B blocks) grows into -/
def AsksI (f : Nat) (caps : Array Value) (B : Nat) (w0 : World) (L : List Int) (b : Int → Bool) : Prop :=
  ∀ W, Below B w0 W → ∀ x ∈ L, Calls Tryz.prog f (#[.int .i64 x] ++ caps) W fun e w' => e = .returned (.bool (b x)) ∧ Below W.heap.size W w'
def IdxI (L : List Int) (b : Int → Bool) (r : Int) : Prop := (r = -1 ∧ ∀ x ∈ L, b x = false) ∨ ∃ k : Nat, ∃ h : k < L.length, r = k ∧ b L[k] = true ∧ ∀ x ∈ L.take k, b x = false
set_option maxHeartbeats 1000000 in
theorem idxI_any (f : Nat) (caps : Array Value) (eg : ∀ args w, (callFunc f args).run Tryz.prog w = .ok (.enter f args) w) (B : Nat) (w0 : World) (L : List Int) (b : Int → Bool) (v : Value) (w : World) (GA : AsksI f caps B w0 L b) (hv : SlX eI w.heap.size w v L) (hB : Below B w0 w) (hBs : B ≤ w.heap.size) (hl : L.length ≤ 1000000000) :
    Calls Tryz.prog 122 #[v, .func (.func f) #[] caps] w fun e w' => ∃ r, e = .returned (.int .i64 r) ∧ IdxI L b r ∧ Below w.heap.size w w' := by
  have HV := Lib.hid hv
  obtain ⟨a, cap, rfl, hc, hx⟩ := hv.ex
  have HX := Lib.hid hx; clear hx hv
  have GH := Lib.hid GA; have HB := Lib.hid hB
  clear GA hB
  go_enter Tryz.func122, Tryz.ntmps122
  go_wp2_with fail
  go_loopw [5, 8] (fun _ v8 wr => ∃ i : Nat, v8 = .int .i64 (i : Int) ∧ i ≤ L.length ∧ Hid (∀ x ∈ L.take i, b x = false) ∧ Below w.heap.size w wr) (fun _ v8 _ => L.length - (intOf v8).toNat)
  case atStart => exact ⟨0, rfl, by omega, Lib.hid (by simp), Below.refl _ _⟩
  case round =>
    obtain ⟨i, rfl, hi, HN, hb⟩ := hrel
    have HBw := Lib.hid hb; clear hb
    by_cases hlt : i < L.length
    · have hz : (i : Int) < (L.length : Int) := by omega
      obtain ⟨gl, o, rfl, hgl2, _⟩ := HX.out (by omega)
      have c0 : wr.cell? ⟨gl, o + i, none⟩ = some (.int .i64 L[i]) := by
        have := (HV.out.below HBw.out).cell i 0 hlt (u := .int .i64 L[i]) rfl
        rwa [show o + i * eI.size + 0 = o + i from by show o + i * 1 + 0 = _; omega] at this
      have GI := Lib.hid (fun W hW => GH.out W hW L[i] (List.getElem_mem hlt))
      have YES := Lib.hid (fun (h : b L[i] = true) => show IdxI L b (i : Int) from .inr ⟨i, hlt, rfl, h, HN.out⟩)
      have NO := Lib.hid (fun (h : b L[i] = false) => show ∀ x ∈ L.take (i + 1), b x = false by
        rw [List.take_succ_eq_append_getElem hlt]
        intro x hx
        rcases List.mem_append.1 hx with hx | hx
        · exact HN.out x hx
        · rw [List.mem_singleton.1 hx]; exact h)
      generalize b L[i] = bi at *
      generalize L[i] = x at *
      have CALL := Lib.hid (GI.out wr (Below.trans HB.out (Below.mono HBw.out hBs)))
      go_wp2_with fail
      refine CALL.out.mono ?_
      rintro e w1 ⟨rfl, hb⟩
      have HB1 := Lib.hid (below_tr HBw.out hb); clear hb c0
      cases bi with
      | true =>
        go_wp2_with fail
        go_ret
        exact ⟨_, rfl, YES.out (by trivial), HB1.out⟩
      | false =>
        have N := Lib.hid (NO.out (by trivial))
        go_wp2_with fail
        exact ⟨⟨i + 1, by first | rfl | go_num, by omega, N, HB1.out⟩, by simp [intOf]; omega⟩
    · have hz : ¬ (i : Int) < (L.length : Int) := by omega
      have e : L.take i = L := List.take_of_length_le (by omega)
      have hn := HN.out
      rw [e] at hn
      have FIN := Lib.hid (show IdxI L b (-1) from .inl ⟨rfl, hn⟩)
      clear hn e HN
      go_wp2_with fail
      go_ret
      exact ⟨_, rfl, FIN.out, HBw.out⟩
theorem hasI_any (f : Nat) (caps : Array Value) (eg : ∀ args w, (callFunc f args).run Tryz.prog w = .ok (.enter f args) w) (B : Nat) (w0 : World) (L : List Int) (b : Int → Bool) (v : Value) (w : World) (GA : AsksI f caps B w0 L b) (hv : SlX eI w.heap.size w v L) (hB : Below B w0 w) (hBs : B ≤ w.heap.size) (hl : L.length ≤ 1000000000) :
    Calls Tryz.prog 102 #[v, .func (.func f) #[] caps] w fun e w' => e = .returned (.bool (L.any b)) ∧ Below w.heap.size w w' := by
  have C := Lib.hid (idxI_any f caps eg B w0 L b v w GA hv hB hBs hl)
  clear GA hv hB
  go_enter Tryz.func102, Tryz.ntmps102
  go_wp2_with fail
  refine C.out.mono ?_
  rintro e w1 ⟨r, rfl, hr, hb⟩
  have HB := Lib.hid hb; have HR := Lib.hid hr
  clear hb hr
  go_wp2_with fail
  go_ret
  refine ⟨ret_b ?_, HB.out⟩
  rcases HR.out with ⟨rfl, h⟩ | ⟨k, hk, rfl, h1, _⟩
  · have : L.any b = false := by rw [List.any_eq_false]; intro x hx; rw [h x hx]; simp
    rw [this]; decide
  · have : L.any b = true := by rw [List.any_eq_true]; exact ⟨_, List.getElem_mem hk, h1⟩
    rw [this]; simp
theorem and8_1 (u : Nat) (h : u < 256) : Go.bits .and .u8 (u : Int) 1 = ((u % 2 : Nat) : Int) := by
  have e : (BitVec.ofInt 8 (u : Int) &&& BitVec.ofInt 8 1).toNat = u % 2 := by
    rw [show BitVec.ofInt 8 1 = 1#8 from by decide, BitVec.toNat_and, BitVec.ofInt_natCast, BitVec.toNat_ofNat, Nat.mod_eq_of_lt (by omega)]
    exact Nat.and_one_is_mod u
  show IntKind.wrap .u8 ((BitVec.ofInt 8 (u : Int) &&& BitVec.ofInt 8 1).toNat : Int) = _
  rw [e, IntKind.wrap_u8]
  omega
theorem unset_any (p : Nat) (gp gf k : Nat) (bits : List UInt8) (B : Nat) (w : World) (h2 : w.cell? ⟨gp, 0, none⟩ = some (.pointer (some ⟨gf, 0, none⟩))) (hf : FlR B w gf k bits) (hp : p < 8 * bits.length) :
    Calls Tryz.prog 101 #[.int .i64 (p : Int), .pointer (some ⟨gp, 0, none⟩)] w fun e w' => e = .returned (.bool (!hasP bits p)) ∧ w = w' := by
  obtain ⟨v, hb, hs⟩ := hf.ex
  have b1 := hf.b1
  have c1 := hb.cell 1 rfl
  obtain ⟨a, c, rfl, hc, hx⟩ := hs.ex
  obtain ⟨gb, o, rfl, hgb, hcell⟩ := hx hf.b0
  obtain ⟨q, hq⟩ : ∃ q : Nat, (p : Int) / 8 = (q : Int) := ⟨p / 8, by omega⟩
  obtain ⟨r, hr⟩ : ∃ r : Nat, (p : Int) % 8 = (r : Int) := ⟨p % 8, by omega⟩
  have hq' : p / 8 = q := by omega
  have hr' : p % 8 = r := by omega
  have hql : q < bits.length := by omega
  have c2 := hcell q hql
  have hgd : bits.getD q 0 = bits[q] := by rw [List.getD_eq_getElem?_getD, List.getElem?_eq_getElem hql]; rfl
  have HH := Lib.hid (show hasP bits p = bits[q].toNat.testBit r by unfold hasP hasB; rw [hq', hr', hgd])
  have hqi : (q : Int) < (bits.length : Int) := by omega
  have hxl := bits[q].toNat_lt
  have hr8 : (r : Int) < 8 := by omega
  clear hb hs hx hcell hq' hr' hgd hf
  generalize bits[q].toNat = x at *
  generalize bits.length = n at *
  go_enter Tryz.func101, Tryz.ntmps101
  go_wp2_with fail
  go_ret
  refine ⟨ret_b ?_, rfl⟩
  rw [HH.out]
  have e1 : (x : Int) / 2 ^ r = ((x / 2 ^ r : Nat) : Int) := by
    rw [Int.natCast_ediv, Int.natCast_pow]; rfl
  have e2 : Go.bits .and .u8 ((x / 2 ^ r : Nat) : Int) 1 = ((x / 2 ^ r % 2 : Nat) : Int) := and8_1 _ (Nat.lt_of_le_of_lt (Nat.div_le_self _ _) hxl)
  rw [e1, e2, Nat.testBit_eq_decide_div_mod_eq]
  rcases Nat.mod_two_eq_zero_or_one (x / 2 ^ r) with h | h
  · rw [h]; rfl
  · rw [h]; rfl
theorem May_any (v : Value) (l : List UInt8) (g k : Nat) (bits : List UInt8) (w : World) (hf : FlR w.heap.size w g k bits) (hv : SlB w.heap.size w v l) (hl : l.length ≤ 10000000) :
    Calls Tryz.prog 61 #[.pointer (some ⟨g, 0, none⟩), v] w fun e w' => e = .returned (.bool (mayF k bits l)) ∧ Below w.heap.size w w' := by
  have HF := Lib.hid hf; have HV := Lib.hid hv
  have hmf : ∀ (fn : Fn) (first cap : Array Value) (w : World), (Instr.makeFunc fn first cap).run Tryz.prog w = .ok (.func fn first cap) w := fun _ _ _ _ => rfl
  have HB1 := Lib.hid (below_alloc (Below.refl _ w) (.cells #[.pointer (some ⟨g, 0, none⟩)] 41))
  clear hf hv
  go_enter Tryz.func61, Tryz.ntmps61
  go_wp2_with fail
  refine (made_yes (HF.out.keep HB1.out)).mono ?_
  rintro e w' ⟨rfl, rfl⟩
  go_wp2_with fail
  refine (Places_any v l g k bits _ (HF.out.keep HB1.out) (HV.out.keep HB1.out) hl).mono ?_
  rintro e w2 ⟨v2, rfl, hO2, hb2⟩
  have HB2 := Lib.hid (HB1.out.trans (hb2.mono HB1.out.size))
  have c0 := cell_keep hb2 (show (w.alloc (.cells #[.pointer (some ⟨g, 0, none⟩)] 41)).cell? ⟨w.heap.size, 0, none⟩ = some (.pointer (some ⟨g, 0, none⟩)) by simp)
  have A := Lib.hid (show AsksI 101 #[.pointer (some ⟨w.heap.size, 0, none⟩)] w2.heap.size w2 ((placesL k bits.length l).map fun p : Nat => (p : Int)) (fun x => !hasP bits x.toNat) from by
    intro W hW x hx
    rw [List.mem_map] at hx
    obtain ⟨p, hp, rfl⟩ := hx
    simp only [Int.toNat_natCast]
    have hf2 := (HF.out.below HB2.out).below (hW.mono HB2.out.size)
    refine (unset_any p w.heap.size g k bits w.heap.size W (cell_keep hW c0) hf2 (placesL_lt k bits.length l HF.out.b0 p hp)).mono ?_
    rintro e w' ⟨rfl, rfl⟩
    exact ⟨rfl, Below.refl _ _⟩)
  have hlen : (placesL k bits.length l).length ≤ 16 := by rw [placesL_length]; exact HF.out.k1
  have C := Lib.hid (hasI_any 101 #[.pointer (some ⟨w.heap.size, 0, none⟩)] (enters_of Tryz.func101 (by kernel_rfl) rfl) w2.heap.size w2 _ _ v2 w2 A.out hO2.sl (Below.refl _ _) (Nat.le_refl _) (by rw [List.length_map]; omega))
  clear hO2 hb2 c0 A
  go_wp2_with fail
  refine C.out.mono ?_
  rintro e w3 ⟨rfl, hb3⟩
  have HB3 := Lib.hid (HB2.out.trans (hb3.mono HB2.out.size))
  clear hb3
  have hres : (!((placesL k bits.length l).map fun p : Nat => (p : Int)).any fun x => !hasP bits x.toNat) = mayF k bits l := by
    unfold mayF
    rw [List.any_map, Bool.eq_iff_iff]
    simp
  have HRES := Lib.hid hres
  clear hres
  generalize (((placesL k bits.length l).map fun p : Nat => (p : Int)).any fun x => !hasP bits x.toNat) = r at *
  go_wp2_with fail
  go_ret
  exact ⟨ret_b HRES.out, HB3.out⟩
end Go.Proofs.YtplghaoflmaadaaGreatDoor
end

section
set_option linter.unusedVariables false
set_option linter.unusedSimpArgs false
set_option maxRecDepth 50000
namespace Go.Proofs.YtplghaoflmaadaaGreatDoor
open Go.RowKit

/-- A filter that was made here: its bits may be written. -/
structure FlU (T : TypeId) (base : Nat) (W : World) (g k : Nat) (bits : List UInt8) : Prop where
  ex : ∃ gb cb, Blk W g T #[.int .i64 (k : Int), .slice (some ⟨gb, 0, none⟩) bits.length cb] ∧ OwnB W base (.slice (some ⟨gb, 0, none⟩) bits.length cb) bits
  hg : base ≤ g
  k0 : 0 < k
  k1 : k ≤ 16
  b0 : 0 < bits.length
  b1 : bits.length ≤ 1000000
section
variable {T : TypeId}
theorem FlU.r {base : Nat} {W : World} {g k : Nat} {bits : List UInt8} (h : FlU T base W g k bits) : FlT T W.heap.size W g k bits := by
  obtain ⟨gb, cb, h1, h2⟩ := h.ex
  exact ⟨⟨_, h1, h2.slB⟩, h1.lt, h.k0, h.k1, h.b0, h.b1⟩
theorem FlU.keep {base : Nat} {W W1 : World} {g k : Nat} {bits : List UInt8} (h : FlU T base W g k bits) (hb : Below W.heap.size W W1) : FlU T base W1 g k bits := by
  obtain ⟨gb, cb, h1, h2⟩ := h.ex
  exact ⟨⟨gb, cb, h1.below hb, h2.below hb⟩, h.hg, h.k0, h.k1, h.b0, h.b1⟩
end
abbrev FlO := FlU 124
/-- a byte is stored -/
theorem OwnB.set1 {w : World} {base g n c : Nat} {l : List UInt8} (h : OwnB w base (.slice (some ⟨g, 0, none⟩) n c) l) (k : Nat) (hk : k < l.length) (x : UInt8) :
    OwnB (w.setCell ⟨g, k, none⟩ (.int .u8 (x.toNat : Int))) base (.slice (some ⟨g, 0, none⟩) n c) (l.set k x) := by
  have := ((own_eB.2 h).put k hk x).1
  have e : setW g w (k * eB.size) (eB.enc x) = w.setCell ⟨g, k, none⟩ (.int .u8 (x.toNat : Int)) := by
    show (w.setCell ⟨g, k * 1, none⟩ (.int .u8 (x.toNat : Int))) = _
    rw [Nat.mul_one]
  rw [e] at this
  exact own_eB.1 this
theorem or8 (x r : Nat) (hx : x < 256) (hr : r < 8) : Go.bits .or .u8 (x : Int) ((2 ^ r : Nat) : Int) = ((setB (UInt8.ofNat x) r).toNat : Int) := by
  have h1 : 2 ^ r < 256 := Nat.pow_lt_pow_right (a := 2) (by decide) hr
  have e : (BitVec.ofInt 8 (x : Int) ||| BitVec.ofInt 8 ((2 ^ r : Nat) : Int)).toNat = x ||| 2 ^ r := by
    rw [BitVec.toNat_or, BitVec.ofInt_natCast, BitVec.ofInt_natCast, BitVec.toNat_ofNat, BitVec.toNat_ofNat, Nat.mod_eq_of_lt hx, Nat.mod_eq_of_lt h1]
  have h2 : x ||| 2 ^ r < 2 ^ 8 := Nat.or_lt_two_pow hx h1
  show IntKind.wrap .u8 ((BitVec.ofInt 8 (x : Int) ||| BitVec.ofInt 8 ((2 ^ r : Nat) : Int)).toNat : Int) = _
  rw [e, IntKind.wrap_u8]
  unfold setB
  rw [UInt8.toNat_ofNat', UInt8.toNat_ofNat', Nat.mod_eq_of_lt hx, Nat.mod_eq_of_lt h2]
  omega
set_option maxHeartbeats 1000000 in
theorem fAdd_any (v : Value) (l : List UInt8) (g k : Nat) (bits : List UInt8) (base : Nat) (w : World) (hf : FlO base w g k bits) (hv : SlB w.heap.size w v l) (hl : l.length ≤ 1000000) (hbase : base ≤ w.heap.size) :
    Calls Tryz.prog 84 #[.pointer (some ⟨g, 0, none⟩), v] w fun e w' => e = .returned (.tuple #[]) ∧ FlO base w' g k (addF k bits l) ∧ Below base w w' := by
  have C := Lib.hid (Places_any v l g k bits w hf.r hv (by omega))
  have HF := Lib.hid hf
  have hps := placesL_lt k bits.length l hf.b0
  have hk1 := hf.k1
  have hb1 := hf.b1
  have HA := Lib.hid (show addF k bits l = (placesL k bits.length l).foldl setP bits from rfl)
  have hplen : (placesL k bits.length l).length ≤ 16 := by rw [placesL_length]; exact hf.k1
  generalize placesL k bits.length l = ps at *
  clear hf hv
  go_enter Tryz.func84, Tryz.ntmps84
  go_wp2_with fail
  refine C.out.mono ?_
  rintro e w2 ⟨v2, rfl, hO2, hb2⟩
  have HF2 := Lib.hid (HF.out.keep hb2)
  have HB2 := Lib.hid (hb2.mono hbase : Below base w w2)
  have HO2 := Lib.hid hO2
  have hz2 := hb2.size
  obtain ⟨a, c, rfl, hc, hx⟩ := hO2.sl.ex
  have HX := Lib.hid hx
  rw [List.length_map] at hc
  clear hx hO2 hb2 C HF
  have HPS := Lib.hid hps
  clear hps
  rw [List.length_map] at HO2 HX ⊢
  go_wp2_with fail
  go_loopw [10] (fun v10 wr => ∃ i : Nat, v10 = .int .i64 (i : Int) ∧ i ≤ ps.length ∧ FlO base wr g k ((ps.take i).foldl setP bits) ∧ OwnX eI wr w.heap.size (.slice a ps.length c) (ps.map fun p : Nat => (p : Int)) ∧ Below base w wr) (fun v10 _ => ps.length - (intOf v10).toNat)
  case atStart => exact ⟨0, rfl, Nat.zero_le _, HF2.out, HO2.out, HB2.out⟩
  case round =>
    clear HF2 HO2 HB2
    obtain ⟨i, rfl, hi, hF, hO, hB⟩ := hrel
    have HB := Lib.hid hB; clear hB
    by_cases hlt : i < ps.length
    · have hz : (i : Int) < (ps.length : Int) := by omega
      obtain ⟨gl, o, rfl, hgl2, -⟩ := HX.out (by omega)
      have c0 : wr.cell? ⟨gl, o + i, none⟩ = some (.int .i64 (ps[i] : Int)) := by
        have hO' := hO.sl
        have := hO'.cell i 0 (by rw [List.length_map]; exact hlt) (u := .int .i64 (ps[i] : Int)) (by simp [eI])
        rwa [show o + i * eI.size + 0 = o + i from by show o + i * 1 + 0 = _; omega] at this
      have hcur : ((ps.take i).foldl setP bits).length = bits.length := setPs_length _ _
      have htk : (ps.take (i + 1)).foldl setP bits = setP ((ps.take i).foldl setP bits) ps[i] := by rw [List.take_succ_eq_append_getElem hlt, List.foldl_append]; rfl
      have hpl := HPS.out ps[i] (List.getElem_mem hlt)
      have HTK := Lib.hid htk; clear htk
      generalize (ps.take i).foldl setP bits = cur at *
      generalize ps[i] = p at *
      obtain ⟨gb, cb, hfb, hbo⟩ := hF.ex
      obtain ⟨q, hq⟩ : ∃ q : Nat, (p : Int) / 8 = (q : Int) := ⟨p / 8, by omega⟩
      obtain ⟨r, hr⟩ : ∃ r : Nat, (p : Int) % 8 = (r : Int) := ⟨p % 8, by omega⟩
      have hq' : p / 8 = q := by omega
      have hr' : p % 8 = r := by omega
      have hql : q < cur.length := by omega
      have c1 := hfb.cell 1 rfl
      have c2 : wr.cell? ⟨gb, q, none⟩ = some (.int .u8 (cur[q].toNat : Int)) := by
        have := (own_eB.2 hbo).cell q 0 hql (u := .int .u8 (cur[q].toNat : Int)) rfl
        rwa [show q * eB.size + 0 = q from by show q * 1 + 0 = q; omega] at this
      have f2 : wr.frozen? ⟨gb, q, none⟩ = false := (own_eB.2 hbo).frozen q
      have hgd : cur.getD q 0 = cur[q] := by rw [List.getD_eq_getElem?_getD, List.getElem?_eq_getElem hql]; rfl
      have hset : setP cur p = cur.set q (setB cur[q] r) := by unfold setP; rw [hq', hr', hgd]
      have hor := or8 cur[q].toNat r cur[q].toNat_lt (by omega)
      rw [UInt8.ofNat_toNat] at hor
      have hO1 := hbo.set1 q hql (setB cur[q] r)
      have hfb1 := hfb.far (p := ⟨gb, q, none⟩) (hfb.ne_own (own_eB.2 hbo) (by decide) |> fun h e => h (by rw [e]; rfl)) (.int .u8 ((setB cur[q] r).toNat : Int))
      have hOI := hO.grown (Lib.grownBy_setCell wr gb q (.int .u8 ((setB cur[q] r).toNat : Int))) (.inr (by
        intro e
        rcases hO.2 with ⟨h', _⟩ | ⟨g', cap', cur', h', _, hh, _⟩
        · cases h'
        · simp only [Value.slice.injEq, Option.some.injEq, Addr.mk.injEq, and_true] at h'
          obtain ⟨⟨rfl, rfl⟩, -, -⟩ := h'
          simp [Value.ownBlock] at e
          subst e
          rcases hbo.2 with ⟨h'', _⟩ | ⟨g2, cap2, cur2, h'', _, hh2, _⟩
          · simp at h''
          · simp only [Value.slice.injEq, Option.some.injEq, Addr.mk.injEq, and_true, true_and] at h''
            obtain ⟨rfl, -, -⟩ := h''
            rw [hh] at hh2; injection hh2 with hh2; injection hh2 with _ ht; exact absurd ht (by decide)))
      have hgbb : base ≤ gb := hbo.base gb rfl
      have HB1 := Lib.hid (HB.out.setCell (p := ⟨gb, q, none⟩) hgbb (.int .u8 ((setB cur[q] r).toNat : Int)))
      have HF1 : Hid (FlO base (wr.setCell ⟨gb, q, none⟩ (.int .u8 ((setB cur[q] r).toNat : Int))) g k (cur.set q (setB cur[q] r))) := Lib.hid ⟨⟨gb, cb, by rw [List.length_set]; exact hfb1, by rw [List.length_set]; exact hO1⟩, hF.hg, hF.k0, hF.k1, by rw [List.length_set]; exact hF.b0, by rw [List.length_set]; exact hF.b1⟩
      rw [hset] at HTK
      have HOI := Lib.hid hOI
      have hx2 : (setB cur[q] r).toNat < 256 := (setB cur[q] r).toNat_lt
      have hx1 : cur[q].toNat < 256 := cur[q].toNat_lt
      have hr8 : (r : Int) < 8 := by omega
      have hqi : (q : Int) < (cur.length : Int) := by omega
      have HWQ := Lib.hid (show IntKind.i64.wrap (q : Int) = (q : Int) by rw [IntKind.wrap_i64]; omega)
      have HWR := Lib.hid (show IntKind.i64.wrap (r : Int) = (r : Int) by rw [IntKind.wrap_i64]; omega)
      generalize hy : (setB cur[q] r).toNat = y at *
      generalize (setB cur[q] r) = sb at *
      generalize cur[q].toNat = x at *
      have hcc : cur.length ≤ cb := by
        rcases hbo.2 with ⟨h', _⟩ | ⟨g', cap', cur', h', _, _, h1, _⟩
        · simp at h'
        · simp only [Value.slice.injEq, Option.some.injEq, Addr.mk.injEq, and_true, true_and] at h'
          omega
      clear hfb hbo hO1 hfb1 hOI hF hO hq' hr' hgd hset hy hpl hql
      obtain ⟨n, hn⟩ : ∃ n, cur.length = n := ⟨_, rfl⟩
      rw [hn] at c1 hcc hqi
      clear hn hcur
      have HOR := Lib.hid hor; have HLT := Lib.hid hlt; clear hor hi hlt hgl2 hc hx1 hx2
      go_wp2_with fail
      have hq0 : (0 : Int) ≤ (q : Int) := by omega
      have hvy : Go.bits .or .u8 (x : Int) (2 ^ r % 256) = (y : Int) := by
        rw [← HOR.out]
        congr 1
        have : (2 : Nat) ^ r < 256 := Nat.pow_lt_pow_right (a := 2) (by decide) (show r < 8 by omega)
        rw [Int.natCast_pow]
        have h2 : ((2 ^ r : Nat) : Int) < 256 := by exact_mod_cast this
        rw [Int.natCast_pow] at h2
        exact Int.emod_eq_of_lt (Int.pow_nonneg (by decide)) h2
      have hwq : IntKind.i64.wrap (q : Int) = (q : Int) := HWQ.out
      have hwr : IntKind.i64.wrap (r : Int) = (r : Int) := HWR.out
      go_region
      clear hvy hwq hwr hq0 hq hr
      go_wp2_with fail
      go_roundw
      case rel => exact ⟨i + 1, by go_num, HLT.out, by rw [HTK.out]; exact HF1.out.keep (Below.drew (Below.refl _ _)), HOI.out.drew, Below.drew HB1.out⟩
      case measure => have := HLT.out; (first | (simp [intOf]; done) | (simp [intOf]; omega))
    · have hz : ¬ (i : Int) < (ps.length : Int) := by omega
      have hfin : (ps.take i).foldl setP bits = addF k bits l := by rw [List.take_of_length_le (by omega), HA.out]
      rw [hfin] at hF
      go_wp2_with fail
      go_end0
      exact ⟨rfl, hF, HB.out⟩
theorem fBytes_any (g k : Nat) (bits : List UInt8) (w : World) (hf : FlR w.heap.size w g k bits) :
    Calls Tryz.prog 41 #[.pointer (some ⟨g, 0, none⟩)] w (RetB w.heap.size w (putL k ++ putL bits.length ++ bits)) := by
  have HF := Lib.hid hf
  obtain ⟨v, hb, hs⟩ := hf.ex
  have c0 := hb.cell 0 rfl; have c1 := hb.cell 1 rfl
  have HS := Lib.hid hs
  obtain ⟨a, c, rfl, hc, -⟩ := hs.ex
  have hk1 := hf.k1; have hb1 := hf.b1
  have p1 := putL_len 9 k (by omega); have p2 := putL_len 9 bits.length (by omega)
  have P1 := Lib.hid (fun (W : World) (h : InW w W) => ((Put_any W.heap.size (.slice none 0 0) [] k W (OwnB.nil _ _) (by omega) (by simp)).mono (R' := fun e w' => ∃ v, e = .returned v ∧ OwnB w' w.heap.size v (putL k) ∧ Below W.heap.size W w') fun e w' ⟨v, a, b, c⟩ => ⟨v, a, b.weaken (Below.size h), c⟩))
  have P2 := Lib.hid (fun (W : World) (v : Value) (h : InW w W) (ho : OwnB W w.heap.size v (putL k)) => ((Put_any w.heap.size v (putL k) bits.length W ho (by omega) (by omega)).mono (R' := fun e w' => ∃ v, e = .returned v ∧ OwnB w' w.heap.size v (putL k ++ putL bits.length) ∧ Below W.heap.size W w') fun e w' ⟨v, a, b, c⟩ => ⟨v, a, b.weaken (Below.size h), c⟩))
  have HSx := Lib.hid (fun w' (h : InW w w') => show InW w w' ∧ w'.cell? ⟨g, 0, none⟩ = some (.int .i64 (k : Int)) ∧ w'.cell? ⟨g, 1, none⟩ = some (.slice a bits.length c) from ⟨h, cell_keep h c0, cell_keep h c1⟩)
  have hl2 : (putL k ++ putL bits.length).length + bits.length ≤ 140737488355328 := by simp; omega
  have hwk : IntKind.u64.wrap (k : Int) = (k : Int) := by rw [wu64]; omega
  have hwb : IntKind.u64.wrap (bits.length : Int) = (bits.length : Int) := by rw [wu64]; omega
  clear hf hb hs p1 p2
  go_enter Tryz.func41, Tryz.ntmps41
  go_wp2_with fail
  refine (made_yes HF.out).mono ?_
  rintro e w' ⟨rfl, rfl⟩
  go_wp2_with fail
  go_region_held3 (fun w' => InW w w' ∧ w'.cell? ⟨g, 0, none⟩ = some (.int .i64 (k : Int)) ∧ w'.cell? ⟨g, 1, none⟩ = some (.slice a bits.length c))
    (first | with_reducible assumption | exact HSx.out _ (InW.drew (InW.refl _)) | exact HSx.out _ (InW.tr (And.left (by with_reducible assumption)) (by with_reducible assumption)) | exact HSx.out _ (InW.grown (And.left (by with_reducible assumption)) (by with_reducible assumption) (fun j hj => OwnB.base hO3 j hj)))
    (first
      | (go_at_call_of 37 k; refine (P1.out _ (And.left (by with_reducible assumption))).mono ?_; rintro e w2 ⟨v2, rfl, hO2, hb2⟩)
      | (go_at_call 37; refine (P2.out _ _ (And.left (by with_reducible assumption)) hO2).mono ?_; rintro e w3 ⟨v3, rfl, hO3, hb3⟩)
      | (refine st_sl (by rfl) (.tmp 18) (.tmp 22) (by rfl) w.heap.size v3 (putL k ++ putL bits.length) w.heap.size (.slice a bits.length c) bits (by rfl) (by rfl) (HS.out.below (And.left (by with_reducible assumption : InW w w3 ∧ _))) hO3 (Below.size (And.left (by with_reducible assumption : InW w w3 ∧ _))) hl2 ?_; intro v4 w4 hO4 hg4))
  go_wp2_with fail
  go_ret
  exact ⟨_, rfl, hO4, And.left (a := InW w w4) (by with_reducible assumption)⟩
theorem blk_at {w : World} {g : Nat} (t : TypeId) (cs : Array Value) (hg : g = w.heap.size) : Blk (w.alloc (.cells cs t)) g t cs := by subst hg; exact Blk.new w t cs
theorem fNew_any (n : Nat) (w : World) (hn : n ≤ 20000) :
    Calls Tryz.prog 83 #[.int .i64 (n : Int), .int .i64 10] w fun e w' => ∃ g, e = .returned (.pointer (some ⟨g, 0, none⟩)) ∧ FlO w.heap.size w' g 7 (newF n) ∧ Below w.heap.size w w' := by
  have hm : (newF n).length = max ((n * 10 + 7) / 8) 1 := by simp [newF]
  have hz : newF n = List.replicate (newF n).length 0 := by simp [newF]
  have HM := Lib.hid hm; have HZ := Lib.hid hz
  have hml : (newF n).length ≤ 1000000 := by rw [hm]; omega
  have hm0 := newF_pos n
  generalize (newF n).length = m at *
  have hi : max (((n : Int) * 10 + 7) / 8) 1 = (m : Int) := by omega
  have hmk : ∀ W, (Instr.makeSlice 29 (.int .i64 (m : Int)) (.int .i64 (m : Int))).run Tryz.prog W = .ok (.slice (some ⟨W.heap.size, 0, none⟩) m m) (W.alloc (.cells (Array.replicate m (.int .u8 0)) 5)) := fun W => (made_full eB 0 rfl rfl rfl W m (by show 1 * m ≤ _; omega) (by omega) .i64).1
  have hown := (made_full eB 0 rfl rfl rfl w m (by show 1 * m ≤ _; omega) (by omega) .i64).2
  rw [← hz] at hown
  have HO := Lib.hid (own_eB.1 hown)
  clear hm hz hown
  go_enter Tryz.func83, Tryz.ntmps83
  go_wp2_with fail
  go_ret
  rw [show (min (max 7 1) 16 : Int) = ((7 : Nat) : Int) from by decide]
  have hlen : (newF n).length = m := by rw [HZ.out]; simp
  exact ⟨_, rfl, ⟨⟨w.heap.size, m, by rw [hlen]; exact blk_at _ _ (by simp), by rw [hlen]; exact HO.out.alloc _⟩, by omega, by decide, by decide, by rw [hlen]; exact hm0, by rw [hlen]; exact hml⟩, below_alloc (below_alloc (Below.refl _ _) _) _⟩
end Go.Proofs.YtplghaoflmaadaaGreatDoor
end
