/- Contract of hints' reader's hint. Condition: at most a million bytes. What hints' reader reads, in the plain words; contract of hints' Read. Condition: at most a million bytes. Contract of hints' Read. Condition: at most a million bytes. -/
import Derived.Test.YtefndmjimmbhnaaZ12
import Derived.Lib.ConvBytes
import Derived.Lib.SmallJoins
section
set_option linter.unusedVariables false
set_option linter.unusedSimpArgs false
set_option maxRecDepth 50000
namespace Go.Proofs.Ytefndmjimmbhnaa
open Go.RowKit

theorem But.setNew {S : Nat → Prop} {w W : World} (h : But S w W) {k : Nat} (hk : w.heap.size ≤ k) (i : Nat) (u : Value) : But S w (W.setCell ⟨k, i, none⟩ u) :=
  ⟨h.os, h.tape, h.output, by simpa [World.setCell] using h.size, fun j hj hn => (Below.heap_setCell W ⟨k, i, none⟩ u j (by show j ≠ k; omega)).trans (h.block j hj hn)⟩
/-- a text as bytes -/
theorem conv_text (w : World) (l : List UInt8) : ∃ a c w1, (convert 9 69 (sv l)).run Try.prog w = .ok (.slice a l.length c) w1 ∧ SlB w1.heap.size w1 (.slice a l.length c) l ∧ Below w.heap.size w w1 := by
  have e : (⟨l.toArray⟩ : ByteArray).size = l.length := by show l.toArray.size = _; simp
  have h := Lib.run_convert_string_bytes (P := Try.prog) w 9 69 5 ⟨l.toArray⟩ Try.underlying9 Try.underlying69 Try.underlying5
  rw [e] at h
  refine ⟨_, _, _, h, ⟨_, _, rfl, grownCap_ge w l.length 0 5, fun _ => ⟨w.heap.size, 0, rfl, by rw [Lib.bytesWorld_size]; omega, fun j hj => ?_⟩⟩, Joins.below_bytesWorld w.heap.size w 5 _ (Nat.le_refl _)⟩
  have := Lib.bytesWorld_cell w 5 ⟨l.toArray⟩ j (by rw [e]; exact hj)
  rw [Nat.zero_add, this]
  simp [List.getD, List.getElem?_eq_getElem hj]
/-- what hint reads, beside whether it is good -/
structure HR where
  a : Int
  b : Int
  c : Int
  t : List UInt8
  left : Option (List UInt8)
def hintR (s : Option (List UInt8)) : HR :=
  let q1 := numS s
  let q2 := numS q1.2
  let q3 := numS q2.2
  let t := (getT (q3.2.getD [])).getD ([], 0)
  ⟨zagI q1.1, zagI q2.1, zagI q3.1, t.1, passS q3.2 t.2⟩
def hintBad (s : Option (List UInt8)) (last : Int) : Bool := (hintR s).left.isNone || (rdCells (hintR s).t).isNone || decide ((hintR s).a ≤ last)
theorem getT_len (l : List UInt8) : ((getT l).getD ([], 0)).2 ≤ l.length ∧ ((getT l).getD ([], 0)).1.length ≤ l.length := by
  rcases getT_cases l with ⟨_, h⟩ | ⟨n, k, _, _, h1, h2, h⟩
  · rw [h]; simp
  · rw [h]
    split
    · rename_i hn
      simp only [Option.getD_some, List.length_take, List.length_drop]
      omega
    · simp
def HintPost (B g : Nat) (w : World) (s : Option (List UInt8)) (last : Int) (e : Ending) (w' : World) : Prop :=
  But (· = g) w w' ∧ ∃ q : Hq, e = .returned (.agg (hqEnc q).toArray) ∧ q.id = (hintR s).a ∧ q.nd = (hintR s).b ∧ q.tm = (hintR s).c ∧ OwnX eC w' w.heap.size q.val ((rdCells (hintR s).t).getD []) ∧
    ∃ a c, Blk w' g 97 #[.slice a ((hintR s).left.getD []).length c, .bool (hintBad s last)] ∧ SlB B w' (.slice a ((hintR s).left.getD []).length c) ((hintR s).left.getD [])
set_option maxHeartbeats 4000000 in
theorem hhint_any (B g : Nat) (s : Option (List UInt8)) (last : Int) (w : World) (h : SR B g w s) (hl : (s.getD []).length ≤ 1000000) :
    Calls Try.prog 42 #[.pointer (some ⟨g, 0, none⟩), .int .i64 last] w (HintPost B g w s last) := by
  have HBg := Lib.hid h.hb
  have hgw : g < w.heap.size := by obtain ⟨a, c, h1, _⟩ := h.ex; exact h1.lt
  have A0 := below_alloc (Below.refl _ w) (.cells #[.int .i64 0, .int .i64 0, .int .i64 0, .slice none 0 0] 64)
  have R0 := Blk.new w 64 #[.int .i64 0, .int .i64 0, .int .i64 0, .slice none 0 0]
  have N1 := Lib.hid (hint_int B g s _ (h.below A0) hl)
  have hl1 := numS_len s; have hl2 := numS_len (numS s).2; have hl3 := numS_len (numS (numS s).2).2
  have hRd : hintR s = ⟨zagI (numS s).1, zagI (numS (numS s).2).1, zagI (numS (numS (numS s).2).2).1, ((getT ((numS (numS (numS s).2).2).2.getD [])).getD ([], 0)).1, passS (numS (numS (numS s).2).2).2 ((getT ((numS (numS (numS s).2).2).2.getD [])).getD ([], 0)).2⟩ := rfl
  have N2 := Lib.hid (fun W h => hint_int B g (numS s).2 W h (by omega))
  have N3 := Lib.hid (fun W h => hint_int B g (numS (numS s).2).2 W h (by omega))
  generalize numS (numS (numS s).2).2 = q3 at *
  generalize numS (numS s).2 = q2 at *
  generalize numS s = q1 at *
  have hq3 : (q3.2.getD []).length ≤ 1000000 := by omega
  have hne : w.heap.size ≠ g := by omega
  have HB0 := Lib.hid (But.of_below (· = g) A0); have HR0 := Lib.hid R0
  clear h A0 R0 hl1 hl2 hl3
  go_enter Try.func42, Try.ntmps42
  go_wp2_with fail
  refine N1.out.mono ?_
  rintro e w1 ⟨rfl, hs1, hb1⟩
  have HS1 := Lib.hid hs1; have HB1 := Lib.hid (HB0.out.trans hb1); have HR1 := Lib.hid (HR0.out.but hb1 hne)
  clear hs1 hb1 N1 HB0 HR0
  go_wp2_with fail
  refine (N2.out _ HS1.out).mono ?_
  rintro e w2 ⟨rfl, hs2, hb2⟩
  have HS2 := Lib.hid hs2; have HB2 := Lib.hid (HB1.out.trans hb2); have HR2 := Lib.hid (HR1.out.but hb2 hne)
  clear hs2 hb2 N2 HB1 HR1 HS1
  go_wp2_with fail
  refine (N3.out _ HS2.out).mono ?_
  rintro e w3 ⟨rfl, hs3, hb3⟩
  have hgw3 : g < w3.heap.size := by obtain ⟨a, c, h1, _⟩ := hs3.ex; exact h1.lt
  have HR3 := Lib.hid (HR2.out.but hb3 hne)
  have hrw3 := HR3.out.lt
  have A3 := below_alloc (Below.refl _ w3) (.cells #[.int .i64 (zagI q1.1), .int .i64 (zagI q2.1), .int .i64 (zagI q3.1), .slice none 0 0] 64)
  have K3 := Lib.hid (Blk.new w3 64 #[.int .i64 (zagI q1.1), .int .i64 (zagI q2.1), .int .i64 (zagI q3.1), .slice none 0 0])
  have hs4 := hs3.below A3
  have HS3 := Lib.hid hs4; have HB3 := Lib.hid ((HB2.out.trans hb3).trans (But.of_below _ A3)); have HR4 := Lib.hid (HR3.out.below A3)
  obtain ⟨a4, c4, k4, sb4, _⟩ := hs4.ex
  have r0 := k4.cell 0 rfl
  have GT := Lib.hid (GetText_any _ _ B _ sb4 hq3)
  have hgt := getT_len (q3.2.getD [])
  obtain ⟨tt, ht⟩ : ∃ t, (getT (q3.2.getD [])).getD ([], 0) = t := ⟨_, rfl⟩
  have hgv : getTV (getT (q3.2.getD [])) = .returned (.tuple #[sv tt.1, .int .i64 (tt.2 : Int)]) := by unfold getTV; rw [ht]
  rw [ht] at hgt hRd
  rw [hgv] at GT
  clear hs3 hb3 N3 HB2 HR2 HS2 hs4 A3 k4 sb4 HR3 hgv ht
  go_wp2_with fail
  refine GT.out.mono ?_
  rintro e w5 ⟨rfl, rfl⟩
  have PS := Lib.hid (hpass_any B g tt.2 q3.2 _ HS3.out hgt.1)
  clear GT r0
  go_wp2_with fail
  refine PS.out.mono ?_
  rintro e w6 ⟨rfl, hs6, hb6⟩
  have K6 := Lib.hid (K3.out.but hb6 (by omega)); have HR6 := Lib.hid (HR4.out.but hb6 hne)
  have HB6 := Lib.hid (HB3.out.trans hb6); have HS6 := Lib.hid hs6
  obtain ⟨ca, cc, w7, hcv, hsb, hb7⟩ := conv_text w6 tt.1
  have HS7 := hs6.below hb7
  have K7 := Lib.hid (K6.out.below hb7); have HR7 := Lib.hid (HR6.out.below hb7); have HB7 := Lib.hid (HB6.out.trans (But.of_below _ hb7))
  have RC := Lib.hid (ReadCells_any _ tt.1 w7 hsb (by have := hgt.2; omega))
  clear PS hb6 HB3 HR4 K3 hs6 hb7 hsb HS3 HB6 HR6 K6 HS6
  have HS7' := Lib.hid HS7
  clear HS7
  go_wp2_with fail
  refine RC.out.mono ?_
  rintro e w8 ⟨hb8, hrd⟩
  obtain ⟨v8, er, rfl, ho8, her⟩ : ∃ v8 er, e = .returned (.tuple #[v8, .int .i64 er]) ∧ OwnX eC w8 w7.heap.size v8 ((rdCells tt.1).getD []) ∧ (er != 0) = (rdCells tt.1).isNone := by
    cases hr : rdCells tt.1 with
    | none => rw [hr] at hrd; exact ⟨_, 8, hrd, OwnX.nil _ _, rfl⟩
    | some cs =>
      rw [hr] at hrd
      obtain ⟨v, h1, h2⟩ := hrd
      exact ⟨v, 0, h1, h2, rfl⟩
  obtain ⟨va, vc, rfl, _, _⟩ := ho8.sl.ex
  have HO8 := Lib.hid ho8
  have hs8 := HS7'.out.below hb8
  have K8 := K7.out.below hb8; have HR8 := HR7.out.below hb8; have HB8 := Lib.hid (HB7.out.trans (But.of_below _ hb8))
  obtain ⟨a8, c8, k8, sb8, _⟩ := hs8.ex
  have hg8 := k8.lt; have hgh := K7.out.lt; have hgr := HR7.out.lt
  have hg7 : g < w7.heap.size := by obtain ⟨_, _, h1, _⟩ := HS7'.out.ex; exact h1.lt
  have r1 := k8.cell 1 rfl; have f1 := k8.frozen 1
  have h0 := K8.cell 0 rfl; have h1 := K8.cell 1 rfl; have h2 := K8.cell 2 rfl; have h3 := K8.cell 3 rfl; have g3 := K8.frozen 3
  have z0 := HR8.cell 0 rfl; have z1 := HR8.cell 1 rfl; have z2 := HR8.cell 2 rfl; have z3 := HR8.cell 3 rfl
  have y0 := HR8.frozen 0; have y1 := HR8.frozen 1; have y2 := HR8.frozen 2; have y3 := HR8.frozen 3
  have n1 : ¬ w3.heap.size = g := by omega
  have n2 : ¬ g = w3.heap.size := by omega
  have n3 : ¬ w.heap.size = g := by omega
  have n4 : ¬ g = w.heap.size := by omega
  have n5 : ¬ w3.heap.size = w.heap.size := by omega
  have n6 : ¬ w.heap.size = w3.heap.size := by omega
  have HK8 := Lib.hid K8; have HRR8 := Lib.hid HR8; have HKg := Lib.hid k8; have HSB := Lib.hid sb8
  have HBAD := Lib.hid (show hintBad s last = ((passS q3.2 tt.2).isNone || (er != 0) || decide (zagI q1.1 ≤ last)) by unfold hintBad; rw [hRd, her])
  clear RC hrd hb8 ho8 hs8 K8 HR8 HB7 K7 HR7 HS7' k8 sb8 her hcv
  obtain ⟨N, hN⟩ : ∃ n, ((rdCells tt.1).getD []).length = n := ⟨_, rfl⟩
  rw [hN] at HO8
  have FB := Lib.hid (fun bb : Bool => show Blk ((((((w8.setCell ⟨g, 1, none⟩ (.bool bb)).setCell ⟨w3.heap.size, 3, none⟩ (.slice va N vc)).setCell ⟨w.heap.size, 0, none⟩ (.int .i64 (zagI q1.1))).setCell ⟨w.heap.size, 1, none⟩ (.int .i64 (zagI q2.1))).setCell ⟨w.heap.size, 2, none⟩ (.int .i64 (zagI q3.1))).setCell ⟨w.heap.size, 3, none⟩ (.slice va N vc)) w.heap.size 64 #[.int .i64 (zagI q1.1), .int .i64 (zagI q2.1), .int .i64 (zagI q3.1), .slice va N vc] from
    (((((HRR8.out.far (p := ⟨g, 1, none⟩) n3 _).far (p := ⟨w3.heap.size, 3, none⟩) n6 _).put 0 _).put 1 _).put 2 _).put 3 _)
  have FIN := Lib.hid (fun (bb : Bool) (hbb : bb = hintBad s last) => show HintPost B g w s last (.returned (.agg #[.int .i64 (zagI q1.1), .int .i64 (zagI q2.1), .int .i64 (zagI q3.1), .slice va N vc])) ((((((w8.setCell ⟨g, 1, none⟩ (.bool bb)).setCell ⟨w3.heap.size, 3, none⟩ (.slice va N vc)).setCell ⟨w.heap.size, 0, none⟩ (.int .i64 (zagI q1.1))).setCell ⟨w.heap.size, 1, none⟩ (.int .i64 (zagI q2.1))).setCell ⟨w.heap.size, 2, none⟩ (.int .i64 (zagI q3.1))).setCell ⟨w.heap.size, 3, none⟩ (.slice va N vc)) from by
    have hle := HB8.out.size
    have hz3 : w.heap.size ≤ w3.heap.size := by omega
    have B0 : But (· = g) w (w8.setCell ⟨g, 1, none⟩ (.bool bb)) := HB8.out.setCell (p := ⟨g, 1, none⟩) rfl _
    have Bf := ((((B0.setNew hz3 3 (.slice va N vc)).setNew (Nat.le_refl _) 0 (.int .i64 (zagI q1.1))).setNew (Nat.le_refl _) 1 (.int .i64 (zagI q2.1))).setNew (Nat.le_refl _) 2 (.int .i64 (zagI q3.1))).setNew (Nat.le_refl _) 3 (.slice va N vc)
    have Bo : But (fun k => k < w7.heap.size) w8 ((((((w8.setCell ⟨g, 1, none⟩ (.bool bb)).setCell ⟨w3.heap.size, 3, none⟩ (.slice va N vc)).setCell ⟨w.heap.size, 0, none⟩ (.int .i64 (zagI q1.1))).setCell ⟨w.heap.size, 1, none⟩ (.int .i64 (zagI q2.1))).setCell ⟨w.heap.size, 2, none⟩ (.int .i64 (zagI q3.1))).setCell ⟨w.heap.size, 3, none⟩ (.slice va N vc)) :=
      ((((((But.refl _ w8).setCell (p := ⟨g, 1, none⟩) hg7 _).setCell (p := ⟨w3.heap.size, 3, none⟩) hgh _).setCell (p := ⟨w.heap.size, 0, none⟩) hgr _).setCell (p := ⟨w.heap.size, 1, none⟩) hgr _).setCell (p := ⟨w.heap.size, 2, none⟩) hgr _).setCell (p := ⟨w.heap.size, 3, none⟩) hgr _
    refine ⟨Bf, ⟨zagI q1.1, zagI q2.1, zagI q3.1, va, N, vc⟩, rfl, by rw [hRd], by rw [hRd], by rw [hRd], ?_, a8, c8, ?_, ?_⟩
    · rw [hRd]; exact (OwnX.but HO8.out Bo (fun k hk => by omega)).weaken (by omega)
    · rw [hRd]
      have := (((((HKg.out.put 1 (.bool bb)).far (p := ⟨w3.heap.size, 3, none⟩) n2 (.slice va N vc)).far (p := ⟨w.heap.size, 0, none⟩) n4 (.int .i64 (zagI q1.1))).far (p := ⟨w.heap.size, 1, none⟩) n4 (.int .i64 (zagI q2.1))).far (p := ⟨w.heap.size, 2, none⟩) n4 (.int .i64 (zagI q3.1))).far (p := ⟨w.heap.size, 3, none⟩) n4 (.slice va N vc)
      rw [hbb] at this
      rw [hbb]
      exact this
    · rw [hRd]
      have hBg : B ≤ g := HBg.out
      exact HSB.out.below (((((((Below.refl B w8).setCell (p := ⟨g, 1, none⟩) hBg _).setCell (p := ⟨w3.heap.size, 3, none⟩) (by show B ≤ w3.heap.size; omega) _).setCell (p := ⟨w.heap.size, 0, none⟩) (by show B ≤ w.heap.size; omega) _).setCell (p := ⟨w.heap.size, 1, none⟩) (by show B ≤ w.heap.size; omega) _).setCell (p := ⟨w.heap.size, 2, none⟩) (by show B ≤ w.heap.size; omega) _).setCell (p := ⟨w.heap.size, 3, none⟩) (by show B ≤ w.heap.size; omega) _))
  rw [hN]
  clear hN HKg HSB HRR8 HB8 hRd hgt
  generalize (passS q3.2 tt.2).isNone = b1 at *
  cases b1
  case' true =>
    have FE := Lib.hid (FIN.out true (by rw [HBAD.out]; rfl))
    have FF := FB.out true
  case' false =>
    rcases hb2 : (er != 0) with _ | _
    case' true =>
      have FE := Lib.hid (FIN.out true (by rw [HBAD.out, hb2]; rfl))
      have FF := FB.out true
    case' false =>
      rcases hb3 : decide (zagI q1.1 ≤ last) with _ | _
      case' true =>
        have FE := Lib.hid (FIN.out true (by rw [HBAD.out, hb2, hb3]; rfl))
        have FF := FB.out true
      case' false =>
        have FE := Lib.hid (FIN.out false (by rw [HBAD.out, hb2, hb3]; rfl))
        have FF := FB.out false
  all_goals (
    have t0 := FF.cell 0 rfl; have t1 := FF.cell 1 rfl; have t2 := FF.cell 2 rfl; have t3 := FF.cell 3 rfl
    clear FF FB FIN HBAD HO8 hg7 hgh hgr hg8 hgw hgw3 hrw3 hne hq3 hl
    go_wp2_with fail
    refine bodyPost_ret (v := .agg #[.int .i64 (zagI q1.1), .int .i64 (zagI q2.1), .int .i64 (zagI q3.1), .slice va N vc]) (by simp [results, Try.results42, go_sem, t0, t1, t2, t3]) rfl ?_
    exact FE.out)
end Go.Proofs.Ytefndmjimmbhnaa
end

section
set_option linter.unusedVariables false
set_option linter.unusedSimpArgs false
set_option maxRecDepth 50000
namespace Go.Proofs.Ytefndmjimmbhnaa
open Go.RowKit

theorem numS_none : numS none = (0, none) := rfl
theorem numS_some (r : List UInt8) : numS (some r) = match rdNum r with
  | none => (0, none)
  | some p => (p.1, some p.2) := rfl
theorem getT_none {l : List UInt8} (h : getT l = none) : rdText l = none := by unfold rdText; rw [h]; rfl
theorem getT_some {l t : List UInt8} {k : Nat} (h : getT l = some (t, k)) : rdText l = some (t, l.drop k) ∧ 0 < k := by
  refine ⟨by unfold rdText; rw [h]; rfl, ?_⟩
  rcases getT_cases l with ⟨_, h2⟩ | ⟨n, k2, _, _, h1, _, h2⟩
  · rw [h2] at h; cases h
  · rw [h2] at h
    split at h
    · injection h with h; injection h with _ h; omega
    · cases h
/-- a hint that is good is the plain one; else there is none -/
theorem hint_plain (r : List UInt8) (last : Int) :
    (∃ x r', rdHint r = some (x, r') ∧ last < x.id ∧ hintBad (some r) last = false ∧ (hintR (some r)).a = x.id ∧ (hintR (some r)).b = x.nd ∧ (hintR (some r)).c = x.tm ∧ rdCells (hintR (some r)).t = some x.L ∧ (hintR (some r)).left = some r') ∨
    (hintBad (some r) last = true ∧ ∀ x r', rdHint r = some (x, r') → ¬ last < x.id) := by
  have bad_none : (hintR (some r)).left = none → hintBad (some r) last = true := fun h => by unfold hintBad; rw [h]; rfl
  have bad_cells : rdCells (hintR (some r)).t = none → hintBad (some r) last = true := fun h => by unfold hintBad; rw [h]; simp
  have e : hintR (some r) = ⟨zagI (numS (some r)).1, zagI (numS (numS (some r)).2).1, zagI (numS (numS (numS (some r)).2).2).1, ((getT ((numS (numS (numS (some r)).2).2).2.getD [])).getD ([], 0)).1, passS (numS (numS (numS (some r)).2).2).2 ((getT ((numS (numS (numS (some r)).2).2).2.getD [])).getD ([], 0)).2⟩ := rfl
  have pass_none : ∀ k, passS none k = none := fun k => by unfold passS; split <;> rfl
  rcases h1 : rdNum r with _ | ⟨u1, r1⟩
  · refine .inr ⟨bad_none (by simp [e, show numS (some r) = (0, none) by rw [numS_some, h1], numS_none, pass_none]), fun x r' hx => ?_⟩
    unfold rdHint rdInt at hx; rw [h1] at hx; cases hx
  · have q1 : numS (some r) = (u1, some r1) := by rw [numS_some, h1]
    rw [q1] at e
    rcases h2 : rdNum r1 with _ | ⟨u2, r2⟩
    · refine .inr ⟨bad_none (by simp [e, show numS (some r1) = (0, none) by rw [numS_some, h2], numS_none, pass_none]), fun x r' hx => ?_⟩
      unfold rdHint rdInt at hx; rw [h1] at hx; simp only [Option.map_some, Option.bind_eq_bind, Option.bind_some, h2] at hx; cases hx
    · have q2 : numS (some r1) = (u2, some r2) := by rw [numS_some, h2]
      simp only [q2] at e
      rcases h3 : rdNum r2 with _ | ⟨u3, r3⟩
      · refine .inr ⟨bad_none (by simp [e, show numS (some r2) = (0, none) by rw [numS_some, h3], numS_none, pass_none]), fun x r' hx => ?_⟩
        unfold rdHint rdInt at hx; rw [h1] at hx; simp only [Option.map_some, Option.bind_eq_bind, Option.bind_some, h2, h3] at hx; cases hx
      · have q3 : numS (some r2) = (u3, some r3) := by rw [numS_some, h3]
        simp only [q3, Option.getD_some] at e
        rcases h4 : getT r3 with _ | ⟨t, k⟩
        · refine .inr ⟨bad_none (by rw [e, h4]; rfl), fun x r' hx => ?_⟩
          unfold rdHint rdInt at hx; rw [h1] at hx; simp only [Option.map_some, Option.bind_eq_bind, Option.bind_some, h2, h3, getT_none h4] at hx; cases hx
        · obtain ⟨h5, hk⟩ := getT_some h4
          have eL : (hintR (some r)).left = some (r3.drop k) := by rw [e, h4]; simp only [Option.getD_some]; unfold passS; rw [if_neg (by omega)]; rfl
          have eT' : (hintR (some r)).t = t := by rw [e, h4]; rfl
          have ea : (hintR (some r)).a = zagI u1 := by rw [e]
          rcases h6 : rdCells t with _ | L
          · refine .inr ⟨bad_cells (by rw [eT']; exact h6), fun x r' hx => ?_⟩
            unfold rdHint rdInt at hx; rw [h1] at hx; simp only [Option.map_some, Option.bind_eq_bind, Option.bind_some, h2, h3, h5, h6] at hx; cases hx
          · have hr : rdHint r = some (⟨zagI u1, zagI u2, zagI u3, L⟩, r3.drop k) := by
              unfold rdHint rdInt; rw [h1]; simp only [Option.map_some, Option.bind_eq_bind, Option.bind_some, h2, h3, h5, h6]; rfl
            have hbd : hintBad (some r) last = decide (zagI u1 ≤ last) := by unfold hintBad; rw [eL, eT', ea, h6]; simp
            by_cases hlt : last < zagI u1
            · exact .inl ⟨_, _, hr, hlt, by rw [hbd]; simp; omega, by rw [e], by rw [e], by rw [e], by rw [eT']; exact h6, eL⟩
            · refine .inr ⟨by rw [hbd]; simp; omega, fun x r' hx => ?_⟩
              rw [hr] at hx; injection hx with hx; injection hx with hx _; subst hx; exact hlt
theorem rdHint_len {r r' : List UInt8} {x : Hn} (h : rdHint r = some (x, r')) : r'.length + 1 ≤ r.length := by
  unfold rdHint rdInt at h
  rcases h1 : rdNum r with _ | ⟨u1, r1⟩
  · rw [h1] at h; cases h
  rcases h2 : rdNum r1 with _ | ⟨u2, r2⟩
  · rw [h1] at h; simp only [Option.map_some, Option.bind_eq_bind, Option.bind_some, h2] at h; cases h
  rcases h3 : rdNum r2 with _ | ⟨u3, r3⟩
  · rw [h1] at h; simp only [Option.map_some, Option.bind_eq_bind, Option.bind_some, h2, h3] at h; cases h
  rcases h4 : rdText r3 with _ | ⟨t, r4⟩
  · rw [h1] at h; simp only [Option.map_some, Option.bind_eq_bind, Option.bind_some, h2, h3, h4] at h; cases h
  rcases h6 : rdCells t with _ | L
  · rw [h1] at h; simp only [Option.map_some, Option.bind_eq_bind, Option.bind_some, h2, h3, h4, h6] at h; cases h
  rw [h1] at h
  simp only [Option.map_some, Option.bind_eq_bind, Option.bind_some, h2, h3, h4, h6] at h
  injection h with h
  injection h with _ h
  subst h
  have := (rdNum_len h1).2.1; have := (rdNum_len h2).2.1; have := (rdNum_len h3).2.1; have := (rdText_len h4).1
  omega
end Go.Proofs.Ytefndmjimmbhnaa
end

section
set_option linter.unusedVariables false
set_option linter.unusedSimpArgs false
set_option maxRecDepth 50000
namespace Go.Proofs.Ytefndmjimmbhnaa
open Go.RowKit

/-- hints that a call owns, with their cells -/
structure HnsO (w : World) (base : Nat) (qs : List Hq) (l : List Hn) : Prop where
  len : qs.length = l.length
  at_ : ∀ (i : Nat) (h1 : i < qs.length) (h2 : i < l.length), qs[i].id = l[i].id ∧ qs[i].nd = l[i].nd ∧ qs[i].tm = l[i].tm ∧ OwnX eC w base qs[i].val l[i].L
def HReadPost (w : World) (o : Option (Int × List Hn)) (e : Ending) (w' : World) : Prop :=
  Below w.heap.size w w' ∧ match o with
    | some (nx, l) => ∃ v qs, e = .returned (.tuple #[.int .i64 nx, v, .int .i64 0]) ∧ OwnX eT w' w.heap.size v qs ∧ HnsO w' w.heap.size qs l
    | none => e = .returned (.tuple #[.int .i64 0, .slice none 0 0, .int .i64 8])
theorem hunframe_le (l : List UInt8) : (unframeL l).1.length ≤ l.length := by
  unfold unframeL
  split
  · simp
  · split
    · simp
    · split
      · simp
      · split
        · simp
        · simp only [List.length_take, List.length_drop]; omega
/-- what is told at the end, when so much is left -/
def endH (nx : Int) (acc : List Hn) (kk : Nat) (last : Int) (rest : List UInt8) : Option (Int × List Hn) := match rdLs kk last rest with
  | none => none
  | some (hs, r, la) => if r = [] ∧ la < nx then some (nx, acc ++ hs) else none
theorem rdH_eq (b : List UInt8) : rdH b = if (unframeL b).2.2 = 0 ∧ (unframeL b).2.1 = b.length then (match (numS (some (unframeL b).1)).2 with
    | none => none
    | some l => match rdNum l with
      | none => none
      | some p => endH (zagI (numS (some (unframeL b).1)).1) [] p.1 0 p.2) else none := by
  unfold rdH
  split
  · rw [numS_some]
    unfold rdInt
    cases h1 : rdNum (unframeL b).1 with
    | none => rfl
    | some p =>
      simp only [Option.map_some]
      cases h2 : rdNum p.2 with
      | none => rfl
      | some q =>
        simp only
        unfold endH
        cases rdLs q.1 0 q.2 <;> rfl
  · rfl
theorem endH_step (nx : Int) (acc : List Hn) (kk : Nat) (last : Int) (rest r' : List UInt8) (x : Hn) (h : rdHint rest = some (x, r')) (hl : last < x.id) : endH nx acc (kk + 1) last rest = endH nx (acc ++ [x]) kk x.id r' := by
  unfold endH
  rw [rdLs, h]
  simp only
  rw [if_pos hl]
  cases rdLs kk x.id r' with
  | none => rfl
  | some p => simp
theorem endH_bad (nx : Int) (acc : List Hn) (kk : Nat) (last : Int) (rest : List UInt8) (h : ∀ x r', rdHint rest = some (x, r') → ¬ last < x.id) : endH nx acc (kk + 1) last rest = none := by
  unfold endH
  rw [rdLs]
  cases hr : rdHint rest with
  | none => rfl
  | some p => simp only; rw [if_neg (h p.1 p.2 hr)]
/-- Read's memory in its loop -/
structure RL (w : World) (g gs : Nat) (nx : Int) (T : Option (Int × List Hn)) (W : World) (kk : Nat) (last : Int) : Prop where
  below : Below w.heap.size w W
  hk : kk < 18446744073709551616
  ex : ∃ (acc : List Hn) (qs : List Hq) (sa : Option Addr) (sc : Nat), Blk W gs 48 #[.int .i64 nx, .slice sa qs.length sc] ∧ OwnX eT W (gs + 1) (.slice sa qs.length sc) qs ∧ HnsO W (gs + 1) qs acc ∧
    ((∃ rest, SR g g W (some rest) ∧ rest.length + qs.length ≤ 1000000 ∧ T = endH nx acc kk last rest) ∨ ((∃ a n c, Blk W g 97 #[.slice a n c, .bool true]) ∧ T = none))
  o1 : w.heap.size ≤ g
  o2 : g < gs
theorem HnsO.below {w w1 : World} {b : Nat} {qs : List Hq} {l : List Hn} (h : HnsO w b qs l) (hb : Below w.heap.size w w1) : HnsO w1 b qs l := ⟨h.len, fun i h1 h2 => by
  obtain ⟨x, y, z, d⟩ := h.at_ i h1 h2
  exact ⟨x, y, z, d.below hb⟩⟩
theorem HnsO.but {S : Nat → Prop} {w w1 : World} {b : Nat} {qs : List Hq} {l : List Hn} (h : HnsO w b qs l) (hb : But S w w1) (hs : ∀ k, b ≤ k → ¬ S k) : HnsO w1 b qs l := ⟨h.len, fun i h1 h2 => by
  obtain ⟨x, y, z, d⟩ := h.at_ i h1 h2
  exact ⟨x, y, z, OwnX.but d hb hs⟩⟩
theorem own_ne {α β : Type} {E : El α} {F : El β} {W : World} {b b' : Nat} {v v' : Value} {l : List α} {l' : List β} (h : OwnX E W b v l) (h' : OwnX F W b' v' l') (ht : E.t ≠ F.t) : v.ownBlock = none ∨ v.ownBlock ≠ v'.ownBlock := by
  rcases h.2 with ⟨rfl, _⟩ | ⟨g, cap, cur, rfl, _, hh, _⟩
  · exact .inl rfl
  · refine .inr fun e => ?_
    rcases h'.2 with ⟨rfl, _⟩ | ⟨g', cap', cur', rfl, _, hh', _⟩
    · cases e
    · injection e with e
      subst e
      rw [hh] at hh'
      injection hh' with hh'
      injection hh' with _ e2
      exact ht e2
set_option maxHeartbeats 1000000 in
theorem RL.next {w wr w5 w7 : World} {g gs : Nat} {nx last : Int} {T : Option (Int × List Hn)} {k1 : Nat} {acc : List Hn} {qs : List Hq} {sa : Option Addr} {sc : Nat} {rest : List UInt8} {q : Hq} {o1 o2 : Obj} {ra5 : Option Addr} {rc5 g7 c7 : Nat}
    (hbel : Below w.heap.size w wr) (hkk : k1 + 1 < 18446744073709551616) (kS : Blk wr gs 48 #[.int .i64 nx, .slice sa qs.length sc]) (oS : OwnX eT wr (gs + 1) (.slice sa qs.length sc) qs) (hO : HnsO wr (gs + 1) qs acc)
    (hlen : rest.length + qs.length ≤ 1000000) (hT : T = endH nx acc (k1 + 1) last rest) (h1 : w.heap.size ≤ g) (h2 : g < gs)
    (hb5 : But (· = g) wr w5) (e1 : q.id = (hintR (some rest)).a) (e2 : q.nd = (hintR (some rest)).b) (e3 : q.tm = (hintR (some rest)).c) (hO5 : OwnX eC w5 wr.heap.size q.val ((rdCells (hintR (some rest)).t).getD []))
    (kR5 : Blk w5 g 97 #[.slice ra5 ((hintR (some rest)).left.getD []).length rc5, .bool (hintBad (some rest) last)]) (sb5 : SlB g w5 (.slice ra5 ((hintR (some rest)).left.getD []).length rc5) ((hintR (some rest)).left.getD []))
    (hO7 : OwnX eT w7 (gs + 1) (.slice (some ⟨g7, 0, none⟩) (qs.length + 1) c7) (qs ++ [q])) (hG7 : GrowV ((w5.alloc o1).alloc o2) w7 (.slice sa qs.length sc) (.slice (some ⟨g7, 0, none⟩) (qs.length + 1) c7)) :
    RL w g gs nx T (w7.setCell ⟨gs, 1, none⟩ (.slice (some ⟨g7, 0, none⟩) (qs.length + 1) c7)) k1 q.id := by
  have hgs := kS.lt
  have hz5 := hb5.size
  have A6 := below_alloc (below_alloc (Below.refl _ w5) o1) o2
  have hz6 := A6.size
  have oS6 : OwnX eT ((w5.alloc o1).alloc o2) (gs + 1) (.slice sa qs.length sc) qs := ((OwnX.but oS hb5 (fun k hk => by omega)).alloc o1).alloc o2
  have own6 := fun k hk => OwnX.base oS6 k hk
  have B6 : Below g w5 w7 := (A6.mono (by omega)).trans (hG7.below (by omega) (fun k hk => by have := own6 k hk; omega))
  have B8 : ∀ u, Below g w5 (w7.setCell ⟨gs, 1, none⟩ u) := fun u => B6.setCell (p := ⟨gs, 1, none⟩) (by show g ≤ gs; omega) u
  have S8 : ∀ u, But (· = gs) w7 (w7.setCell ⟨gs, 1, none⟩ u) := fun u => But.one w7 gs 1 u
  have keepC : ∀ {v : Value} {L : List Cel} {b : Nat}, OwnX eC w5 b v L → gs + 1 ≤ b → ∀ u, OwnX eC (w7.setCell ⟨gs, 1, none⟩ u) (gs + 1) v L := fun {v L b} h hb u => by
    have h6 := ((h.weaken hb).alloc o1).alloc o2
    exact OwnX.but (h6.grown hG7.1 (own_ne h6 oS6 (by decide))) (S8 u) (fun k hk => by omega)
  refine ⟨(hbel.trans (hb5.below (B := w.heap.size) hbel.size (fun k hk => hk ▸ h1))).trans ((B8 _).mono h1), by omega, ⟨acc ++ [⟨q.id, q.nd, q.tm, (rdCells (hintR (some rest)).t).getD []⟩], qs ++ [q], some ⟨g7, 0, none⟩, c7, ?_, ?_, ?_, ?_⟩, h1, h2⟩
  · have k6 : Blk ((w5.alloc o1).alloc o2) gs 48 #[.int .i64 nx, .slice sa qs.length sc] := ((kS.but hb5 (by omega)).alloc o1).alloc o2
    have := (k6.growV oS6 hG7 (by decide)).put 1 (.slice (some ⟨g7, 0, none⟩) (qs.length + 1) c7)
    rw [List.length_append]
    exact this
  · have := OwnX.but hO7 (S8 (.slice (some ⟨g7, 0, none⟩) (qs.length + 1) c7)) (fun k hk => by omega)
    rw [List.length_append]
    exact this
  · refine ⟨by simp [hO.len], fun i i1 i2 => ?_⟩
    simp only [List.length_append, List.length_singleton] at i1 i2
    by_cases hi : i < qs.length
    · have hi2 : i < acc.length := by rw [← hO.len]; exact hi
      rw [List.getElem_append_left hi, List.getElem_append_left hi2]
      obtain ⟨x, y, z, d⟩ := hO.at_ i hi hi2
      exact ⟨x, y, z, keepC (OwnX.but d hb5 (fun k hk => by omega)) (Nat.le_refl _) _⟩
    · have hi' : i = qs.length := by omega
      subst hi'
      have e : (qs ++ [q])[qs.length]'(by simp) = q := by simp
      have e' : (acc ++ [(⟨q.id, q.nd, q.tm, (rdCells (hintR (some rest)).t).getD []⟩ : Hn)])[qs.length]'(by simp [hO.len]) = ⟨q.id, q.nd, q.tm, (rdCells (hintR (some rest)).t).getD []⟩ := by
        rw [List.getElem_append_right (by rw [hO.len]; exact Nat.le_refl _)]; simp
      rw [e, e']
      exact ⟨rfl, rfl, rfl, keepC hO5 (by omega) _⟩
  · have kR8 : ∀ u, Blk (w7.setCell ⟨gs, 1, none⟩ u) g 97 #[.slice ra5 ((hintR (some rest)).left.getD []).length rc5, .bool (hintBad (some rest) last)] := fun u =>
      ((((kR5.alloc o1).alloc o2).growV oS6 hG7 (by decide)).far (p := ⟨gs, 1, none⟩) (by show ¬ g = gs; omega) u)
    rcases hint_plain rest last with ⟨x, r', hx, hl, hbad, ea, eb, ec, ecs, el⟩ | ⟨hbad, hno⟩
    · refine .inl ⟨r', ⟨⟨ra5, rc5, ?_, ?_, fun h => by cases h⟩, Nat.le_refl _⟩, ?_, ?_⟩
      · have := kR8 (.slice (some ⟨g7, 0, none⟩) (qs.length + 1) c7)
        rw [hbad, el] at this
        exact this
      · rw [el] at sb5
        exact sb5.below (B8 _)
      · have := rdHint_len hx
        simp only [List.length_append, List.length_singleton]; omega
      · rw [hT, endH_step nx acc k1 last rest r' x hx hl, e1, e2, e3, ea, eb, ec, ecs]
        rfl
    · refine .inr ⟨⟨_, _, _, by have := kR8 (.slice (some ⟨g7, 0, none⟩) (qs.length + 1) c7); rw [hbad] at this; exact this⟩, ?_⟩
      rw [hT]; exact endH_bad nx acc k1 last rest hno
set_option maxHeartbeats 4000000 in
theorem hRead_any (v : Value) (l : List UInt8) (w : World) (hv : SlB w.heap.size w v l) (hl : l.length ≤ 1000000) :
    Calls Try.prog 22 #[v] w (HReadPost w (rdH l)) := by
  have U := Lib.hid (Unframe_any v l w hv hl)
  obtain ⟨a, c, rfl, _, _⟩ := hv.ex
  clear hv
  obtain ⟨uc, un, ue, hu⟩ : ∃ a b c, unframeL l = (a, b, c) := ⟨_, _, _, rfl⟩
  have hdef := rdH_eq l
  have hul0 := hunframe_le l
  rw [hu] at U hdef hul0
  simp only at hdef hul0
  have hul : uc.length ≤ 1000000 := by omega
  generalize rdH l = T at *
  have HDEF := Lib.hid hdef
  clear hdef hul0 hu
  go_enter Try.func22, Try.ntmps22
  go_wp2_with fail
  refine U.out.mono ?_
  rintro e w1 ⟨cv, rfl, hO, hb⟩
  have HB := Lib.hid hb; have HO := Lib.hid hO
  clear hb hO U
  by_cases he : ue = 0 ∧ un = l.length
  · have hT := HDEF.out
    rw [if_pos he] at hT
    obtain ⟨rfl, rfl⟩ := he
    have hn : ((l.length : Int) != (l.length : Int)) = false := by simp
    obtain ⟨ca, cc, rfl, _, _⟩ := HO.out.slB.ex
    have HT := Lib.hid hT
    have R0 : SR w1.heap.size w1.heap.size (w1.alloc (.cells #[.slice ca uc.length cc, .bool false] 97)) (some uc) :=
      ⟨⟨ca, cc, Blk.new _ _ _, HO.out.slB.below (below_alloc (Below.refl _ w1) _), fun h => by cases h⟩, Nat.le_refl _⟩
    have I0 := Lib.hid (hint_int w1.heap.size w1.heap.size (some uc) _ R0 hul)
    have A0 := Lib.hid (below_tr HB.out (below_alloc (Below.refl _ w1) (.cells #[.slice ca uc.length cc, .bool false] 97)))
    have hlen := numS_len (some uc)
    simp only [Option.getD_some] at hlen
    clear hT R0 HDEF
    generalize numS (some uc) = q0 at *
    simp only at *
    go_wp2_with fail
    refine I0.out.mono ?_
    rintro e w2 ⟨rfl, hs2, hb2⟩
    have hg2 : w1.heap.size < w2.heap.size := by obtain ⟨_, _, h1, _⟩ := hs2.ex; exact h1.lt
    have A2 := below_alloc (Below.refl _ w2) (.cells #[.int .i64 (zagI q0.1), .slice none 0 0] 48)
    have K2 := Lib.hid (Blk.new w2 48 #[.int .i64 (zagI q0.1), .slice none 0 0])
    have HB2 := Lib.hid ((A0.out.trans (hb2.below (B := w.heap.size) A0.out.size (fun k hk => hk ▸ HB.out.size))).trans (A2.mono (by have := A0.out.size; have := hb2.size; omega)))
    have N3 := Lib.hid (hnum_any w1.heap.size w1.heap.size q0.2 _ (hs2.below A2) (by omega))
    clear I0 hs2 hb2 A2 A0
    go_wp2_with fail
    generalize w2.alloc (.cells #[.int .i64 (zagI q0.1), .slice none 0 0] 48) = W2 at *
    refine N3.out.mono ?_
    rintro e w3 ⟨rfl, hs3, hb3⟩
    have K3 := K2.out.but hb3 (by omega)
    have RL0 : RL w w1.heap.size w2.heap.size (zagI q0.1) T w3 (numS q0.2).1 0 := by
      refine ⟨HB2.out.trans (hb3.below (B := w.heap.size) HB2.out.size (fun k hk => hk ▸ HB.out.size)), numS_lt _, ⟨[], [], none, 0, K3, OwnX.nil _ _, ⟨rfl, fun i h1 => absurd h1 (by simp)⟩, ?_⟩, HB.out.size, hg2⟩
      have hT := HT.out
      have hl3 := numS_len q0.2
      cases hq : q0.2 with
      | none =>
        rw [hq] at hs3 hT
        obtain ⟨a, c, h1, _⟩ := hs3.ex
        exact .inr ⟨⟨_, _, _, h1⟩, hT⟩
      | some r =>
        rw [hq, numS_some] at hs3 hl3
        rw [hq] at hT
        simp only at hT
        rw [numS_some]
        cases hr : rdNum r with
        | none =>
          rw [hr] at hs3 hT
          obtain ⟨a, c, h1, _⟩ := hs3.ex
          exact .inr ⟨⟨_, _, _, h1⟩, hT⟩
        | some p =>
          rw [hr] at hs3 hT hl3
          simp only [Option.getD_some] at hl3
          exact .inl ⟨p.2, hs3, by simp only [List.length_nil]; rw [hq] at hlen; simp only [Option.getD_some] at hlen; omega, hT⟩
    have HRL := Lib.hid RL0
    clear RL0 N3 hs3 hb3 K3 K2 HT hlen hul HB2 HO
    generalize zagI q0.1 = nx at *
    generalize (numS q0.2).1 = kk0 at *
    generalize w1.heap.size = g at *
    generalize w2.heap.size = gs at *
    go_wp2_with fail
    go_loopw [10, 11, 12] (fun v10 v11 _ wr => ∃ (kk : Nat) (last : Int), v10 = .int .i64 last ∧ v11 = .int .u64 (kk : Int) ∧ Hid (RL w g gs nx T wr kk last)) (fun _ v11 _ _ => (intOf v11).toNat)
    case atStart => exact ⟨kk0, 0, rfl, rfl, HRL⟩
    case round =>
      obtain ⟨kk, last, rfl, rfl, HR⟩ := hrel
      obtain ⟨hbel, hkk, ⟨acc, qs, sa, sc, kS, oS, hO, hcase⟩, o1, o2⟩ := HR.out
      have HBEL := Lib.hid hbel
      have s0 : wr.cell? ⟨gs, 0, none⟩ = some (.int .i64 nx) := kS.cell 0 rfl
      have s1 : wr.cell? ⟨gs, 1, none⟩ = some (.slice sa qs.length sc) := kS.cell 1 rfl
      rcases hcase with ⟨rest, hs, hlen, hT⟩ | ⟨⟨ra, rn, rc, kR⟩, hT⟩
      · obtain ⟨ra, rc, kR, sbR, _⟩ := hs.ex
        simp only [Option.getD_some, Option.isNone_some] at kR sbR
        have r0 : wr.cell? ⟨g, 0, none⟩ = some (.slice ra rest.length rc) := kR.cell 0 rfl
        have r1 : wr.cell? ⟨g, 1, none⟩ = some (.bool false) := kR.cell 1 rfl
        by_cases hk0 : kk = 0
        · subst hk0
          have hT' : T = if rest = [] ∧ last < nx then some (nx, acc) else none := by rw [hT]; unfold endH; simp [rdLs]
          by_cases hr : rest = []
          · by_cases hln : last < nx
            · rw [if_pos ⟨hr, hln⟩] at hT'
              subst hr hT'
              have hln' : ¬ nx ≤ last := by omega
              have FIN := Lib.hid (fun W (hd : Below wr.heap.size wr W) => show HReadPost w (some (nx, acc)) (.returned (.tuple #[.int .i64 nx, .slice sa qs.length sc, .int .i64 0])) W from ⟨below_tr hbel hd, _, qs, rfl, (oS.below hd).weaken (by omega), ⟨hO.len, fun i h1 h2 => by obtain ⟨x, y, z, d⟩ := hO.at_ i h1 h2; exact ⟨x, y, z, (d.below hd).weaken (by omega)⟩⟩⟩)
              clear hbel kS oS hO hs kR sbR hlen hT hln HR hkk
              go_wp2_with fail
              go_quiet (fail)
              go_wp2_with fail
              go_ret3
              exact FIN.out _ (below_drewN (Below.refl _ _) _)
            · rw [if_neg (fun h => hln h.2)] at hT'
              subst hr hT'
              have hln' : nx ≤ last := by omega
              clear hbel kS oS hO hs kR sbR hlen hT hln HR hkk
              go_wp2_with fail
              go_ret3
              exact ⟨HBEL.out, rfl⟩
          · rw [if_neg (fun h => hr h.1)] at hT'
            subst hT'
            have hr' : (0 : Int) < (rest.length : Int) := by have := List.length_pos_iff.2 hr; omega
            have hrd : decide ((0 : Int) < (rest.length : Int)) = true := decide_eq_true hr'
            clear hbel kS oS hO hs kR sbR hlen hT HR hkk
            go_wp2_with fail
            go_ret3
            exact ⟨HBEL.out, rfl⟩
        · obtain ⟨k1, rfl⟩ : ∃ k, kk = k + 1 := ⟨kk - 1, by omega⟩
          have hkp : (0 : Int) < ((k1 + 1 : Nat) : Int) := by omega
          have HH := Lib.hid (hhint_any g g (some rest) last wr hs (by simp only [Option.getD_some]; omega))
          go_wp2_with fail
          refine HH.out.mono ?_
          rintro e w5 ⟨hb5, ⟨qi, qn, qt, qa, qm, qc⟩, rfl, e1, e2, e3, hO5, ra5, rc5, kR5, sb5⟩
          rw [show (hqEnc ⟨qi, qn, qt, qa, qm, qc⟩).toArray = #[.int .i64 qi, .int .i64 qn, .int .i64 qt, .slice qa qm qc] from rfl]
          simp only at e1 e2 e3
          have HE := Lib.hid (And.intro e1 (And.intro e2 e3))
          clear e1 e2 e3
          have A5 := below_alloc (Below.refl _ w5) (.cells #[.int .i64 qi, .int .i64 qn, .int .i64 qt, .slice qa qm qc] 64)
          have K5 := Lib.hid (Blk.new w5 64 #[.int .i64 qi, .int .i64 qn, .int .i64 qt, .slice qa qm qc])
          have hgs := kS.lt
          have kS5 := kS.but hb5 (by omega)
          have s05 : (w5.alloc (.cells #[.int .i64 qi, .int .i64 qn, .int .i64 qt, .slice qa qm qc] 64)).cell? ⟨gs, 0, none⟩ = some (.int .i64 nx) := (kS5.below A5).cell 0 rfl
          have s15 : (w5.alloc (.cells #[.int .i64 qi, .int .i64 qn, .int .i64 qt, .slice qa qm qc] 64)).cell? ⟨gs, 1, none⟩ = some (.slice sa qs.length sc) := (kS5.below A5).cell 1 rfl
          have sf5 := (kS5.below A5).frozen 1
          have K6 := SlX.lit (E := eT) (w5.alloc (.cells #[.int .i64 qi, .int .i64 qn, .int .i64 qt, .slice qa qm qc] 64)) #[.int .i64 qi, .int .i64 qn, .int .i64 qt, .slice qa qm qc] [⟨qi, qn, qt, qa, qm, qc⟩] 1 1 rfl (Nat.le_refl _) rfl
          rw [show (w5.alloc (.cells #[.int .i64 qi, .int .i64 qn, .int .i64 qt, .slice qa qm qc] 64)).heap.size = w5.heap.size + 1 by simp] at K6
          have HV6 := Lib.hid K6
          have oS6 := Lib.hid (((OwnX.but oS hb5 (fun k hk => by omega)).alloc (.cells #[.int .i64 qi, .int .i64 qn, .int .i64 qt, .slice qa qm qc] 64)).alloc (.cells #[.int .i64 qi, .int .i64 qn, .int .i64 qt, .slice qa qm qc] 64))
          have kS6 := Lib.hid ((kS5.below A5).alloc (.cells #[.int .i64 qi, .int .i64 qn, .int .i64 qt, .slice qa qm qc] 64))
          have hz5 := hb5.size
          have hq1 : qs.length + [(⟨qi, qn, qt, qa, qm, qc⟩ : Hq)].length ≤ 9223372036854775807 := by simp only [List.length_singleton]; omega
          have hq2 : (qs.length + [(⟨qi, qn, qt, qa, qm, qc⟩ : Hq)].length) * eT.bytes ≤ 140737488355328 := by show (qs.length + 1) * 48 ≤ _; omega
          have hw : IntKind.u64.wrap (((k1 + 1 : Nat) : Int) - 1) = (k1 : Int) := by rw [wu64]; omega
          have NX := Lib.hid (fun (w7 : World) (g7 c7 : Nat) (hO7 : OwnX eT w7 (gs + 1) (.slice (some ⟨g7, 0, none⟩) (qs.length + 1) c7) (qs ++ [⟨qi, qn, qt, qa, qm, qc⟩])) hG7 => RL.next (q := ⟨qi, qn, qt, qa, qm, qc⟩) (o1 := .cells #[.int .i64 qi, .int .i64 qn, .int .i64 qt, .slice qa qm qc] 64) (o2 := .cells #[.int .i64 qi, .int .i64 qn, .int .i64 qt, .slice qa qm qc] 64) hbel hkk kS oS hO hlen hT o1 o2 hb5 HE.out.1 HE.out.2.1 HE.out.2.2 hO5 kR5 sb5 hO7 hG7)
          clear s0 s1 r0 r1 HH K6 hbel kS oS hO hlen hT hb5 HE hO5 kR5 sb5 kS5 A5 kR sbR hs HR
          go_wp2_with (at_builtin; go_must (refine ap_g (E := eT) rfl (.tmp 52) (.tmp 54) rfl (gs + 1) _ qs _ _ [(⟨qi, qn, qt, qa, qm, qc⟩ : Hq)] rfl rfl HV6.out oS6.out (by simp only [World.size_alloc]; omega) hq1 hq2 ?_); intro v7 w7 hO7 hG7; obtain ⟨g7, c7, rfl, _, _, _, _⟩ := hO7.formN (qs.length + 1) (by simp) (by omega); have k7 := kS6.out.growV oS6.out hG7 (by decide); have t1 : w7.cell? ⟨gs, 1, none⟩ = some (.slice sa qs.length sc) := k7.cell 1 rfl; have tf := k7.frozen 1; have N7 := Lib.hid (NX.out w7 g7 c7 hO7 hG7); clear hO7 hG7 k7)
          exact ⟨⟨k1, qi, rfl, rfl, N7⟩, by show (((k1 : Nat) : Int)).toNat < (((k1 + 1 : Nat) : Int)).toNat; omega⟩
      · subst hT
        have r1 : wr.cell? ⟨g, 1, none⟩ = some (.bool true) := kR.cell 1 rfl
        clear hbel kS oS hO kR HR
        by_cases hk0 : kk = 0
        · subst hk0
          go_wp2_with fail
          go_ret3
          exact ⟨HBEL.out, rfl⟩
        · have hkp : (0 : Int) < (kk : Int) := by omega
          go_wp2_with fail
          go_ret3
          exact ⟨HBEL.out, rfl⟩
  · have hT := HDEF.out
    rw [if_neg he] at hT
    subst hT
    clear HDEF
    simp only at *
    rcases h1 : (ue != 0) with _ | _
    · have h2 : ((un : Int) != (l.length : Int)) = true := by
        rw [bne_iff_ne]; intro h; apply he; exact ⟨by simpa using h1, by omega⟩
      go_wp2_with fail
      go_ret3
      exact ⟨HB.out, rfl⟩
    · go_wp2_with fail
      go_ret3
      exact ⟨HB.out, rfl⟩
end Go.Proofs.Ytefndmjimmbhnaa
end
