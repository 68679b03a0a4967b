/- Contracts of slices.Clone at cells, of the stable sort, of cell's fold and Norm, at lists of one cell or none. -/
import Derived.Test.YtmjeifbadjdnfaaDoorHd
set_option linter.unusedVariables false
set_option linter.unusedSimpArgs false
set_option maxRecDepth 50000
namespace Go.Proofs.YtmjeifbadjdnfaaDoor
open Go.RowKit Go.Sort

theorem cloneC_any (g o n c : Nat) (L : List Cel) (w : World) (HV : SlX eC w.heap.size w (.slice (some ⟨g, o, none⟩) n c) L) (hl : L.length ≤ 1000000) :
    Calls Tryd.prog 79 #[.slice (some ⟨g, o, none⟩) n c] w
      fun e w' => ∃ v, e = .returned v ∧ OwnX eC w' w.heap.size v L ∧ Below w.heap.size w w' := by
  have q22 : ∀ (w : World), (binOp .eql 22 (.slice (some ⟨g, o, none⟩) n c) (.slice none 0 0)).run Tryd.prog w = .ok (.bool false) w := fun w => Lib.run_eql_slice_nil w _ _ _ n c 0 0 Tryd.underlying22
  have H0 := Lib.hid (OwnX.lit (E := eC) w w.heap.size #[] [] 0 (Nat.le_refl _) rfl (by simp) rfl)
  have HB0 := Lib.hid (below_alloc (Below.refl _ w) (.cells #[] 35))
  have HVa := Lib.hid (HV.below HB0.out)
  clear HV
  have hlx : ([] : List Cel).length + L.length ≤ 9223372036854775807 := by simp; omega
  have hly : (([] : List Cel).length + L.length) * eC.bytes ≤ 140737488355328 := by show (_ + _) * 112 ≤ _; simp; omega
  go_enter Tryd.func79, Tryd.ntmps79
  go_wp2_with (at_builtin; go_must (refine ap_x (E := eC) rfl (.tmp 5) (.tmp 6) rfl w.heap.size (.slice (some ⟨w.heap.size, 0, none⟩) 0 0) [] w.heap.size _ L rfl rfl HVa.out H0.out HB0.out HB0.out.size hlx hly ?_); intro v2 w2 hO2 hB2 hz2 _)
  go_ret
  exact ⟨v2, rfl, hO2, hB2⟩

theorem ins1_any (a : Option Addr) (c n : Nat) (f : Value) (w : World) (hn : n ≤ 1) :
    Calls Tryd.prog 132 #[.slice a n c, .int .i64 0, .int .i64 (n : Int), f] w fun e w' => e = .returned (.tuple #[]) ∧ w = w' := by
  have hz : ¬ (1 : Int) < (n : Int) := by omega
  have HZ := Lib.hid hz; clear hz hn
  go_enter Tryd.func132, Tryd.ntmps132
  go_wp2_with fail
  go_loopw [8, 9] (fun v8 _ wr => v8 = .int .i64 1 ∧ w = wr) (fun _ _ _ => 0)
  case atStart => exact ⟨rfl, rfl⟩
  case round =>
    obtain ⟨rfl, rfl⟩ := hrel
    have hz := HZ.out
    go_wp2_with fail
    exact bodyPost_end (v := .tuple #[]) (by simp [results, Tryd.results132, go_sem]) rfl ⟨rfl, rfl⟩
theorem stable1_any (a : Option Addr) (c n : Nat) (f : Value) (w : World) (hn : n ≤ 1) :
    Calls Tryd.prog 113 #[.slice a n c, .int .i64 (n : Int), f] w fun e w' => e = .returned (.tuple #[]) ∧ w = w' := by
  have C := Lib.hid (fun W => ins1_any a c n f W hn)
  have hz : ¬ (20 : Int) ≤ (n : Int) := by omega
  have hz2 : ¬ (20 : Int) < (n : Int) := by omega
  have HZ := Lib.hid hz; have HZ2 := Lib.hid hz2; clear hz hz2 hn
  go_enter Tryd.func113, Tryd.ntmps113
  go_wp2_with fail
  go_loopw [7, 8] (fun v7 v8 wr => v7 = .int .i64 0 ∧ v8 = .int .i64 20 ∧ w = wr) (fun _ _ _ => 0)
  case atStart => exact ⟨rfl, rfl, rfl⟩
  case round =>
    obtain ⟨rfl, rfl, rfl⟩ := hrel
    have hz := HZ.out
    go_wp2_with fail
    refine (C.out _).mono ?_
    rintro e w1 ⟨rfl, rfl⟩
    go_wp2_with fail
    go_loopw [6, 7, 8, 9] (fun v6 _ _ _ wr => v6 = .int .i64 20 ∧ w = wr) (fun _ _ _ _ _ => 0)
    case atStart => exact ⟨rfl, rfl⟩
    case round =>
      obtain ⟨rfl, rfl⟩ := hrel
      have hz2 := HZ2.out
      go_wp2_with fail
      exact bodyPost_end (v := .tuple #[]) (by simp [results, Tryd.results113, go_sem]) rfl ⟨rfl, rfl⟩
theorem sort1_any (a : Option Addr) (c n : Nat) (f : Value) (w : World) (hn : n ≤ 1) :
    Calls Tryd.prog 80 #[.slice a n c, f] w fun e w' => e = .returned (.tuple #[]) ∧ w = w' := by
  have C := Lib.hid (fun W => stable1_any a c n f W hn)
  clear hn
  go_enter Tryd.func80, Tryd.ntmps80
  go_wp2_with fail
  refine (C.out _).mono ?_
  rintro e w1 ⟨rfl, rfl⟩
  go_wp2_with fail
  exact bodyPost_end (v := .tuple #[]) (by simp [results, Tryd.results80, go_sem]) rfl ⟨rfl, rfl⟩

set_option maxHeartbeats 2000000 in
theorem fold1_any (g o c : Nat) (x : Cel) (f1 f2 : Value) (w : World) (HV : SlX eC w.heap.size w (.slice (some ⟨g, o, none⟩) 1 c) [x]) :
    Calls Tryd.prog 83 #[.slice (some ⟨g, o, none⟩) 1 c, f1, f2] w fun e w' => ∃ v, e = .returned v ∧ OwnX eC w' w.heap.size v [x] ∧ Below w.heap.size w w' := by
  have ten := Ten.of HV 0 (by simp)
  simp only [List.getElem_cons_zero, Nat.zero_mul, Nat.add_zero] at ten
  have TEN := Lib.hid ten
  clear HV ten
  go_enter Tryd.func83, Tryd.ntmps83
  go_wp2_with fail
  go_loopw [7, 9, 10, 13] (fun v7 _ _ v13 wr => (v13 = .int .i64 0 ∧ v7 = .slice none 0 0 ∧ w = wr) ∨ (v13 = .int .i64 1 ∧ OwnX eC wr w.heap.size v7 [x] ∧ Below w.heap.size w wr)) (fun _ _ _ v13 _ => 1 - (intOf v13).toNat)
  case atStart => exact .inl ⟨rfl, rfl, rfl⟩
  case round =>
    rcases hrel with ⟨rfl, rfl, rfl⟩ | ⟨rfl, hO, hB⟩
    · obtain ⟨c0, c1, c2, c3, c4, c5, c6, c7, c8, c9⟩ := TEN.out
      obtain ⟨⟨t, p, r, q⟩, ⟨tm, dd, lc, kd, nn, ss⟩⟩ := x
      simp only at *
      go_wp2_with fail
      go_quiet (fail)
      have hbk : Blk (w.alloc (.cells #[.string t, .string p, .int .i64 r, .string q, .int .i64 tm, .bool dd, .int .i64 lc, .int .i64 kd, .int .i64 nn, .string ss] 35)) w.heap.size 35 #[.string t, .string p, .int .i64 r, .string q, .int .i64 tm, .bool dd, .int .i64 lc, .int .i64 kd, .int .i64 nn, .string ss] := Blk.new w _ _
      have HBK := Lib.hid (hbk.drewN nq)
      have HBV := Lib.hid (below_drewN (below_alloc (Below.refl _ w) (.cells #[.string t, .string p, .int .i64 r, .string q, .int .i64 tm, .bool dd, .int .i64 lc, .int .i64 kd, .int .i64 nn, .string ss] 35)) nq)
      clear hbk c0 c1 c2 c3 c4 c5 c6 c7 c8 c9
      generalize hV : (w.alloc (.cells #[.string t, .string p, .int .i64 r, .string q, .int .i64 tm, .bool dd, .int .i64 lc, .int .i64 kd, .int .i64 nn, .string ss] 35)).drewN nq = V at *
      have HV := Lib.hid hV; clear hV
      have c0 := HBK.out.cell 0 rfl; have c1 := HBK.out.cell 1 rfl; have c2 := HBK.out.cell 2 rfl; have c3 := HBK.out.cell 3 rfl; have c4 := HBK.out.cell 4 rfl
      have c5 := HBK.out.cell 5 rfl; have c6 := HBK.out.cell 6 rfl; have c7 := HBK.out.cell 7 rfl; have c8 := HBK.out.cell 8 rfl; have c9 := HBK.out.cell 9 rfl
      have HW := Lib.hid (below_al HBV.out (.cells #[.string t, .string p, .int .i64 r, .string q, .int .i64 tm, .bool dd, .int .i64 lc, .int .i64 kd, .int .i64 nn, .string ss] 35) HBV.out.size)
      go_wp2_with (at_builtin; go_must (refine ap_x (E := eC) rfl (.tmp 43) (.tmp 45) rfl w.heap.size (.slice none 0 0) [] _ _ [⟨⟨t, p, r, q⟩, ⟨tm, dd, lc, kd, nn, ss⟩⟩] rfl rfl (SlX.lit (E := eC) V #[.string t, .string p, .int .i64 r, .string q, .int .i64 tm, .bool dd, .int .i64 lc, .int .i64 kd, .int .i64 nn, .string ss] [⟨⟨t, p, r, q⟩, ⟨tm, dd, lc, kd, nn, ss⟩⟩] 1 1 rfl (by simp) rfl) (OwnX.nil _ _) HW.out HW.out.size (by simp) (by simp [eC]) ?_); intro v2 w2 hO2 hB2 hz2 _)
      exact ⟨.inr ⟨rfl, hO2, hB2⟩, by simp [intOf]⟩
    · obtain ⟨gx, cx, rfl, _⟩ := OwnX.formN hO 1 rfl (by omega)
      have HO := Lib.hid hO; have HB := Lib.hid hB; clear hO hB
      go_wp2_with fail
      go_ret
      exact ⟨_, rfl, HO.out, HB.out⟩

theorem norm1_any (g o c : Nat) (x : Cel) (w : World) (HV : SlX eC w.heap.size w (.slice (some ⟨g, o, none⟩) 1 c) [x]) :
    Calls Tryd.prog 65 #[.slice (some ⟨g, o, none⟩) 1 c] w fun e w' => ∃ v, e = .returned v ∧ OwnX eC w' w.heap.size v [x] ∧ Below w.heap.size w w' := by
  have C1 := Lib.hid (cloneC_any g o 1 c [x] w HV (by simp))
  clear HV
  go_enter Tryd.func65, Tryd.ntmps65
  go_wp2_with fail
  refine C1.out.mono ?_
  rintro e w1 ⟨v, rfl, hO, hb⟩
  obtain ⟨gx, cx, rfl, _⟩ := OwnX.formN hO 1 rfl (by omega)
  have C2 := Lib.hid (fun f => sort1_any (some ⟨gx, 0, none⟩) cx 1 f w1 (Nat.le_refl _))
  have C3 := Lib.hid (fun f1 f2 => fold1_any gx 0 cx x f1 f2 w1 hO.sl)
  have HB1 := Lib.hid hb
  clear hO hb
  go_wp2_with fail
  refine (C2.out _).mono ?_
  rintro e w2 ⟨rfl, rfl⟩
  go_wp2_with fail
  refine (C3.out _ _).mono ?_
  rintro e w3 ⟨v, rfl, hO, hb⟩
  obtain ⟨gy, cy, rfl, _⟩ := OwnX.formN hO 1 rfl (by omega)
  have HO := Lib.hid (OwnX.weaken hO HB1.out.size); have HB := Lib.hid (below_tr HB1.out hb)
  clear hO hb
  go_wp2_with fail
  go_ret
  exact ⟨_, rfl, HO.out, HB.out⟩
end Go.Proofs.YtmjeifbadjdnfaaDoor
