/- Contracts of purge.Cells and Table at one cell, of the law's lives. No condition. -/
import Derived.Test.YtmjeifbadjdnfaaDoorHf
set_option linter.unusedVariables false
set_option linter.unusedSimpArgs false
set_option maxRecDepth 50000
namespace Go.Proofs.YtmjeifbadjdnfaaDoor
open Go.RowKit Go.Sort

theorem cells0_any (g o c : Nat) (x : Cel) (now gr : Int) (w : World) (HV : SlX eC w.heap.size w (.slice (some ⟨g, o, none⟩) 1 c) [x]) (hk : KyOk x.k) (i1 : In64 x.v.loc) (i2 : In64 now) (i3 : In64 gr) :
    Calls Tryd.prog 16 #[.slice (some ⟨g, o, none⟩) 1 c, .slice none 0 0, .int .i64 now, .int .i64 gr] w
      fun e w' => ∃ a c', e = .returned (.slice a (if oldV x.v now gr then 0 else 1) c') ∧ Below w.heap.size w w' := by
  have C := Lib.hid (without1_any g o c x now gr (.slice none 0 0) [] w HV (SlX.nil _ _ _) (by simp) hk i1 i2 i3 (by simp))
  have e0 : goneB now gr [] x = oldV x.v now gr := by simp [goneB, anyIn]
  rw [e0] at C
  generalize oldV x.v now gr = b at *
  clear HV hk i1 i2 i3 e0
  go_enter Tryd.func16, Tryd.ntmps16
  go_wp2_with fail
  go_loopw [9, 11, 14] (fun v9 _ v14 wr => v9 = .slice none 0 0 ∧ v14 = .int .i64 0 ∧ w = wr) (fun _ _ _ _ => 0)
  case atStart => exact ⟨rfl, rfl, rfl⟩
  case round =>
    obtain ⟨rfl, rfl, rfl⟩ := hrel
    go_wp2_with fail
    refine C.out.mono ?_
    rintro e w1 ⟨a, c', rfl, hb⟩
    have HB := Lib.hid hb; clear hb
    cases b <;> (go_wp2_with fail; go_ret; first | exact ⟨_, _, rfl, HB.out⟩ | exact ⟨⟨_, _, rfl⟩, HB.out⟩)

theorem cells1_any (g o c go_ : Nat) (x : Cel) (now gr : Int) (w : World) (HV : SlX eC w.heap.size w (.slice (some ⟨g, o, none⟩) 1 c) [x]) (hgo : w.cell? ⟨go_, 0, none⟩ = some (.slice (some ⟨g, o, none⟩) 1 c)) (hk : KyOk x.k) (i1 : In64 x.v.loc) (i2 : In64 now) (i3 : In64 gr) :
    Calls Tryd.prog 16 #[.slice (some ⟨g, o, none⟩) 1 c, .slice (some ⟨go_, 0, none⟩) 1 1, .int .i64 now, .int .i64 gr] w
      fun e w' => ∃ a c', e = .returned (.slice a 1 c') ∧ Below w.heap.size w w' := by
  have C1 := Lib.hid (having_any _ [x] w HV (by intro c hc; simp at hc; subst hc; exact hk) (by simp))
  have C2 := Lib.hid (fun val (gm b : Nat) W (hb : Below w.heap.size w W) (hO : OwnX eF W w.heap.size val [(gm, [x.k])]) (h1 : W.cell? ⟨gm, 0, none⟩ = some (.map (some b))) (h2 : MapK W b [x.k]) => without1_any g o c x now gr val [(gm, [x.k])] W (HV.keep hb) hO.sl (by intro a ha; simp at ha; subst ha; exact ⟨b, h1, h2⟩) hk i1 i2 i3 (by simp))
  have e0 : ∀ gm : Nat, goneB now gr [(gm, [x.k])] x = false := fun gm => by simp [goneB, anyIn]
  have E0 := Lib.hid e0
  clear HV hk i1 i2 i3 e0
  go_enter Tryd.func16, Tryd.ntmps16
  go_wp2_with fail
  go_loopw [9, 11, 14] (fun v9 _ v14 wr => (v9 = .slice none 0 0 ∧ v14 = .int .i64 0 ∧ w = wr) ∨ (v14 = .int .i64 1 ∧ Below w.heap.size w wr ∧ ∃ gm b, OwnX eF wr w.heap.size v9 [(gm, [x.k])] ∧ wr.cell? ⟨gm, 0, none⟩ = some (.map (some b)) ∧ MapK wr b [x.k])) (fun _ _ v14 _ => 1 - (intOf v14).toNat)
  case atStart => exact .inl ⟨rfl, rfl, rfl⟩
  case round =>
    rcases hrel with ⟨rfl, rfl, rfl⟩ | ⟨rfl, hB, gm, b, hO, h1, h2⟩
    · go_wp2_with fail
      refine C1.out.mono ?_
      rintro e w1 ⟨gm, b, rfl, h1, h2, hb⟩
      have HB1 := Lib.hid hb; have H1 := Lib.hid h1; have H2 := Lib.hid h2; clear hb h1 h2
      have HW := Lib.hid (below_alloc HB1.out (.cells #[.func (.func 60) #[] #[.pointer (some ⟨gm, 0, none⟩)]] 79))
      go_wp2_with (at_builtin; go_must (refine ap_x (E := eF) rfl (.tmp 18) (.tmp 21) rfl w.heap.size (.slice none 0 0) [] _ _ [(gm, [x.k])] rfl rfl (SlX.lit (E := eF) w1 #[.func (.func 60) #[] #[.pointer (some ⟨gm, 0, none⟩)]] [(gm, [x.k])] 1 1 rfl (by simp) rfl) (OwnX.nil _ _) HW.out HW.out.size (by simp) (by simp [eF]) ?_); intro v2 w2 hO2 hB2 hz2 hg2)
      have hbx : Below (w1.alloc (.cells #[.func (.func 60) #[] #[.pointer (some ⟨gm, 0, none⟩)]] 79)).heap.size (w1.alloc (.cells #[.func (.func 60) #[] #[.pointer (some ⟨gm, 0, none⟩)]] 79)) w2 := ⟨hg2.os, hg2.tape, hg2.output, hg2.size, fun k hk => hg2.block k hk (by simp [Value.ownBlock])⟩
      have hby := below_tr (below_alloc (Below.refl _ w1) (.cells #[.func (.func 60) #[] #[.pointer (some ⟨gm, 0, none⟩)]] 79)) hbx
      exact ⟨.inr ⟨rfl, hB2, gm, b, hO2, cell_keep hby H1.out, H2.out.below hby⟩, by simp [intOf]⟩
    · obtain ⟨gx, cx, rfl, _⟩ := OwnX.formN hO 1 rfl (by omega)
      have C := Lib.hid (C2.out _ gm b _ hB hO h1 h2)
      have HB := Lib.hid hB
      clear hO h1 h2 hB
      rw [E0.out] at C
      go_wp2_with fail
      refine C.out.mono ?_
      rintro e w3 ⟨a, c', rfl, hb⟩
      have HB2 := Lib.hid (below_tr HB.out hb); clear hb
      go_wp2_with fail
      go_ret
      first | exact ⟨_, _, rfl, HB2.out⟩ | exact ⟨⟨_, _, rfl⟩, HB2.out⟩

theorem table1_any (g o c : Nat) (x : Cel) (now gr : Int) (w : World) (HV : SlX eC w.heap.size w (.slice (some ⟨g, o, none⟩) 1 c) [x]) (hk : KyOk x.k) (i1 : In64 x.v.loc) (i2 : In64 now) (i3 : In64 gr) :
    Calls Tryd.prog 37 #[.slice (some ⟨g, o, none⟩) 1 c, .slice none 0 0, .slice none 0 0, .int .i64 now, .int .i64 gr] w
      fun e w' => ∃ a c', e = .returned (.slice a (if oldV x.v now gr then 0 else 1) c') ∧ Below w.heap.size w w' := by
  have C1 := Lib.hid (having_any (.slice none 0 0) [] w (SlX.nil _ _ _) (by simp) (by simp))
  have C2 := Lib.hid (fun (gm b : Nat) (w1 : World) (hb : Below w.heap.size w w1) (h1 : w1.cell? ⟨gm, 0, none⟩ = some (.map (some b))) (h2 : MapK w1 b []) =>
    have hb2 := below_alloc (Below.refl _ w1) (.cells #[.func (.func 60) #[] #[.pointer (some ⟨gm, 0, none⟩)]] 79)
    without1_any g o c x now gr _ [(gm, [])] (w1.alloc (.cells #[.func (.func 60) #[] #[.pointer (some ⟨gm, 0, none⟩)]] 79)) (HV.keep (below_tr hb hb2)) (SlX.lit (E := eF) w1 #[.func (.func 60) #[] #[.pointer (some ⟨gm, 0, none⟩)]] [(gm, [])] 1 1 rfl (by simp) rfl) (by intro a ha; simp at ha; subst ha; exact ⟨b, cell_keep hb2 h1, h2.below hb2⟩) hk i1 i2 i3 (by simp))
  have e0 : ∀ gm : Nat, goneB now gr [(gm, [])] x = oldV x.v now gr := fun gm => by simp [goneB, anyIn]
  simp only [e0] at C2
  generalize oldV x.v now gr = bb at *
  clear HV hk i1 i2 i3 e0
  go_enter Tryd.func37, Tryd.ntmps37
  go_wp2_with fail
  refine C1.out.mono ?_
  rintro e w1 ⟨gm, b, rfl, h1, h2, hb⟩
  have C := Lib.hid (C2.out gm b w1 hb h1 h2)
  have HB1 := Lib.hid (below_alloc hb (.cells #[.func (.func 60) #[] #[.pointer (some ⟨gm, 0, none⟩)]] 79))
  clear hb h1 h2 C2
  go_wp2_with fail
  generalize w1.alloc (.cells #[.func (.func 60) #[] #[.pointer (some ⟨gm, 0, none⟩)]] 79) = w2 at *
  go_loopw [11, 13, 19] (fun v11 _ v19 wr => v11 = .slice (some ⟨w1.heap.size, 0, none⟩) 1 1 ∧ v19 = .int .i64 0 ∧ w2 = wr) (fun _ _ _ _ => 0)
  case atStart => exact ⟨rfl, rfl, rfl⟩
  case round =>
    obtain ⟨rfl, rfl, rfl⟩ := hrel
    go_wp2_with fail
    refine C.out.mono ?_
    rintro e w3 ⟨a, c', rfl, hb⟩
    have HB := Lib.hid (below_tr HB1.out hb); clear hb
    cases bb <;> (go_wp2_with fail; go_ret; first | exact ⟨_, _, rfl, HB.out⟩ | exact ⟨⟨_, _, rfl⟩, HB.out⟩)

def cA : Cel := cDead ⟨#[97]⟩ 5
theorem cA_ok : KyOk cA.k := ⟨by decide, by decide, by unfold In64 cA cDead; simp, by decide⟩
theorem lives11_any (w : World) : Calls Tryd.prog 12 #[] w fun e w' => e = .returned (.bool true) ∧ Below w.heap.size w w' := by
  have D := Lib.hid (fun W => dead_any ⟨#[97]⟩ 5 W)
  have O := Lib.hid (fun now W (h : In64 now) => Old_any cA.v now 10 W (by unfold In64 cA cDead; simp) h (by unfold In64; simp))
  have C0 := Lib.hid (fun g o c W H => cells0_any g o c cA 15 10 W H cA_ok (by unfold In64 cA cDead; simp) (by unfold In64; simp) (by unfold In64; simp))
  have C1 := Lib.hid (fun g o c go_ W H h => cells1_any g o c go_ cA 15 10 W H h cA_ok (by unfold In64 cA cDead; simp) (by unfold In64; simp) (by unfold In64; simp))
  have T := Lib.hid (fun g o c W H => table1_any g o c cA 14 10 W H cA_ok (by unfold In64 cA cDead; simp) (by unfold In64; simp) (by unfold In64; simp))
  have o15 : oldV cA.v 15 10 = true := by decide
  have o14 : oldV cA.v 14 10 = false := by decide
  have LIT := Lib.hid (fun W => SlX.lit (E := eC) W #[.string ⟨#[116]⟩, .string ⟨#[120]⟩, .int .i64 0, .string ⟨#[97]⟩, .int .i64 1, .bool true, .int .i64 5, .int .i64 0, .int .i64 0, .string ⟨#[]⟩] [cA] 1 1 rfl (by simp) rfl)
  have BLK := Lib.hid (fun W => Blk.new W 35 #[.string ⟨#[116]⟩, .string ⟨#[120]⟩, .int .i64 0, .string ⟨#[97]⟩, .int .i64 1, .bool true, .int .i64 5, .int .i64 0, .int .i64 0, .string ⟨#[]⟩])
  rw [o15] at C0
  rw [o14] at T
  simp only [celEnc, cDead] at D
  have O15 := Lib.hid (fun W => O.out 15 W (by unfold In64; simp))
  have O14 := Lib.hid (fun W => O.out 14 W (by unfold In64; simp))
  rw [o15] at O15
  rw [o14] at O14
  simp only [vrEnc, cA, cDead] at O15 O14
  clear O
  go_enter Tryd.func12, Tryd.ntmps12
  go_wp2_with fail
  refine (D.out _).mono ?_
  rintro e w1 ⟨rfl, hb⟩
  have HB1 := Lib.hid hb; clear hb D
  go_wp2_with fail
  have bk := BLK.out w1
  have sl : SlX eC (w1.alloc (.cells #[.string ⟨#[116]⟩, .string ⟨#[120]⟩, .int .i64 0, .string ⟨#[97]⟩, .int .i64 1, .bool true, .int .i64 5, .int .i64 0, .int .i64 0, .string ⟨#[]⟩] 35)).heap.size (w1.alloc (.cells #[.string ⟨#[116]⟩, .string ⟨#[120]⟩, .int .i64 0, .string ⟨#[97]⟩, .int .i64 1, .bool true, .int .i64 5, .int .i64 0, .int .i64 0, .string ⟨#[]⟩] 35)) (.slice (some ⟨w1.heap.size, 0, none⟩) 1 1) [cA] := LIT.out w1
  have hb2 := below_alloc (Below.refl _ w1) (.cells #[.string ⟨#[116]⟩, .string ⟨#[120]⟩, .int .i64 0, .string ⟨#[97]⟩, .int .i64 1, .bool true, .int .i64 5, .int .i64 0, .int .i64 0, .string ⟨#[]⟩] 35)
  have HB2 := Lib.hid (below_tr HB1.out hb2)
  clear hb2
  generalize w1.alloc (.cells #[.string ⟨#[116]⟩, .string ⟨#[120]⟩, .int .i64 0, .string ⟨#[97]⟩, .int .i64 1, .bool true, .int .i64 5, .int .i64 0, .int .i64 0, .string ⟨#[]⟩] 35) = w2 at *
  generalize w1.heap.size = g at *
  have CEL := Lib.hid (fun W (h : Below w2.heap.size w2 W) => (show W.cell? ⟨g, 4, none⟩ = some (.int .i64 1) ∧ W.cell? ⟨g, 5, none⟩ = some (.bool true) ∧ W.cell? ⟨g, 6, none⟩ = some (.int .i64 5) ∧ W.cell? ⟨g, 7, none⟩ = some (.int .i64 0) ∧ W.cell? ⟨g, 8, none⟩ = some (.int .i64 0) ∧ W.cell? ⟨g, 9, none⟩ = some (.string ⟨#[]⟩) from ⟨(bk.below h).cell 4 rfl, (bk.below h).cell 5 rfl, (bk.below h).cell 6 rfl, (bk.below h).cell 7 rfl, (bk.below h).cell 8 rfl, (bk.below h).cell 9 rfl⟩))
  have SL := Lib.hid sl
  clear bk sl
  refine (O15.out _).mono ?_
  rintro e w3 ⟨rfl, hb3⟩
  have HB3 := Lib.hid hb3; clear hb3 O15
  obtain ⟨c4, c5, c6, c7, c8, c9⟩ := CEL.out _ HB3.out
  go_wp2_with fail
  clear c4 c5 c6 c7 c8 c9
  refine (O14.out _).mono ?_
  rintro e w4 ⟨rfl, hb4⟩
  have HB4 := Lib.hid (below_tr HB3.out hb4); clear hb4 O14 HB3
  go_wp2_with fail
  refine (C0.out g 0 1 _ (SL.out.keep HB4.out)).mono ?_
  rintro e w5 ⟨a5, c5, rfl, hb5⟩
  have HB5 := Lib.hid (below_tr HB4.out hb5); clear hb5 HB4 C0
  go_wp2_with fail
  have sl6 := (SL.out.keep HB5.out).keep (below_alloc (Below.refl _ w5) (.cells #[.slice (some ⟨g, 0, none⟩) 1 1] 22))
  have hx6 := (Blk.new w5 22 #[.slice (some ⟨g, 0, none⟩) 1 1]).cell 0 (v := .slice (some ⟨g, 0, none⟩) 1 1) rfl
  have HB6 := Lib.hid (below_alloc HB5.out (.cells #[.slice (some ⟨g, 0, none⟩) 1 1] 22)); clear HB5
  refine (C1.out g 0 1 _ _ sl6 hx6).mono ?_
  rintro e w7 ⟨a7, c7, rfl, hb7⟩
  have HB7 := Lib.hid (below_tr HB6.out hb7); clear hb7 HB6 C1 sl6 hx6
  go_wp2_with fail
  refine (T.out g 0 1 _ (SL.out.keep HB7.out)).mono ?_
  rintro e w8 ⟨a8, c8, rfl, hb8⟩
  have HB8 := Lib.hid (below_tr HB7.out hb8); clear hb8 HB7 T
  go_wp2_with fail
  go_ret
  exact ⟨rfl, below_tr HB2.out HB8.out⟩
end Go.Proofs.YtmjeifbadjdnfaaDoor
