/- Contract of the disk's Append where nothing is wrong. The name is good, the disk is not dark, the file is there, there is room. Contract of the disk's New. Condition: a room that the disk admits. Contract of the disk's Read where the file is not there. The name is good, the disk is not dark. -/
import Derived.Test.YtefndmjimmbhnaaZ35
section
set_option linter.unusedVariables false
set_option linter.unusedSimpArgs false
set_option maxRecDepth 50000
namespace Go.Proofs.Ytefndmjimmbhnaa
open Go.RowKit Go.Shelf

theorem SlX.aside {α : Type} {E : El α} {S : Nat → Prop} {w W : World} {v : Value} {l : List α} (h : SlX E w.heap.size w v l) (hb : But S w W) (hs : ∀ ad n c, v = .slice (some ad) n c → ¬ S ad.block) : SlX E W.heap.size W v l := by
  obtain ⟨a, c, e, hc, hx⟩ := h.ex
  refine ⟨a, c, e, hc, fun h0 => ?_⟩
  obtain ⟨g, o, ea, hg, hcell⟩ := hx h0
  exact ⟨g, o, ea, Nat.lt_of_lt_of_le hg hb.size, fun j u hj => hb.cell (hcell j u hj) (hs ⟨g, o, none⟩ _ _ (by rw [e, ea]))⟩
set_option maxHeartbeats 4000000 in
theorem append_any (D : Dsk) (nm : ByteArray) (f : Fil) (x : List UInt8) (xv : Value) (w : World) (h : DiskW w D) (hd : D.dark = false) (hg : diskNameB nm = true) (hf : D.get nm = some f) (hv : SlX eB w.heap.size w xv x) (ho : ∀ ad n c, xv = .slice (some ad) n c → ¬ D.foot ad.block) (hx : (sect (f.b.length + x.length) : Int) - sect f.b.length ≤ D.room - D.used) :
    Calls Try.prog 55 #[ptrV D.d, .string nm, xv] w fun e w' => (D.plan = 1 ∧ e = .returned (.int .i64 9) ∧ ∃ r lr, Mv w D w' ((D.tick.append nm x r lr).crash D.keep)) ∨ (D.plan ≠ 1 ∧ e = .returned (.int .i64 0) ∧ ∃ r lr, Mv w D w' (D.tick.append nm x r lr)) := by
  have hz := good_size hg
  obtain ⟨xa, xc, rfl, hxc, _⟩ := hv.ex
  have B0 := below_alloc (below_alloc (Below.refl _ w) (.cells #[ptrV D.d] 29)) (.cells #[.slice xa x.length xc] 69)
  have k0 := ((Blk.new w 29 #[ptrV D.d]).alloc (.cells #[.slice xa x.length xc] 69)).alloc (.cells #[.string nm] 9)
  have k1 := (Blk.new (w.alloc (.cells #[ptrV D.d] 29)) 69 #[.slice xa x.length xc]).alloc (.cells #[.string nm] 9)
  have B1 := below_alloc B0 (.cells #[.string nm] 9)
  rw [show (w.alloc (.cells #[ptrV D.d] 29)).heap.size = w.heap.size + 1 by simp] at k1
  have FT := fault_any D _ [nm] true _ (h.below B1) (by simp) (by simp; omega) (.inl (asked_new _ nm)) (by simp)
  rw [faultC_one hd hg true (by simp [hf])] at FT
  rw [show ((w.alloc (.cells #[ptrV D.d] 29)).alloc (.cells #[.slice xa x.length xc] 69)).heap.size = w.heap.size + 1 + 1 by simp] at FT
  have FTH := Lib.hid FT
  have p0 := ((Blk.new w 29 #[ptrV D.d]).alloc (.cells #[.slice xa x.length xc] 69)).cell 0 rfl
  have X0 := Lib.hid k0; have X1 := Lib.hid k1
  have BB1 := Lib.hid B1; have HH := Lib.hid h; have HF := Lib.hid hf; have HD := Lib.hid hd; have HZ := Lib.hid hz; have HV := Lib.hid hv; have HX := Lib.hid hx; have HOO := Lib.hid ho
  clear h hf hd hg hz B0 B1 k0 k1 FT hv hx ho
  simp only [ptrV] at *
  go_enter Try.func55, Try.ntmps55
  go_wp2_with fail
  refine FTH.out.mono ?_
  rintro e w1 ⟨rfl, hb⟩
  have BX := Lib.hid (below_tr BB1.out hb)
  have Y0 := Lib.hid (X0.out.below hb); have Y1 := Lib.hid (X1.out.below hb)
  have y0 := Y0.out.cell 0 rfl
  have dw1 := HH.out.below BX.out
  obtain ⟨ops, lc, hm, _⟩ := dw1.main
  have d1 : w1.cell? ⟨D.d, 1, none⟩ = some (.map (some D.m)) := hm.cell 1 rfl
  have LK := dw1.look nm (by have := HZ.out; omega)
  rw [HF.out] at LK
  obtain ⟨hfm, _⟩ := get_mem HF.out
  obtain ⟨c, hpb, hpo⟩ := (dw1.pg f hfm).ex
  have A1 := below_alloc (Below.refl _ w1) (.cells #[ptrV f.a] 82)
  have A2 := below_alloc A1 (.cells #[.int .i64 (f.b.length : Int)] 3)
  have n1 := Blk.new w1 82 #[ptrV f.a]
  have n2 := Blk.new (w1.alloc (.cells #[ptrV f.a] 82)) 3 #[.int .i64 (f.b.length : Int)]
  rw [show (w1.alloc (.cells #[ptrV f.a] 82)).heap.size = w1.heap.size + 1 by simp] at n2
  have pp := (hpb.below A1).cell 0 rfl
  have n1c := n1.cell 0 rfl
  have N1 := Lib.hid (n1.alloc (.cells #[.int .i64 (f.b.length : Int)] 3)); have N2 := Lib.hid n2
  have HA2 := Lib.hid A2
  clear hb X0 X1 BB1 FTH hm dw1 hpb hpo A1 A2 n1 n2
  simp only [ptrV, rowV, Option.map_some] at *
  go_wp2_with fail
  generalize (w1.alloc (.cells #[.pointer (some ⟨f.a, 0, none⟩)] 82)).alloc (.cells #[.int .i64 (f.b.length : Int)] 3) = W2 at *
  have BW2 := Lib.hid (below_tr BX.out HA2.out)
  have dw2 := HH.out.below BW2.out
  have FAR := Lib.hid (fun k (hk : w.heap.size ≤ k) => HH.out.fresh hk)
  have SZ1 := Lib.hid BX.out.size
  have W0 := Lib.hid ((Y0.out.below HA2.out).cell 0 rfl); have W1 := Lib.hid ((Y1.out.below HA2.out).cell 0 rfl)
  have V0 := Lib.hid (N1.out.cell 0 rfl); have V1 := Lib.hid (N2.out.cell 0 rfl)
  have PF := Lib.hid (fun w2 (h2 : InW W2 w2) => (perform_any D 85 81 #[ptrV w1.heap.size, ptrV (w.heap.size + 1), ptrV w.heap.size, ptrV (w1.heap.size + 1)] #[] (enters_of Try.func85 (by kernel_rfl) rfl) (enters_of Try.func81 (by kernel_rfl) rfl)
    (fun E => ∃ r lr, E = D.tick.append nm x r lr) (fun E F => F = E) w2 (dw2.below h2)
    (fun E hE => by obtain ⟨r, lr, rfl⟩ := hE; rw [append_eq (show D.tick.get nm = some f from HF.out)]; exact ⟨HD.out, rfl⟩)
    (fun W hmv => append1_any D.tick nm f x (.slice xa x.length xc) w1.heap.size (w.heap.size + 1) w.heap.size (w1.heap.size + 1) W hmv.dw HF.out
      (SlX.aside (HV.out.keep (below_tr BW2.out h2)) hmv.but HOO.out) HX.out
      (hmv.but.cell (cell_keep h2 V0.out) (FAR.out w1.heap.size SZ1.out)) (hmv.but.cell (cell_keep h2 W1.out) (FAR.out (w.heap.size + 1) (by omega))) (hmv.but.cell (cell_keep h2 W0.out) (FAR.out _ (Nat.le_refl _))) (hmv.but.cell (cell_keep h2 V1.out) (FAR.out (w1.heap.size + 1) (by have := SZ1.out; omega)))
      (FAR.out w1.heap.size SZ1.out) (FAR.out (w.heap.size + 1) (by omega)) (FAR.out _ (Nat.le_refl _)) (FAR.out (w1.heap.size + 1) (by have := SZ1.out; omega)))
    (fun W E hE hmv _ => (none_any W).mono fun e w' hx => ⟨hx.1, E, rfl, Mv.refl hmv.dw hx.2⟩)).mono
    (show ∀ e w', _ → ((D.plan = 1 ∧ e = .returned (.int .i64 9) ∧ ∃ r lr, Mv w D w' ((D.tick.append nm x r lr).crash D.keep)) ∨ (D.plan ≠ 1 ∧ e = .returned (.int .i64 0) ∧ ∃ r lr, Mv w D w' (D.tick.append nm x r lr))) from by
      intro e w' hx
      rcases hx with ⟨h1, h2', E, ⟨r, lr, rfl⟩, h3⟩ | ⟨h1, h2', E, F, ⟨r, lr, rfl⟩, rfl, h3⟩
      · exact .inl ⟨h1, h2', r, lr, Mv.head HH.out (below_tr BW2.out h2) h3⟩
      · exact .inr ⟨h1, h2', r, lr, Mv.head HH.out (below_tr BW2.out h2) h3⟩))
  obtain ⟨tot, htot⟩ : ∃ n, f.b.length + x.length = n := ⟨_, rfl⟩
  have htb : tot ≤ 17179869184 := by have := HX.out; have := sect_eq (f.b.length + x.length); have := dw2.ok.used; have := dw2.ok.room1; have := size_used dw2.ok hfm; omega
  have hlb := size_len dw2.ok hfm
  have q1 : wrap64 ((f.b.length : Int) + (x.length : Int)) = (tot : Int) := by unfold wrap64; omega
  have SE1 := Lib.hid (fun W => sectors_any tot (by omega) W)
  have SE0 := Lib.hid (fun W => sectors_any f.b.length (by omega) W)
  have HX2 := HX.out
  rw [htot] at HX2
  have hs1 := sect_le tot; have hs0 := sect_le f.b.length
  obtain ⟨s1, hs1e⟩ : ∃ n, sect tot = n := ⟨_, rfl⟩
  obtain ⟨s0, hs0e⟩ : ∃ n, sect f.b.length = n := ⟨_, rfl⟩
  rw [hs1e] at SE1 HX2 hs1
  rw [hs0e] at SE0 HX2 hs0
  have q2 : wrap64 ((s1 : Int) - (s0 : Int)) = (s1 : Int) - (s0 : Int) := by unfold wrap64; omega
  have FR := Lib.hid (fun W' (hW : InW W2 W') => free_any D W' (dw2.below hW))
  obtain ⟨fr, hfr⟩ : ∃ z, D.room - (D.used : Int) = z := ⟨_, rfl⟩
  rw [hfr] at FR HX2
  have qe1 : IntKind.i64.wrap ((f.b.length : Int) + (x.length : Int)) = (tot : Int) := by rw [IntKind.wrap_i64]; omega
  have SE2 := Lib.hid (fun W => show Calls Try.prog 84 #[.int .i64 (IntKind.i64.wrap ((f.b.length : Int) + (x.length : Int)))] W (fun e w' => e = .returned (.int .i64 (s1 : Int)) ∧ Below W.heap.size W w') from by rw [qe1]; exact SE1.out W)
  have q4 : IntKind.i64.wrap ((s1 : Int) - (s0 : Int)) = (s1 : Int) - (s0 : Int) := by rw [IntKind.wrap_i64]; omega
  have q3 : ¬ fr < (s1 : Int) - (s0 : Int) := by omega
  have w0c := W0.out; have w1c := W1.out; have v0c := V0.out; have v1c := V1.out
  clear qe1 htot htb hlb HX2 hs1 hs0 hs1e hs0e hfr dw2 hfm pp n1c y0 d1 LK p0
  simp only [ptrV] at *
  generalize w.heap.size = bd at *
  generalize w1.heap.size = bp at *
  go_region_held3 (fun W' => InW W2 W' ∧ W'.cell? ⟨bd, 0, none⟩ = some (.pointer (some ⟨D.d, 0, none⟩)) ∧ W'.cell? ⟨bd + 1, 0, none⟩ = some (.slice xa x.length xc) ∧ W'.cell? ⟨bp + 1, 0, none⟩ = some (.int .i64 (f.b.length : Int)))
    (first
      | with_reducible assumption
      | (refine ⟨InW.drew (InW.refl _), ?_, ?_, ?_⟩ <;> first | exact w0c | exact w1c | exact v1c)
      | (have iw := (by with_reducible assumption : InW W2 _ ∧ _); exact ⟨InW.tr iw.1 (by with_reducible assumption), cell_keep (by with_reducible assumption) iw.2.1, cell_keep (by with_reducible assumption) iw.2.2.1, cell_keep (by with_reducible assumption) iw.2.2.2⟩))
    (first
      | (go_at_call 84; with_reducible refine (SE2.out _).mono ?_; rintro e wA ⟨rfl, hbA⟩; have iwA := InW.tr (InW.drew (InW.refl _)) hbA)
      | (go_at_call 84; with_reducible refine (SE0.out _).mono ?_; rintro e wB ⟨rfl, hbB⟩; have iwB := InW.tr iwA hbB)
      | (go_at_call 79; with_reducible refine (FR.out _ iwB).mono ?_; rintro e wC ⟨rfl, hbC⟩; have iwC := InW.tr iwB hbC)
      | fail)
  all_goals (
    have IWC := Lib.hid iwC
    have PF2 := PF.out wC iwC
    have w0c := cell_keep iwC W0.out; have w1c := cell_keep iwC W1.out; have v0c := cell_keep iwC V0.out; have v1c := cell_keep iwC V1.out
    clear iwC
    go_wp2_with fail
    refine PF2.mono ?_
    rintro e w3 (⟨a1, rfl, a3⟩ | ⟨a1, rfl, a3⟩)
    · have A1 := Lib.hid a1; have A3 := Lib.hid a3
      clear a1 a3 PF2 w0c w1c v0c v1c
      go_wp2_with fail
      go_ret
      exact .inl ⟨A1.out, rfl, A3.out⟩
    · have A1 := Lib.hid a1; have A3 := Lib.hid a3
      clear a1 a3 PF2 w0c w1c v0c v1c
      go_wp2_with fail
      go_ret
      exact .inr ⟨A1.out, rfl, A3.out⟩)
end Go.Proofs.Ytefndmjimmbhnaa
end

section
set_option linter.unusedVariables false
set_option linter.unusedSimpArgs false
set_option maxRecDepth 50000
namespace Go.Proofs.Ytefndmjimmbhnaa
open Go.RowKit Go.Shelf

/-- an empty disk -/
def emptyD (d m : Nat) (room : Int) : Dsk := ⟨d, m, none, room, [], [], false, 0, 0⟩
theorem emptyD_ok (d m : Nat) (room : Int) (h0 : 0 ≤ room) (h1 : room ≤ 1073741824) : (emptyD d m room).Ok :=
  { names := by simp [emptyD], pages := by simp [emptyD], rows := by simp [emptyD], wr := by simp [emptyD], nil := by simp [emptyD], lnil := by simp [emptyD], few := by simp [emptyD], room0 := h0, room1 := h1, used := by simpa [emptyD, Dsk.used] using h0, size := by simp [emptyD], line := by simp [emptyD], nodup := by simp [emptyD], plan0 := by simp [emptyD], plan1 := by simp [emptyD], keep0 := by simp [emptyD], keep1 := by simp [emptyD] }
theorem new_any (room : Int) (w : World) (h0 : 0 ≤ room) (h1 : room ≤ 1073741824) :
    Calls Try.prog 7 #[.int .i64 room] w fun e w' => ∃ d m, e = .returned (ptrV d) ∧ DiskW w' (emptyD d m room) ∧ w.heap.size ≤ d ∧ w.heap.size ≤ m ∧ Below w.heap.size w w' := by
  have q0 : ¬ room < 0 := by omega
  have q1 : ¬ 1073741824 < room := by omega
  have OK := Lib.hid (fun d m => emptyD_ok d m room h0 h1)
  clear h0 h1
  have hmk := run_makeMap_plain (P := Try.prog) w 65
  go_enter Try.func7, Try.ntmps7
  go_wp2_with fail
  go_ret
  have hb := below_alloc (below_alloc (Below.refl _ w) (.map #[] 0)) (.cells #[.int .i64 room, .map (some w.heap.size), .slice none 0 0, .bool false, .int .i64 0, .int .i64 0, .int .i64 0] 68)
  have kb := Blk.new (w.alloc (.map #[] 0)) 68 #[.int .i64 room, .map (some w.heap.size), .slice none 0 0, .bool false, .int .i64 0, .int .i64 0, .int .i64 0]
  rw [show (w.alloc (.map #[] 0)).heap.size = w.heap.size + 1 by simp] at kb
  refine ⟨w.heap.size + 1, rfl, w.heap.size, ⟨⟨0, 0, kb, OwnX.nil _ _⟩, ?_, fun f hf => (by cases hf), OK.out _ _⟩, by omega, Nat.le_refl _, hb⟩
  exact (MapS.new w).below (below_alloc (Below.refl _ _) _)
end Go.Proofs.Ytefndmjimmbhnaa
end

section
set_option linter.unusedVariables false
set_option linter.unusedSimpArgs false
set_option maxRecDepth 50000
namespace Go.Proofs.Ytefndmjimmbhnaa
open Go.RowKit Go.Shelf

theorem faultC_absent {D : Dsk} {nm : ByteArray} (hd : D.dark = false) (hg : diskNameB nm = true) (hn : D.get nm = none) : faultC D [nm] true = 4 := by
  unfold faultC
  rw [hd, if_neg (by simp), if_neg (by simp [hg]), if_pos ⟨rfl, hn⟩]
set_option maxHeartbeats 2000000 in
theorem read_none (D : Dsk) (nm : ByteArray) (w : World) (h : DiskW w D) (hd : D.dark = false) (hg : diskNameB nm = true) (hf : D.get nm = none) :
    Calls Try.prog 21 #[ptrV D.d, .string nm] w fun e w' => e = .returned (.tuple #[.slice none 0 0, .int .i64 4]) ∧ Below w.heap.size w w' := by
  have hz := good_size hg
  have B1 := below_alloc (Below.refl _ w) (.cells #[.string nm] 9)
  have FT := fault_any D _ [nm] true _ (h.below B1) (by simp) (by simp; omega) (.inl (asked_new _ nm)) (by simp)
  rw [faultC_absent hd hg hf] at FT
  have FTH := Lib.hid FT
  have BB1 := Lib.hid B1
  clear h hf hd hg hz B1 FT
  simp only [ptrV] at *
  go_enter Try.func21, Try.ntmps21
  go_wp2_with fail
  refine FTH.out.mono ?_
  rintro e w1 ⟨rfl, hb⟩
  have BX := Lib.hid (below_tr BB1.out hb)
  clear hb FTH BB1
  go_wp2_with fail
  go_ret2
  exact ⟨rfl, BX.out⟩
end Go.Proofs.Ytefndmjimmbhnaa
end
