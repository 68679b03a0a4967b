/- Contract of hints' store, wherever the power fails. Conditions: as told. -/
import Derived.Test.YtefndmjimmbhnaaZ38
import Derived.Test.YtefndmjimmbhnaaZ09
section
set_option linter.unusedVariables false
set_option linter.unusedSimpArgs false
set_option maxRecDepth 50000
namespace Go.Proofs.Ytefndmjimmbhnaa
open Go.RowKit Go.Shelf

theorem SPost.num {n : Nat} {w0 : World} {D0 : Dsk} {tn fr : ByteArray} {K : Nat} {R p k : Int} {o : Option (List UInt8)} {x : List UInt8} {e : Ending} {W : World} (h : SPost n w0 D0 tn fr K R p k o x e W) : ∃ m, e = .returned (.int .i64 m) := by
  rcases h with ⟨h, _⟩ | ⟨h, _⟩
  · exact ⟨0, h⟩
  · exact ⟨9, h⟩
/-- four closures in a row of memory -/
structure Four (W : World) (g : Nat) (f1 f2 f3 f4 : Nat) (c1 c2 c3 c4 : Array Value) : Prop where
  k0 : W.cell? ⟨g, 0, none⟩ = some (.func (.func f1) #[] c1)
  k1 : W.cell? ⟨g, 1, none⟩ = some (.func (.func f2) #[] c2)
  k2 : W.cell? ⟨g, 2, none⟩ = some (.func (.func f3) #[] c3)
  k3 : W.cell? ⟨g, 3, none⟩ = some (.func (.func f4) #[] c4)
theorem hstoreC1 (d gh gd : Nat) (w : World) (hc : w.cell? ⟨gd, 0, none⟩ = some (ptrV gh)) (hd : w.cell? ⟨gh, 0, none⟩ = some (ptrV d)) (Q : Ending → World → Prop) (C : Calls Try.prog 53 #[ptrV d, .string (⟨#[104, 105, 110, 116, 115, 46, 110, 101, 119]⟩ : ByteArray)] w Q) (hQ : ∀ e W, Q e W → ∃ n, e = .returned (.int .i64 n)) :
    Calls Try.prog 52 #[ptrV gd] w Q := by
  have HQ := Lib.hid hQ; have HC := Lib.hid C; clear hQ C
  simp only [ptrV] at *
  go_enter Try.func52, Try.ntmps52
  go_wp2_with fail
  refine HC.out.mono ?_
  intro e w1 hq
  obtain ⟨n, rfl⟩ := HQ.out e w1 hq
  have HQ1 := Lib.hid hq; clear hq
  go_wp2_with fail
  exact HQ1.out
theorem hstoreC2 (d gh gd gb : Nat) (a : Option Addr) (m c : Nat) (w : World) (hc : w.cell? ⟨gd, 0, none⟩ = some (ptrV gh)) (hd : w.cell? ⟨gh, 0, none⟩ = some (ptrV d)) (hc2 : w.cell? ⟨gb, 0, none⟩ = some (.slice a m c)) (Q : Ending → World → Prop) (C : ∀ W, Below w.heap.size w W → Calls Try.prog 55 #[ptrV d, .string (⟨#[104, 105, 110, 116, 115, 46, 110, 101, 119]⟩ : ByteArray), .slice a m c] W Q) (hQ : ∀ e W, Q e W → ∃ n, e = .returned (.int .i64 n)) :
    Calls Try.prog 54 #[ptrV gd, ptrV gb] w Q := by
  have HQ := Lib.hid hQ; have HC := Lib.hid C; clear hQ C
  simp only [ptrV] at *
  have f0 := fun dr os => cell_keep (below_regrown w dr os) hc
  have f1 := fun dr os => cell_keep (below_regrown w dr os) hd
  have f2 := fun dr os => cell_keep (below_regrown w dr os) hc2
  go_enter Try.func54, Try.ntmps54
  go_wp2_with fail
  refine wp_region_quiet_tail 5 (by kernel_rfl) (by kernel_rfl) ?_
  simp only [List.take_succ_cons, List.take_zero, List.drop_succ_cons, List.drop_zero]
  repeat (quiet_step (fail))
  refine wpQuiet_nil ?_
  intro w5 hw5
  have C5 := Lib.hid (HC.out w5 (regrown_below hw5))
  clear hw5 f0 f1 f2 hc hd hc2 HC
  go_wp2_with fail
  refine C5.out.mono ?_
  intro e w1 hq
  obtain ⟨n, rfl⟩ := HQ.out e w1 hq
  have HQ1 := Lib.hid hq; clear hq
  go_wp2_with fail
  exact HQ1.out
theorem hstoreC3 (d gh gd : Nat) (w : World) (hc : w.cell? ⟨gd, 0, none⟩ = some (ptrV gh)) (hd : w.cell? ⟨gh, 0, none⟩ = some (ptrV d)) (Q : Ending → World → Prop) (C : Calls Try.prog 57 #[ptrV d, .string (⟨#[104, 105, 110, 116, 115, 46, 110, 101, 119]⟩ : ByteArray)] w Q) (hQ : ∀ e W, Q e W → ∃ n, e = .returned (.int .i64 n)) :
    Calls Try.prog 56 #[ptrV gd] w Q := by
  have HQ := Lib.hid hQ; have HC := Lib.hid C; clear hQ C
  simp only [ptrV] at *
  go_enter Try.func56, Try.ntmps56
  go_wp2_with fail
  refine HC.out.mono ?_
  intro e w1 hq
  obtain ⟨n, rfl⟩ := HQ.out e w1 hq
  have HQ1 := Lib.hid hq; clear hq
  go_wp2_with fail
  exact HQ1.out
theorem hstoreC4 (d gh gd : Nat) (w : World) (hc : w.cell? ⟨gd, 0, none⟩ = some (ptrV gh)) (hd : w.cell? ⟨gh, 0, none⟩ = some (ptrV d)) (Q : Ending → World → Prop) (C : Calls Try.prog 59 #[ptrV d, .string (⟨#[104, 105, 110, 116, 115, 46, 110, 101, 119]⟩ : ByteArray), .string (⟨#[104, 105, 110, 116, 115]⟩ : ByteArray)] w Q) (hQ : ∀ e W, Q e W → ∃ n, e = .returned (.int .i64 n)) :
    Calls Try.prog 58 #[ptrV gd] w Q := by
  have HQ := Lib.hid hQ; have HC := Lib.hid C; clear hQ C
  simp only [ptrV] at *
  go_enter Try.func58, Try.ntmps58
  go_wp2_with fail
  refine HC.out.mono ?_
  intro e w1 hq
  obtain ⟨n, rfl⟩ := HQ.out e w1 hq
  have HQ1 := Lib.hid hq; clear hq
  go_wp2_with fail
  exact HQ1.out
theorem Mh.refl (gh : Nat) (w : World) (D : Dsk) : Mh gh w D w D := ⟨But.refl _ w, fun k hk => .inl hk, rfl⟩
theorem HW.dead {W : World} {D : Dsk} {gh : Nat} {nx : Int} {l : List Hn} {d0 : Bool} (h : HW W D gh nx l d0) (b : Bool) : HW (W.setCell ⟨gh, 3, none⟩ (.bool b)) D gh nx l b := by
  obtain ⟨qs, a, c, h1, h2, h3⟩ := h.ex
  have m := (Mh.refl gh W D).put 3 (.bool b)
  exact ⟨h.dw.but (But.one W gh 3 (.bool b)) (fun k hk e => h.out (e ▸ hk)), ⟨qs, a, c, h1.put 3 (.bool b), h2.mh m, h3.mh m⟩, h.out⟩
theorem HW.put {W : World} {D : Dsk} {gh : Nat} {nx nx2 : Int} {l l2 : List Hn} {d0 : Bool} {qs2 : List Hq} {a2 : Option Addr} {c2 : Nat} (h : HW W D gh nx l d0) (hv : SlF eT W D gh (.slice a2 qs2.length c2) qs2) (hq : HnsF W D gh qs2 l2) :
    HW ((W.setCell ⟨gh, 1, none⟩ (.int .i64 nx2)).setCell ⟨gh, 2, none⟩ (.slice a2 qs2.length c2)) D gh nx2 l2 d0 := by
  obtain ⟨qs, a, c, h1, h2, h3⟩ := h.ex
  have m := ((Mh.refl gh W D).put 1 (.int .i64 nx2)).put 2 (.slice a2 qs2.length c2)
  exact ⟨h.dw.but ((But.one W gh 1 (.int .i64 nx2)).trans (But.one _ gh 2 (.slice a2 qs2.length c2))) (fun k hk e => h.out (e ▸ hk)), ⟨qs2, a2, c2, (h1.put 1 (.int .i64 nx2)).put 2 (.slice a2 qs2.length c2), hv.mh m, hq.mh m⟩, h.out⟩
def HStorePost (D : Dsk) (gh : Nat) (nx nx2 : Int) (l l2 : List Hn) (K : Nat) (R p k : Int) (o : Option (List UInt8)) (x : List UInt8) (w : World) (e : Ending) (w' : World) : Prop :=
  (e = .returned (.int .i64 0) ∧ ∃ E, HW w' E gh nx2 l2 false ∧ Stg E (⟨#[104, 105, 110, 116, 115]⟩ : ByteArray) (⟨#[104, 105, 110, 116, 115, 46, 110, 101, 119]⟩ : ByteArray) K R (lessN 4 p) k false (some x) ∧ Mh gh w D w' E) ∨
  (e = .returned (.int .i64 9) ∧ 0 < p ∧ ∃ E p', HW w' E gh nx l true ∧ Stg E (⟨#[104, 105, 110, 116, 115]⟩ : ByteArray) (⟨#[104, 105, 110, 116, 115, 46, 110, 101, 119]⟩ : ByteArray) K R p' k true o ∧ Mh gh w D w' E)
def hfnsV (d b : Nat) : Array Value := #[.func (.func 52) #[] #[ptrV d], .func (.func 54) #[] #[ptrV d, ptrV b], .func (.func 56) #[] #[ptrV d], .func (.func 58) #[] #[ptrV d]]
set_option maxHeartbeats 4000000 in
theorem store_any (D : Dsk) (gh : Nat) (nx nx2 : Int) (l l2 : List Hn) (qs2 : List Hq) (a2 : Option Addr) (c2 : Nat) (K : Nat) (R p k : Int) (o : Option (List UInt8)) (w : World) (h : HW w D gh nx l false) (hs : Stg D (⟨#[104, 105, 110, 116, 115]⟩ : ByteArray) (⟨#[104, 105, 110, 116, 115, 46, 110, 101, 119]⟩ : ByteArray) K R p k false o) (pl : Plan (⟨#[104, 105, 110, 116, 115]⟩ : ByteArray) (⟨#[104, 105, 110, 116, 115, 46, 110, 101, 119]⟩ : ByteArray) K R (frameL (hintsL nx2 l2)))
    (hv : SlF eT w D gh (.slice a2 qs2.length c2) qs2) (hq : HnsF w D gh qs2 l2) (hn : In64 nx2) (hin : ∀ h ∈ l2, HnIn h) (hl : (hintsL nx2 l2).length ≤ 262144) (hll : l2.length ≤ 1000000) (hlc : ∀ h ∈ l2, h.L.length ≤ 1000000) :
    Calls Try.prog 29 #[ptrV gh, .agg #[.int .i64 nx2, .slice a2 qs2.length c2]] w (HStorePost D gh nx nx2 l l2 K R p k o (frameL (hintsL nx2 l2)) w) := by
  have BY := Lib.hid (fun W (hb : Below w.heap.size w W) => bytes_any nx2 _ qs2 l2 W (hv.sl.keep hb) (hq.w.keep hb) hn hin (by omega) hll hlc)
  have hx : (frameL (hintsL nx2 l2)).length = (hintsL nx2 l2).length + 8 := frameL_length _ hl
  have hx0 : (((frameL (hintsL nx2 l2)).length : Int) == 0) = false := by rw [beq_eq_false_iff_ne]; omega
  generalize hxx : frameL (hintsL nx2 l2) = x at *
  have A1 := below_alloc (Below.refl _ w) (.cells #[ptrV gh] 31)
  have A2 := below_alloc A1 (.cells #[.int .i64 nx2, .slice a2 qs2.length c2] 48)
  have KH0 := (Blk.new w 31 #[ptrV gh]).alloc (.cells #[.int .i64 nx2, .slice a2 qs2.length c2] 48)
  have KS0 := Blk.new (w.alloc (.cells #[ptrV gh] 31)) 48 #[.int .i64 nx2, .slice a2 qs2.length c2]
  rw [show (w.alloc (.cells #[ptrV gh] 31)).heap.size = w.heap.size + 1 by simp] at KS0
  have BA := Lib.hid A2; have HKH := Lib.hid KH0; have HKS := Lib.hid KS0
  have HHH := Lib.hid h; have HST := Lib.hid hs; have HPL := Lib.hid pl; have HV := Lib.hid hv; have HQQ := Lib.hid hq
  clear A1 A2 KH0 KS0 h hs pl hv hq hn hin hl hll hlc hx hxx
  simp only [ptrV] at *
  go_enter Try.func29, Try.ntmps29
  go_wp2_with fail
  generalize (w.alloc (.cells #[.pointer (some ⟨gh, 0, none⟩)] 31)).alloc (.cells #[.int .i64 nx2, .slice a2 qs2.length c2] 48) = W0 at *
  refine (BY.out _ BA.out).mono ?_
  rintro e w2 ⟨bv, rfl, hO, hb⟩
  obtain ⟨ba, bc, rfl, _, _⟩ := hO.slB.ex
  have HO := Lib.hid (hO.weaken BA.out.size); have HB2 := Lib.hid (below_tr BA.out hb)
  have X0 := Lib.hid ((HKH.out.below hb).alloc (.cells #[.slice ba x.length bc] 69)); have X1 := Lib.hid ((HKS.out.below hb).alloc (.cells #[.slice ba x.length bc] 69)); have X2 := Lib.hid (Blk.new w2 69 #[.slice ba x.length bc])
  have HZ := Lib.hid (show w.heap.size + 1 < w2.heap.size from by have := (HKS.out.below hb).lt; omega)
  clear hO hb BY HKH HKS
  have hdw := HHH.out.dw
  obtain ⟨qs, ha, hc, hgh, hsl, hns⟩ := HHH.out.ex
  have A3 := below_alloc HB2.out (.cells #[.slice ba x.length bc] 69)
  have A4 := below_alloc A3 (.cells (hfnsV w.heap.size w2.heap.size) 76)
  have bf := Blk.new (w2.alloc (.cells #[.slice ba x.length bc] 69)) 76 (hfnsV w.heap.size w2.heap.size)
  rw [show (w2.alloc (.cells #[.slice ba x.length bc] 69)).heap.size = w2.heap.size + 1 by simp] at bf
  have e0 := X0.out.alloc (.cells (hfnsV w.heap.size w2.heap.size) 76)
  have e1 := X1.out.alloc (.cells (hfnsV w.heap.size w2.heap.size) 76)
  have e2 := X2.out.alloc (.cells (hfnsV w.heap.size w2.heap.size) 76)
  have ho := (HO.out.alloc (.cells #[.slice ba x.length bc] 69)).alloc (.cells (hfnsV w.heap.size w2.heap.size) 76)
  go_wp2_with fail
  rw [show (#[.func (.func 52) #[] #[.pointer (some ⟨w.heap.size, 0, none⟩)], .func (.func 54) #[] #[.pointer (some ⟨w.heap.size, 0, none⟩), .pointer (some ⟨w2.heap.size, 0, none⟩)], .func (.func 56) #[] #[.pointer (some ⟨w.heap.size, 0, none⟩)], .func (.func 58) #[] #[.pointer (some ⟨w.heap.size, 0, none⟩)]] : Array Value) = hfnsV w.heap.size w2.heap.size from rfl]
  have hlt := fun k hk => OwnB.base ho k hk
  have hlt2 := fun k hk => (World.ownsRow.lt ho k hk).2
  generalize (w2.alloc (.cells #[.slice ba x.length bc] 69)).alloc (.cells (hfnsV w.heap.size w2.heap.size) 76) = w3 at *
  have dw3 := hdw.below A4
  have hz := HZ.out
  have far := fun k (hk : w.heap.size ≤ k) => hdw.fresh hk
  have gh3 := hgh.below A4
  have CELLS := Lib.hid (fun (W : World) (hB : But D.foot w3 W) => show (W.cell? ⟨w.heap.size, 0, none⟩ = some (ptrV gh) ∧ W.cell? ⟨w2.heap.size, 0, none⟩ = some (.slice ba x.length bc) ∧ W.cell? ⟨gh, 0, none⟩ = some (ptrV D.d)) ∧ Blk W (w.heap.size + 1) 48 #[.int .i64 nx2, .slice a2 qs2.length c2] ∧ Blk W gh 50 #[ptrV D.d, .int .i64 nx, .slice ha qs.length hc, .bool false] ∧ Four W (w2.heap.size + 1) 52 54 56 58 #[ptrV w.heap.size] #[ptrV w.heap.size, ptrV w2.heap.size] #[ptrV w.heap.size] #[ptrV w.heap.size] from by
    have b0 := e0.but hB (far _ (Nat.le_refl _))
    have b2 := e2.but hB (far _ (by omega))
    have b1 := e1.but hB (far _ (by omega))
    have bg := gh3.but hB HHH.out.out
    have b4 := bf.but hB (far _ (by omega))
    exact ⟨⟨b0.cell 0 rfl, b2.cell 0 rfl, bg.cell 0 rfl⟩, b1, bg, ⟨b4.cell 0 rfl, b4.cell 1 rfl, b4.cell 2 rfl, b4.cell 3 rfl⟩⟩)
  have HBAD := Lib.hid (fun (W : World) (hs : SBad w3 D (⟨#[104, 105, 110, 116, 115]⟩ : ByteArray) (⟨#[104, 105, 110, 116, 115, 46, 110, 101, 119]⟩ : ByteArray) K R p k o W) => show HStorePost D gh nx nx2 l l2 K R p k o x w (.returned (.int .i64 9)) (W.setCell ⟨gh, 3, none⟩ (.bool true)) from by
    obtain ⟨E, p', m, st⟩ := hs.ex
    have m0 := Mv.head hdw A4 m
    exact .inr ⟨rfl, hs.pos, E, p', (HHH.out.mv m0).dead true, st, (m0.mh gh).put 3 _⟩)
  have HGOOD := Lib.hid (fun (W : World) (hs : SI 4 w3 D (⟨#[104, 105, 110, 116, 115]⟩ : ByteArray) (⟨#[104, 105, 110, 116, 115, 46, 110, 101, 119]⟩ : ByteArray) K R p k o x W) => show HStorePost D gh nx nx2 l l2 K R p k o x w (.returned (.int .i64 0)) ((W.setCell ⟨gh, 1, none⟩ (.int .i64 nx2)).setCell ⟨gh, 2, none⟩ (.slice a2 qs2.length c2)) from by
    obtain ⟨E, m, st, _⟩ := hs.ex
    rw [if_pos rfl] at st
    have m0 := Mv.head hdw A4 m
    exact .inl ⟨rfl, E, (HHH.out.mv m0).put (HV.out.mh (m0.mh gh)) (HQQ.out.mh (m0.mh gh)), st, ((m0.mh gh).put 1 _).put 2 _⟩)
  have SI0 := Lib.hid (show SI 0 w3 D (⟨#[104, 105, 110, 116, 115]⟩ : ByteArray) (⟨#[104, 105, 110, 116, 115, 46, 110, 101, 119]⟩ : ByteArray) K R p k o x w3 from SI.start dw3 HST.out (Below.refl _ _))
  clear e0 e1 e2 bf gh3 hgh hsl hns A3 A4 HO X0 X1 X2 HB2 BA
  go_loopw [20, 7, 8] (fun i _ _ wr => ∃ n : Nat, n ≤ 4 ∧ i = .int .i64 (n : Int) ∧ Hid (SI n w3 D (⟨#[104, 105, 110, 116, 115]⟩ : ByteArray) (⟨#[104, 105, 110, 116, 115, 46, 110, 101, 119]⟩ : ByteArray) K R p k o x wr)) (fun i _ _ _ => 4 - (intOf i).toNat)
  case atStart => exact ⟨0, by omega, rfl, SI0⟩
  case round =>
    obtain ⟨n, hn4, rfl, hSH⟩ := hrel
    have hS := hSH.out
    obtain ⟨⟨cA', cB', cD'⟩, kS', kG', ⟨k0, k1, k2, k3⟩⟩ := CELLS.out wr hS.but
    have cA := cA'; have cB := cB'; have cD := cD'
    simp only [ptrV] at cA cB cD k0 k1 k2 k3
    rcases n with _ | _ | _ | _ | _ | n
    · have CALL := Lib.hid (hstoreC1 D.d gh w.heap.size wr cA' cD' _ (step1 HPL.out hS) (fun e W hq => SPost.num hq))
      have HSI := Lib.hid hS
      clear hS
      go_wp2_with fail
      refine CALL.out.mono ?_
      rintro e w5 (⟨rfl, hs⟩ | ⟨rfl, hs⟩)
      · have HS1 := Lib.hid hs; clear hs k0 k1 k2 k3 cA cB cD CALL
        go_wp2_with fail
        go_roundw
        case rel => exact ⟨1, by omega, by rfl, HS1⟩
        case measure => (first | (simp [intOf]; done) | (simp [intOf]; omega))
      · obtain ⟨⟨dA, _, dD⟩, _, kG, _⟩ := CELLS.out w5 hs.but
        simp only [ptrV] at dA dD
        have d3 : w5.cell? ⟨gh, 3, none⟩ = some (.bool false) := kG.cell 3 rfl
        have f3 := kG.frozen 3
        have HS1 := Lib.hid hs; clear hs k0 k1 k2 k3 cA cB cD CALL kG
        go_wp2_with fail
        go_ret
        exact HBAD.out w5 HS1.out
    · have CALL := Lib.hid (hstoreC2 D.d gh w.heap.size w2.heap.size ba x.length bc wr cA' cD' cB' _ (fun W hb => step2 HPL.out (SlX.aside (OwnX.sl (own_eB.2 ho)) ((hS.tail hb).but) (fun ad n c e => far _ (by injection e with e _ _; subst e; exact hlt ad.block rfl))) (fun ad n c e => by injection e with e _ _; subst e; exact ⟨far _ (hlt ad.block rfl), hlt2 ad.block rfl⟩) (hS.tail hb)) (fun e W hq => SPost.num hq))
      have HSI := Lib.hid hS
      clear hS
      go_wp2_with fail
      refine CALL.out.mono ?_
      rintro e w5 (⟨rfl, hs⟩ | ⟨rfl, hs⟩)
      · have HS1 := Lib.hid hs; clear hs k0 k1 k2 k3 cA cB cD CALL
        go_wp2_with fail
        go_roundw
        case rel => exact ⟨2, by omega, by rfl, HS1⟩
        case measure => (first | (simp [intOf]; done) | (simp [intOf]; omega))
      · obtain ⟨⟨dA, _, dD⟩, _, kG, _⟩ := CELLS.out w5 hs.but
        simp only [ptrV] at dA dD
        have d3 : w5.cell? ⟨gh, 3, none⟩ = some (.bool false) := kG.cell 3 rfl
        have f3 := kG.frozen 3
        have HS1 := Lib.hid hs; clear hs k0 k1 k2 k3 cA cB cD CALL kG
        go_wp2_with fail
        go_ret
        exact HBAD.out w5 HS1.out
    · have CALL := Lib.hid (hstoreC3 D.d gh w.heap.size wr cA' cD' _ (step3 HPL.out hS) (fun e W hq => SPost.num hq))
      have HSI := Lib.hid hS
      clear hS
      go_wp2_with fail
      refine CALL.out.mono ?_
      rintro e w5 (⟨rfl, hs⟩ | ⟨rfl, hs⟩)
      · have HS1 := Lib.hid hs; clear hs k0 k1 k2 k3 cA cB cD CALL
        go_wp2_with fail
        go_roundw
        case rel => exact ⟨3, by omega, by rfl, HS1⟩
        case measure => (first | (simp [intOf]; done) | (simp [intOf]; omega))
      · obtain ⟨⟨dA, _, dD⟩, _, kG, _⟩ := CELLS.out w5 hs.but
        simp only [ptrV] at dA dD
        have d3 : w5.cell? ⟨gh, 3, none⟩ = some (.bool false) := kG.cell 3 rfl
        have f3 := kG.frozen 3
        have HS1 := Lib.hid hs; clear hs k0 k1 k2 k3 cA cB cD CALL kG
        go_wp2_with fail
        go_ret
        exact HBAD.out w5 HS1.out
    · have CALL := Lib.hid (hstoreC4 D.d gh w.heap.size wr cA' cD' _ (step4 HPL.out hS) (fun e W hq => SPost.num hq))
      have HSI := Lib.hid hS
      clear hS
      go_wp2_with fail
      refine CALL.out.mono ?_
      rintro e w5 (⟨rfl, hs⟩ | ⟨rfl, hs⟩)
      · have HS1 := Lib.hid hs; clear hs k0 k1 k2 k3 cA cB cD CALL
        go_wp2_with fail
        go_roundw
        case rel => exact ⟨4, by omega, by rfl, HS1⟩
        case measure => (first | (simp [intOf]; done) | (simp [intOf]; omega))
      · obtain ⟨⟨dA, _, dD⟩, _, kG, _⟩ := CELLS.out w5 hs.but
        simp only [ptrV] at dA dD
        have d3 : w5.cell? ⟨gh, 3, none⟩ = some (.bool false) := kG.cell 3 rfl
        have f3 := kG.frozen 3
        have HS1 := Lib.hid hs; clear hs k0 k1 k2 k3 cA cB cD CALL kG
        go_wp2_with fail
        go_ret
        exact HBAD.out w5 HS1.out
    · have s0 : wr.cell? ⟨w.heap.size + 1, 0, none⟩ = some (.int .i64 nx2) := kS'.cell 0 rfl
      have s1 : wr.cell? ⟨w.heap.size + 1, 1, none⟩ = some (.slice a2 qs2.length c2) := kS'.cell 1 rfl
      have g1 : wr.cell? ⟨gh, 1, none⟩ = some (.int .i64 nx) := kG'.cell 1 rfl
      have g2 : wr.cell? ⟨gh, 2, none⟩ = some (.slice ha qs.length hc) := kG'.cell 2 rfl
      have gf1 := kG'.frozen 1; have gf2 := kG'.frozen 2
      clear k0 k1 k2 k3 kS' kG'
      go_wp2_with fail
      go_ret
      exact HGOOD.out wr hSH.out
    · omega
end Go.Proofs.Ytefndmjimmbhnaa
end
