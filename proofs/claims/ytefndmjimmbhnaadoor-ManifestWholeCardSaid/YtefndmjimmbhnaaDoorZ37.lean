/- Contract of manifest's Store, wherever the power fails. Conditions: the numbers are of int64; the disk holds at most the two files, and has room. -/
import Derived.Test.YtefndmjimmbhnaaDoorZ36
section
set_option linter.unusedVariables false
set_option linter.unusedSimpArgs false
set_option maxRecDepth 50000
namespace Go.Proofs.YtefndmjimmbhnaaDoor
open Go.RowKit Go.Shelf

theorem readS_any (D : Dsk) (nm : ByteArray) (w : World) (h : DiskW w D) (hd : D.dark = false) (hg : diskNameB nm = true) :
    Calls Tryd.prog 18 #[ptrV D.d, .string nm] w fun e w' => ∃ v c, e = .returned (.tuple #[v, .int .i64 c]) ∧ (c == 1) = false ∧ (c == 9) = false ∧ Below w.heap.size w w' := by
  cases hf : D.get nm with
  | none =>
    refine (read_none D nm w h hd hg hf).mono ?_
    rintro e w' ⟨rfl, hb⟩
    exact ⟨_, _, rfl, rfl, rfl, hb⟩
  | some f =>
    refine (read_any D nm f w h hd hg hf).mono ?_
    rintro e w' ⟨v, rfl, _, hb⟩
    exact ⟨_, _, rfl, rfl, rfl, hb⟩
def StorePost (w : World) (D : Dsk) (p k : Int) (o : Option (List UInt8)) (l : List Int) (nx fr : Int) (e : Ending) (w' : World) : Prop :=
  (goodM l nx fr = false ∧ e = .returned (.int .i64 2) ∧ Below w.heap.size w w') ∨
  (goodM l nx fr = true ∧ SPost 4 w D (⟨#[109, 97, 110, 105, 102, 101, 115, 116]⟩ : ByteArray) (⟨#[109, 97, 110, 105, 102, 101, 115, 116, 46, 110, 101, 119]⟩ : ByteArray) 1008 100000 p k o (frameL (encM l nx fr)) e w')
set_option maxHeartbeats 2000000 in
theorem mStore_bad (D : Dsk) (v : Value) (l : List Int) (nx fr p k : Int) (o : Option (List UInt8)) (w : World) (h : DiskW w D) (hs : Stg D (⟨#[109, 97, 110, 105, 102, 101, 115, 116]⟩ : ByteArray) (⟨#[109, 97, 110, 105, 102, 101, 115, 116, 46, 110, 101, 119]⟩ : ByteArray) 1008 100000 p k false o) (hv : SlI w v l) (hl : l.length ≤ 140737488351232) (hg : goodM l nx fr = false) :
    Calls Tryd.prog 8 #[ptrV D.d, .agg #[v, .int .i64 nx, .int .i64 fr]] w fun e w' => e = .returned (.int .i64 2) ∧ Below w.heap.size w w' := by
  have RD := Lib.hid (fun W (hb : Below w.heap.size w W) => readS_any D (⟨#[109, 97, 110, 105, 102, 101, 115, 116]⟩ : ByteArray) W (h.below hb) hs.dark name_manifest)
  have BY := Lib.hid (fun W (hb : Below w.heap.size w W) => mBytes_bad v l nx fr W (hv.below hb) hl hg)
  obtain ⟨va, vc, rfl, _, _⟩ := hv.ex
  have A1 := below_alloc (Below.refl _ w) (.cells #[ptrV D.d] 27)
  have HB0 := Lib.hid (below_alloc A1 (.cells #[.slice va l.length vc, .int .i64 nx, .int .i64 fr] 24))
  have k1 := Blk.new (w.alloc (.cells #[ptrV D.d] 27)) 24 #[.slice va l.length vc, .int .i64 nx, .int .i64 fr]
  rw [show (w.alloc (.cells #[ptrV D.d] 27)).heap.size = w.heap.size + 1 by simp] at k1
  have K0 := Lib.hid ((Blk.new w 27 #[ptrV D.d]).alloc (.cells #[.slice va l.length vc, .int .i64 nx, .int .i64 fr] 24)); have K1 := Lib.hid k1
  clear h hs hv A1 k1
  simp only [ptrV] at *
  have c0 := K0.out.cell 0 rfl
  go_enter Tryd.func8, Tryd.ntmps8
  go_wp2_with fail
  generalize (w.alloc (.cells #[.pointer (some ⟨D.d, 0, none⟩)] 27)).alloc (.cells #[.slice va l.length vc, .int .i64 nx, .int .i64 fr] 24) = W0 at *
  refine (RD.out _ HB0.out).mono ?_
  rintro e w1 ⟨rv, c, rfl, hc1, hc9, hb⟩
  have HB1 := Lib.hid (below_tr HB0.out hb)
  have K2 := K1.out.below hb
  have d0 : w1.cell? ⟨w.heap.size + 1, 0, none⟩ = some (.slice va l.length vc) := K2.cell 0 rfl
  have d1 : w1.cell? ⟨w.heap.size + 1, 1, none⟩ = some (.int .i64 nx) := K2.cell 1 rfl
  have d2 : w1.cell? ⟨w.heap.size + 1, 2, none⟩ = some (.int .i64 fr) := K2.cell 2 rfl
  clear hb c0 K2
  go_wp2_with fail
  refine (BY.out _ HB1.out).mono ?_
  rintro e w2 ⟨rfl, hb⟩
  have HB2 := Lib.hid (below_tr HB1.out hb); clear hb
  go_wp2_with fail
  go_ret
  exact ⟨rfl, below_alloc HB2.out _⟩
theorem SPost.num {n : Nat} {w0 : World} {D0 : Dsk} {tn fr : ByteArray} {K : Nat} {R p k : Int} {o : Option (List UInt8)} {x : List UInt8} {e : Ending} {W : World} (h : SPost n w0 D0 tn fr K R p k o x e W) : ∃ m, e = .returned (.int .i64 m) := by
  rcases h with ⟨h, _⟩ | ⟨h, _⟩
  · exact ⟨0, h⟩
  · exact ⟨9, h⟩
def fnsV (d b : Nat) : Array Value := #[.func (.func 20) #[] #[ptrV d], .func (.func 22) #[] #[ptrV d, ptrV b], .func (.func 24) #[] #[ptrV d], .func (.func 26) #[] #[ptrV d]]
theorem storeSteps (D : Dsk) (ba : Option Addr) (bc : Nat) (x : List UInt8) (w w2 : World) (p k : Int) (o : Option (List UInt8)) (h : DiskW w D) (hs : Stg D (⟨#[109, 97, 110, 105, 102, 101, 115, 116]⟩ : ByteArray) (⟨#[109, 97, 110, 105, 102, 101, 115, 116, 46, 110, 101, 119]⟩ : ByteArray) 1008 100000 p k false o) (pl : Plan (⟨#[109, 97, 110, 105, 102, 101, 115, 116]⟩ : ByteArray) (⟨#[109, 97, 110, 105, 102, 101, 115, 116, 46, 110, 101, 119]⟩ : ByteArray) 1008 100000 x) (hb : Below w.heap.size w w2) (hz : w.heap.size < w2.heap.size) (hO : OwnB w2 w.heap.size (.slice ba x.length bc) x)
    (b0 : Blk (w2.alloc (.cells #[.slice ba x.length bc] 46)) w.heap.size 27 #[.pointer (some ⟨D.d, 0, none⟩)]) (b1 : Blk (w2.alloc (.cells #[.slice ba x.length bc] 46)) w2.heap.size 46 #[.slice ba x.length bc]) :
    Calls Tryd.prog 19 #[.slice (some ⟨w2.heap.size + 1, 0, none⟩) 4 4] ((w2.alloc (.cells #[.slice ba x.length bc] 46)).alloc (.cells (fnsV w.heap.size w2.heap.size) 53)) (SPost 4 w D (⟨#[109, 97, 110, 105, 102, 101, 115, 116]⟩ : ByteArray) (⟨#[109, 97, 110, 105, 102, 101, 115, 116, 46, 110, 101, 119]⟩ : ByteArray) 1008 100000 p k o x) := by
  have A3 := below_alloc hb (.cells #[.slice ba x.length bc] 46)
  have A4 := below_alloc A3 (.cells (fnsV w.heap.size w2.heap.size) 53)
  have bf := Blk.new (w2.alloc (.cells #[.slice ba x.length bc] 46)) 53 (fnsV w.heap.size w2.heap.size)
  rw [show (w2.alloc (.cells #[.slice ba x.length bc] 46)).heap.size = w2.heap.size + 1 by simp] at bf
  have e0 := b0.alloc (.cells (fnsV w.heap.size w2.heap.size) 53)
  have e1 := b1.alloc (.cells (fnsV w.heap.size w2.heap.size) 53)
  have ho := (hO.alloc (.cells #[.slice ba x.length bc] 46)).alloc (.cells (fnsV w.heap.size w2.heap.size) 53)
  have hlt := fun k hk => OwnB.base ho k hk
  have hlt2 := fun k hk => (World.ownsRow.lt ho k hk).2
  generalize (w2.alloc (.cells #[.slice ba x.length bc] 46)).alloc (.cells (fnsV w.heap.size w2.heap.size) 53) = w3 at *
  have dw := h.below A4
  have far := fun k (hk : w.heap.size ≤ k) => h.fresh hk
  have cells : ∀ {W : World}, But D.foot w3 W → W.cell? ⟨w.heap.size, 0, none⟩ = some (ptrV D.d) ∧ W.cell? ⟨w2.heap.size, 0, none⟩ = some (.slice ba x.length bc) := fun hB =>
    ⟨(e0.but hB (far _ (Nat.le_refl _))).cell 0 rfl, (e1.but hB (far _ (by omega))).cell 0 rfl⟩
  refine (steps_any 20 22 24 26 (w2.heap.size + 1) #[ptrV w.heap.size] #[ptrV w.heap.size, ptrV w2.heap.size] #[ptrV w.heap.size] #[ptrV w.heap.size]
    (enters_of Tryd.func20 (by kernel_rfl) rfl) (enters_of Tryd.func22 (by kernel_rfl) rfl) (enters_of Tryd.func24 (by kernel_rfl) rfl) (enters_of Tryd.func26 (by kernel_rfl) rfl)
    (fun n W => SI n w3 D (⟨#[109, 97, 110, 105, 102, 101, 115, 116]⟩ : ByteArray) (⟨#[109, 97, 110, 105, 102, 101, 115, 116, 46, 110, 101, 119]⟩ : ByteArray) 1008 100000 p k o x W) (fun W => SBad w3 D (⟨#[109, 97, 110, 105, 102, 101, 115, 116]⟩ : ByteArray) (⟨#[109, 97, 110, 105, 102, 101, 115, 116, 46, 110, 101, 119]⟩ : ByteArray) 1008 100000 p k o W) w3 (SI.start dw hs (Below.refl _ _)) (fun n W hW => ?_) (fun n W W1 hW hb => hW.tail hb) (fun W W1 hW hb => hW.tail hb)
    (fun W hW => storeC1 D.d w.heap.size W (cells hW.but).1 _ (step1 pl hW) (fun e W hq => SPost.num hq))
    (fun W hW => storeC2 D.d w.heap.size w2.heap.size ba x.length bc W (cells hW.but).1 (cells hW.but).2 _ (step2 pl ?_ ?_ hW) (fun e W hq => SPost.num hq))
    (fun W hW => storeC3 D.d w.heap.size W (cells hW.but).1 _ (step3 pl hW) (fun e W hq => SPost.num hq))
    (fun W hW => storeC4 D.d w.heap.size W (cells hW.but).1 _ (step4 pl hW) (fun e W hq => SPost.num hq))).mono ?_
  · have B := bf.but hW.but (far _ (by omega))
    exact ⟨B.cell 0 rfl, B.cell 1 rfl, B.cell 2 rfl, B.cell 3 rfl⟩
  · exact SlX.aside (OwnX.sl (own_eB.2 ho)) hW.but (fun ad n c e => far _ (by
      injection e with e _ _
      subst e
      exact hlt ad.block rfl))
  · intro ad n c e
    injection e with e _ _
    subst e
    exact ⟨far _ (hlt ad.block rfl), hlt2 ad.block rfl⟩
  · rintro e w' (⟨rfl, hI⟩ | ⟨rfl, hI⟩)
    · obtain ⟨E, h1, h2⟩ := hI.ex
      exact .inl ⟨rfl, E, Mv.head h A4 h1, h2⟩
    · obtain ⟨E, p', h1, h2⟩ := hI.ex
      exact .inr ⟨rfl, ⟨E, p', Mv.head h A4 h1, h2⟩, hI.pos⟩
set_option maxHeartbeats 2000000 in
theorem mStore_good (D : Dsk) (v : Value) (l : List Int) (nx fr p k : Int) (o : Option (List UInt8)) (w : World) (h : DiskW w D) (hs : Stg D (⟨#[109, 97, 110, 105, 102, 101, 115, 116]⟩ : ByteArray) (⟨#[109, 97, 110, 105, 102, 101, 115, 116, 46, 110, 101, 119]⟩ : ByteArray) 1008 100000 p k false o) (hv : SlI w v l) (hg : goodM l nx fr = true) :
    Calls Tryd.prog 8 #[ptrV D.d, .agg #[v, .int .i64 nx, .int .i64 fr]] w (SPost 4 w D (⟨#[109, 97, 110, 105, 102, 101, 115, 116]⟩ : ByteArray) (⟨#[109, 97, 110, 105, 102, 101, 115, 116, 46, 110, 101, 119]⟩ : ByteArray) 1008 100000 p k o (frameL (encM l nx fr))) := by
  have PL := Lib.hid (plan13 hg)
  have HD := Lib.hid h; have HSt := Lib.hid hs
  have RD := Lib.hid (fun W (hb : Below w.heap.size w W) => readS_any D (⟨#[109, 97, 110, 105, 102, 101, 115, 116]⟩ : ByteArray) W (h.below hb) hs.dark name_manifest)
  have BY := Lib.hid (fun W (hb : Below w.heap.size w W) => mBytes_good v l nx fr W (hv.below hb) hg)
  obtain ⟨va, vc, rfl, _, _⟩ := hv.ex
  have A1 := below_alloc (Below.refl _ w) (.cells #[ptrV D.d] 27)
  have HB0 := Lib.hid (below_alloc A1 (.cells #[.slice va l.length vc, .int .i64 nx, .int .i64 fr] 24))
  have k1 := Blk.new (w.alloc (.cells #[ptrV D.d] 27)) 24 #[.slice va l.length vc, .int .i64 nx, .int .i64 fr]
  rw [show (w.alloc (.cells #[ptrV D.d] 27)).heap.size = w.heap.size + 1 by simp] at k1
  have K0 := Lib.hid ((Blk.new w 27 #[ptrV D.d]).alloc (.cells #[.slice va l.length vc, .int .i64 nx, .int .i64 fr] 24)); have K1 := Lib.hid k1
  have K0L := Lib.hid (fun (W : World) (hb : Below ((w.alloc (.cells #[ptrV D.d] 27)).alloc (.cells #[.slice va l.length vc, .int .i64 nx, .int .i64 fr] 24)).heap.size ((w.alloc (.cells #[ptrV D.d] 27)).alloc (.cells #[.slice va l.length vc, .int .i64 nx, .int .i64 fr] 24)) W) => show w.heap.size < W.heap.size from by have := hb.size; simp at this; omega)
  clear h hs hv A1 k1
  simp only [ptrV] at *
  have c0 := K0.out.cell 0 rfl
  go_enter Tryd.func8, Tryd.ntmps8
  go_wp2_with fail
  generalize (w.alloc (.cells #[.pointer (some ⟨D.d, 0, none⟩)] 27)).alloc (.cells #[.slice va l.length vc, .int .i64 nx, .int .i64 fr] 24) = W0 at *
  refine (RD.out _ HB0.out).mono ?_
  rintro e w1 ⟨rv, c, rfl, hc1, hc9, hb⟩
  have HB1 := Lib.hid (below_tr HB0.out hb)
  have HBW := Lib.hid hb
  have K2 := K1.out.below hb
  have d0 : w1.cell? ⟨w.heap.size + 1, 0, none⟩ = some (.slice va l.length vc) := K2.cell 0 rfl
  have d1 : w1.cell? ⟨w.heap.size + 1, 1, none⟩ = some (.int .i64 nx) := K2.cell 1 rfl
  have d2 : w1.cell? ⟨w.heap.size + 1, 2, none⟩ = some (.int .i64 fr) := K2.cell 2 rfl
  clear hb c0 K2
  go_wp2_with fail
  refine (BY.out _ HB1.out).mono ?_
  rintro e w2 ⟨bv, rfl, hO, hb⟩
  obtain ⟨ba, bc, rfl, hbc, _⟩ := hO.slB.ex
  have HB2 := Lib.hid (below_tr HB1.out hb)
  have HO := Lib.hid (hO.weaken HB1.out.size)
  generalize frameL (encM l nx fr) = x at *
  have X0 := (K0.out.below (below_tr HBW.out hb)).alloc (.cells #[.slice ba x.length bc] 46)
  have X1 := Blk.new w2 46 #[.slice ba x.length bc]
  have HX0 := Lib.hid X0; have HX1 := Lib.hid X1
  have HB3 := Lib.hid (below_alloc HB2.out (.cells #[.slice ba x.length bc] 46))
  have SZ2 := Lib.hid (show w.heap.size < w2.heap.size from K0L.out _ (below_tr HBW.out hb))
  clear hO hb d0 d1 d2 X0 X1 BY
  go_wp2_with fail
  have ST := Lib.hid (storeSteps D ba bc x w w2 p k o HD.out HSt.out PL.out HB2.out SZ2.out HO.out HX0.out HX1.out)
  refine ST.out.mono ?_
  rintro e w4 hq
  have hQ := SPost.num hq
  obtain ⟨n, rfl⟩ := hQ
  have HQ := Lib.hid hq; clear hq ST
  go_wp2_with fail
  go_ret
  exact HQ.out
end Go.Proofs.YtefndmjimmbhnaaDoor
end
