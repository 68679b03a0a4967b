/- Contracts of purge.without's closures, of slices.IndexFunc and ContainsFunc at functions on keys. Conditions: keys of the bounds; at most a million functions. -/
import Derived.Test.YtmjeifbadjdnfaaDoorHc
set_option linter.unusedVariables false
set_option linter.unusedSimpArgs false
set_option maxRecDepth 50000
namespace Go.Proofs.YtmjeifbadjdnfaaDoor
open Go.RowKit Go.Sort

/-- a function that purge.having made: where its map stands, and its keys -/
abbrev Ask := Nat × List Ky
def askVal (a : Ask) : Value := .func (.func 60) #[] #[.pointer (some ⟨a.1, 0, none⟩)]
theorem infoAsk : (Tryd.prog.info? 79).map (fun i => (i.zero, i.size, i.bytes)) = some (some .nilFunc, 1, 8) := by kernel_rfl
def eF : El Ask := { st := 78, t := 79, size := 1, bytes := 8, z := .nilFunc, enc := fun a => [askVal a], len := fun _ => rfl, one := fun x u hu => by simp at hu; subst hu; rfl, info := infoAsk, und := Tryd.underlying78, elem := by kernel_rfl, zs := rfl, pos := by decide }
def AskOk (w : World) (a : Ask) : Prop := ∃ b, w.cell? ⟨a.1, 0, none⟩ = some (.map (some b)) ∧ MapK w b a.2
theorem AskOk.below {w w1 : World} {a : Ask} (h : AskOk w a) (hb : Below w.heap.size w w1) : AskOk w1 a := by
  obtain ⟨b, h1, h2⟩ := h
  exact ⟨b, cell_keep hb h1, h2.below hb⟩
def anyIn (k : Ky) (l : List Ask) : Bool := l.any fun a => decide (k ∈ a.2)

theorem ask_any (k : Ky) (gc : Nat) (v : Vr) (a : Ask) (w : World) (h : AskOk w a) (hk : KyOk k) (hc : Ten w gc 0 ⟨k, v⟩) :
    Calls Tryd.prog 63 #[.func (.func 60) #[] #[.pointer (some ⟨a.1, 0, none⟩)], .pointer (some ⟨gc, 0, none⟩)] w fun e w' => e = .returned (.bool (decide (k ∈ a.2))) ∧ Below w.heap.size w w' := by
  obtain ⟨b, h1, h2⟩ := h
  have HC := Lib.hid (fun W (hb : Below w.heap.size w W) => has_any k a.1 b a.2 W (h2.below hb) hk (cell_keep hb h1))
  obtain ⟨c0, c1, c2, c3, _⟩ := hc
  simp only [kyVal] at HC
  simp only [Nat.zero_add] at c0 c1 c2 c3
  clear h1 h2 hk
  go_enter Tryd.func63, Tryd.ntmps63
  go_wp2_with fail
  refine (HC.out _ (Below.refl _ _)).mono ?_
  rintro e w1 ⟨rfl, hb⟩
  go_wp2_with fail
  go_ret
  exact ⟨rfl, hb⟩

theorem Ten.under {w w1 : World} {g : Nat} {c : Cel} (h : Ten w g 0 c) (hb : Below w.heap.size w w1) : Ten w1 g 0 c := h.keep hb
theorem anyIn_take (k : Ky) (l : List Ask) (i : Nat) (h : i < l.length) : anyIn k (l.take (i + 1)) = (anyIn k (l.take i) || decide (k ∈ l[i].2)) := by
  unfold anyIn
  rw [List.take_succ_eq_append_getElem h, List.any_append]; simp
theorem eF_cell {B : Nat} {w : World} {l : List Ask} {g o n c : Nat} (h : SlX eF B w (.slice (some ⟨g, o, none⟩) n c) l) (j : Nat) (hj : j < l.length) : w.cell? ⟨g, o + j, none⟩ = some (.func (.func 60) #[] #[.pointer (some ⟨l[j].1, 0, none⟩)]) := by
  have := h.cell j 0 hj (u := askVal l[j]) rfl
  rwa [show o + j * eF.size + 0 = o + j by show o + j * 1 + 0 = _; omega] at this

theorem askIdx_any (k : Ky) (gc : Nat) (v : Vr) (val : Value) (l : List Ask) (w : World) (hv : SlX eF w.heap.size w val l) (ha : ∀ a ∈ l, AskOk w a) (hk : KyOk k) (hc : Ten w gc 0 ⟨k, v⟩) (hl : l.length ≤ 6000000000000) :
    Calls Tryd.prog 78 #[val, .func (.func 63) #[] #[.pointer (some ⟨gc, 0, none⟩)]] w
      fun e w' => ∃ r : Int, e = .returned (.int .i64 r) ∧ -1 ≤ r ∧ decide (0 ≤ r) = anyIn k l ∧ Below w.heap.size w w' := by
  have HV := Lib.hid hv
  obtain ⟨a, c, rfl, hcc, hx⟩ := hv.ex
  have HX := Lib.hid hx
  have AK := Lib.hid (fun (i : Nat) (h : i < l.length) W (hb : Below w.heap.size w W) => ask_any k gc v l[i] W ((ha l[i] (List.getElem_mem h)).below hb) hk (hc.keep hb))
  clear hx hv ha hk hc
  go_enter Tryd.func78, Tryd.ntmps78
  go_wp2_with fail
  go_loopw [5, 8] (fun _ vi wr => ∃ i : Nat, i ≤ l.length ∧ vi = .int .i64 (i : Int) ∧ anyIn k (l.take i) = false ∧ Below w.heap.size w wr) (fun _ vi _ => l.length - (intOf vi).toNat)
  case atStart => exact ⟨0, by omega, rfl, by simp [anyIn], Below.refl _ _⟩
  case round =>
    obtain ⟨i, hi, rfl, hno, hbl⟩ := hrel
    have HNO := Lib.hid hno; have HBL := Lib.hid hbl; clear hno hbl
    by_cases hlt : i < l.length
    · have hz : (i : Int) < (l.length : Int) := by omega
      obtain ⟨gl, o, rfl, hgl2, _⟩ := HX.out (by omega)
      have ec := cell_keep HBL.out (eF_cell HV.out i hlt)
      have ht := anyIn_take k l i hlt
      rw [HNO.out, Bool.false_or] at ht
      have AKi := AK.out i hlt
      have hall : decide (k ∈ l[i].2) = true → anyIn k l = true := fun h => by
        unfold anyIn
        rw [List.any_eq_true]
        exact ⟨l[i], List.getElem_mem hlt, h⟩
      generalize l[i] = a at *
      generalize decide (k ∈ a.2) = r at *
      have HT := Lib.hid ht; have AKI := Lib.hid AKi; have HALL := Lib.hid hall
      clear ht AKi hall AK
      go_wp2_with fail
      refine (AKI.out _ HBL.out).mono ?_
      rintro e w1 ⟨rfl, hb⟩
      have HB1 := Lib.hid (below_tr HBL.out hb); clear hb
      cases r with
      | true =>
        go_wp2_with fail
        go_ret
        exact ⟨(i : Int), rfl, by omega, by rw [HALL.out (by trivial)]; simp, HB1.out⟩
      | false =>
        go_wp2_with fail
        first
          | exact ⟨⟨i + 1, by omega, by first | rfl | go_num, HT.out, HB1.out⟩, by simp [intOf]; omega⟩
          | (go_roundw; case rel => exact ⟨i + 1, by omega, by first | rfl | go_num, HT.out, HB1.out⟩; case measure => simp [intOf]; omega)
    · have hz : ¬ (i : Int) < (l.length : Int) := by omega
      have e : l.take i = l := List.take_of_length_le (by omega)
      have hno := HNO.out
      rw [e] at hno
      have HN2 := Lib.hid hno
      clear HNO hno
      go_wp2_with fail
      go_ret
      exact ⟨-1, rfl, by omega, by rw [HN2.out]; rfl, HBL.out⟩
theorem askHas_any (k : Ky) (gc : Nat) (v : Vr) (val : Value) (l : List Ask) (w : World) (hv : SlX eF w.heap.size w val l) (ha : ∀ a ∈ l, AskOk w a) (hk : KyOk k) (hc : Ten w gc 0 ⟨k, v⟩) (hl : l.length ≤ 6000000000000) :
    Calls Tryd.prog 62 #[val, .func (.func 63) #[] #[.pointer (some ⟨gc, 0, none⟩)]] w
      fun e w' => e = .returned (.bool (anyIn k l)) ∧ Below w.heap.size w w' := by
  have C := Lib.hid (askIdx_any k gc v val l w hv ha hk hc hl)
  clear hv ha hk hc
  go_enter Tryd.func62, Tryd.ntmps62
  go_wp2_with fail
  refine C.out.mono ?_
  rintro e w1 ⟨r, rfl, _, hr, hb⟩
  have HR := Lib.hid hr; have HB := Lib.hid hb; clear hr hb
  go_wp2_with fail
  go_ret
  exact ⟨by rw [← HR.out]; rfl, HB.out⟩
/-- is a cell gone? -/
def goneB (now g : Int) (asks : List Ask) (c : Cel) : Bool := oldV c.v now g && !anyIn c.k asks
theorem gone_any (c : Cel) (now g : Int) (gn gg ga : Nat) (val : Value) (asks : List Ask) (w : World) (h1 : w.cell? ⟨gn, 0, none⟩ = some (.int .i64 now)) (h2 : w.cell? ⟨gg, 0, none⟩ = some (.int .i64 g)) (h3 : w.cell? ⟨ga, 0, none⟩ = some val)
    (hv : SlX eF w.heap.size w val asks) (ha : ∀ a ∈ asks, AskOk w a) (hk : KyOk c.k) (i1 : In64 c.v.loc) (i2 : In64 now) (i3 : In64 g) (hl : asks.length ≤ 6000000000000) :
    Calls Tryd.prog 61 #[.agg (celEnc c).toArray, .pointer (some ⟨gn, 0, none⟩), .pointer (some ⟨gg, 0, none⟩), .pointer (some ⟨ga, 0, none⟩)] w
      fun e w' => e = .returned (.bool (goneB now g asks c)) ∧ Below w.heap.size w w' := by
  obtain ⟨av, cv, rfl, _⟩ := hv.ex
  have hb0 := below_alloc (Below.refl _ w) (.cells (celEnc c).toArray 35)
  have hbk : Blk (w.alloc (.cells (celEnc c).toArray 35)) w.heap.size 35 (celEnc c).toArray := Blk.new w _ _
  have ten : Ten (w.alloc (.cells (celEnc c).toArray 35)) w.heap.size 0 c := ⟨hbk.cell 0 rfl, hbk.cell 1 rfl, hbk.cell 2 rfl, hbk.cell 3 rfl, hbk.cell 4 rfl, hbk.cell 5 rfl, hbk.cell 6 rfl, hbk.cell 7 rfl, hbk.cell 8 rfl, hbk.cell 9 rfl⟩
  have OLD := Lib.hid (fun W => Old_any c.v now g W i1 i2 i3)
  have ASK := Lib.hid (fun W (hb : Below (w.alloc (.cells (celEnc c).toArray 35)).heap.size (w.alloc (.cells (celEnc c).toArray 35)) W) => askHas_any c.k w.heap.size c.v _ asks W (hv.keep (below_tr hb0 hb)) (fun a h => (ha a h).below (below_tr hb0 hb)) hk (ten.keep hb) hl)
  have h1' := cell_keep hb0 h1; have h2' := cell_keep hb0 h2; have h3' := cell_keep hb0 h3
  unfold goneB
  generalize anyIn c.k asks = r at *
  have HB0 := Lib.hid hb0
  have H3K := Lib.hid (fun W (hb : Below (w.alloc (.cells (celEnc c).toArray 35)).heap.size (w.alloc (.cells (celEnc c).toArray 35)) W) => cell_keep hb h3')
  clear h1 h2 h3 hb0 hv ha hk hbk ten i1 i2 i3
  obtain ⟨⟨t, p, n, q⟩, ⟨tm, dd, lc, kd, nn, ss⟩⟩ := c
  simp only [celEnc, vrEnc] at *
  generalize oldV _ now g = od at *
  go_enter Tryd.func61, Tryd.ntmps61
  go_wp2_with fail
  refine (OLD.out _).mono ?_
  rintro e w1 ⟨rfl, hb1⟩
  have h3'' := H3K.out _ hb1
  have HB1 := Lib.hid hb1
  clear h1' h2' h3' hb1 OLD H3K
  cases od with
  | false =>
    go_wp2_with fail
    go_ret
    exact ⟨rfl, below_tr HB0.out HB1.out⟩
  | true =>
    go_wp2_with fail
    refine (ASK.out _ HB1.out).mono ?_
    rintro e w2 ⟨rfl, hb2⟩
    have HB2 := Lib.hid hb2; clear hb2
    go_wp2_with fail
    go_ret
    exact ⟨by simp, below_tr HB0.out (below_tr HB1.out HB2.out)⟩
end Go.Proofs.YtmjeifbadjdnfaaDoor
