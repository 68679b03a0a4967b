/- Contracts of slices.Index and Contains at the disk's marks, of Sectors, forget and unlink. No condition but room. -/
import Derived.Test.YtefndmjimmbhnaaZ27
import Derived.Test.YtefndmjimmbhnaaZ29
import Derived.Test.YtefndmjimmbhnaaZ48
import Derived.Laws.Cover3
import Derived.LaidEql
section
set_option linter.unusedVariables false
set_option linter.unusedSimpArgs false
set_option maxRecDepth 50000
namespace Go.Proofs.Ytefndmjimmbhnaa
open Go.RowKit

/-- there is such a block -/
def Is (w : World) (p : Nat) : Prop := ∃ t cs, Blk w p t cs
theorem Is.below {w w1 : World} {p : Nat} (h : Is w p) (hb : Below w.heap.size w w1) : Is w1 p := by obtain ⟨t, cs, h⟩ := h; exact ⟨t, cs, h.below hb⟩
theorem Is.but {w w1 : World} {p : Nat} {S : Nat → Prop} (h : Is w p) (hb : But S w w1) (hs : ¬ S p) : Is w1 p := by obtain ⟨t, cs, h⟩ := h; exact ⟨t, cs, h.but hb hs⟩
theorem same_ptr {w : World} {p q : Nat} (hp : Is w p) (hq : Is w q) : (sameAddr ⟨p, 0, none⟩ ⟨q, 0, none⟩).run Try.prog w = .ok (decide (p = q)) w := by
  by_cases h : p = q
  · subst h; rw [run_sameAddr_same, decide_eq_true rfl]
  · obtain ⟨t, cs, hp⟩ := hp
    obtain ⟨t', cs', hq⟩ := hq
    rw [decide_eq_false h]
    exact run_sameAddr_other w (fun e => h (by injection e)) hp hq
theorem ptr_eq {w : World} {p q : Nat} (hp : Is w p) (hq : Is w q) {d : Nat} : (Op.equalIn (d + 1) 82 (ptrV p) (ptrV q)).run Try.prog w = .ok (decide (p = q)) w := by
  simp [Op.equalIn, go_sem, run_underlying Try.underlying82, same_ptr hp hq]
theorem mark_eql {w : World} {p q : Nat} (n m : Nat) (hp : Is w p) (hq : Is w q) : (binOp .eql 84 (.agg #[ptrV p, .int .i64 (n : Int)]) (.agg #[ptrV q, .int .i64 (m : Int)])).run Try.prog w = .ok (.bool (decide ((p, n) = (q, m)))) w := by
  have e : decide ((p, n) = (q, m)) = (decide (p = q) && ((n : Int) == (m : Int) && true)) := by
    rw [Bool.eq_iff_iff]; simp; intro _; omega
  have h : (Op.equalIn 10000 84 (.agg #[ptrV p, .int .i64 (n : Int)]) (.agg #[ptrV q, .int .i64 (m : Int)])).run Try.prog w = .ok (decide (p = q) && ((n : Int) == (m : Int) && true)) w := by
    refine eqS (d := 9999) Try.underlying84 (by kernel_rfl) ?_
    refine eqF (by rfl) (by go_simp <;> rfl) (by go_simp <;> rfl) (ptr_eq hp hq) ?_
    refine eqF (by rfl) (by go_simp <;> rfl) (by go_simp <;> rfl) (by go_simp) ?_
    exact eqN
  rw [run_eql_struct, h, e]; rfl
set_option maxHeartbeats 1000000 in
theorem indexM_any (v : Value) (L : List (Nat × Nat)) (p n : Nat) (w : World) (hv : SlX eM w.heap.size w v L) (hl : L.length ≤ 9223372036854775807) (hp : Is w p) (hpg : ∀ x ∈ L, Is w x.1) :
    Calls Try.prog 104 #[v, .agg #[ptrV p, .int .i64 (n : Int)]] w fun e w' => ∃ r, e = .returned (.int .i64 r) ∧ decide (0 ≤ r) = decide ((p, n) ∈ L) ∧ Below w.heap.size w w' := by
  have B0 := below_alloc (Below.refl _ w) (.cells #[ptrV p, .int .i64 (n : Int)] 84)
  have KB := Lib.hid (Blk.new w 84 #[ptrV p, .int .i64 (n : Int)])
  have HB0 := Lib.hid B0
  have hv := hv.keep B0
  have HV := Lib.hid hv
  have HP := Lib.hid (hp.below B0); have HPG := Lib.hid (fun x hx => (hpg x hx).below B0)
  clear hp hpg
  obtain ⟨a, cap, rfl, hc, hx⟩ := hv.ex
  have HX := Lib.hid hx
  clear hx hv B0
  simp only [ptrV] at *
  go_enter Try.func104, Try.ntmps104
  go_wp2_with fail
  generalize w.alloc (.cells #[.pointer (some ⟨p, 0, none⟩), .int .i64 (n : Int)] 84) = W0 at *
  go_loopw [5, 8] (fun _ v8 wr => ∃ i : Nat, v8 = .int .i64 (i : Int) ∧ i ≤ L.length ∧ Hid ((p, n) ∉ L.take i) ∧ Hid (Below W0.heap.size W0 wr)) (fun _ v8 _ => L.length - (intOf v8).toNat)
  case atStart => exact ⟨0, rfl, by omega, Lib.hid (by simp), Lib.hid (Below.refl _ _)⟩
  case round =>
    obtain ⟨i, rfl, hi, HN, HBR⟩ := hrel
    by_cases hlt : i < L.length
    · have hz : (i : Int) < (L.length : Int) := by omega
      obtain ⟨gl, o, rfl, hgl2, _⟩ := HX.out (by omega)
      have duo := (HV.out.duo i hlt).keep HBR.out
      have YES := Lib.hid (fun (h : (p, n) = L[i]) => show (p, n) ∈ L from by rw [h]; exact List.getElem_mem hlt)
      have NO := Lib.hid (fun (h : (p, n) ≠ L[i]) => show (p, n) ∉ L.take (i + 1) by
        rw [List.take_succ_eq_append_getElem hlt]
        intro hx
        rcases List.mem_append.1 hx with hx | hx
        · exact HN.out hx
        · exact h (List.mem_singleton.1 hx))
      have PX := Lib.hid ((HPG.out L[i] (List.getElem_mem hlt)).below HBR.out)
      generalize L[i] = x at *
      have c0 := duo.c0; have c1 := duo.c1
      obtain ⟨pa, pn⟩ := x
      have PE := ptr_eq (d := 9998) ((HP.out.below HBR.out).below (Below.drew (Below.refl _ _))) (PX.out.below (Below.drew (Below.refl _ _)))
      simp only [ptrV] at *
      have kb := KB.out.below HBR.out
      have k0 := kb.cell 0 rfl; have k1 := kb.cell 1 rfl
      clear duo kb
      by_cases he : (p, n) = (pa, pn)
      · have Y := Lib.hid (YES.out he)
        injection he with he1 he2
        subst he1 he2
        rw [decide_eq_true rfl] at PE
        go_wp2_with fail
        go_region
        clear c0 c1 k0 k1 PE
        go_wp2_with fail
        go_ret
        refine ⟨_, rfl, ?_, below_tr HB0.out (Below.drew HBR.out)⟩
        rw [decide_eq_true Y.out, decide_eq_true (by omega)]
      · have N := Lib.hid (NO.out he)
        by_cases he1 : p = pa
        · subst he1
          have he2 : ¬ (n : Int) = (pn : Int) := fun e => he (by rw [show n = pn by omega])
          rw [decide_eq_true rfl] at PE
          clear he
          go_wp2_with fail
          go_region
          clear c0 c1 k0 k1 PE he2
          go_wp2_with fail
          exact ⟨⟨i + 1, by first | rfl | go_num, by omega, N, Lib.hid (Below.drew HBR.out)⟩, by simp [intOf]; omega⟩
        · rw [decide_eq_false he1] at PE
          clear he
          go_wp2_with fail
          go_region
          clear c0 c1 k0 k1 PE
          go_wp2_with fail
          exact ⟨⟨i + 1, by first | rfl | go_num, by omega, N, Lib.hid (Below.drew HBR.out)⟩, by simp [intOf]; omega⟩
    · have hz : ¬ (i : Int) < (L.length : Int) := by omega
      have e : L.take i = L := List.take_of_length_le (by omega)
      have hn := HN.out
      rw [e] at hn
      have FIN := Lib.hid hn
      clear hn e HN
      go_wp2_with fail
      go_ret
      exact ⟨-1, rfl, by simp [FIN.out], below_tr HB0.out HBR.out⟩
theorem conM_any (v : Value) (L : List (Nat × Nat)) (p n : Nat) (w : World) (hv : SlX eM w.heap.size w v L) (hl : L.length ≤ 9223372036854775807) (hp : Is w p) (hpg : ∀ x ∈ L, Is w x.1) :
    Calls Try.prog 95 #[v, .agg #[ptrV p, .int .i64 (n : Int)]] w fun e w' => e = .returned (.bool (decide ((p, n) ∈ L))) ∧ Below w.heap.size w w' := by
  have B0 := below_alloc (Below.refl _ w) (.cells #[ptrV p, .int .i64 (n : Int)] 84)
  have C := Lib.hid (indexM_any v L p n _ (hv.keep B0) hl (hp.below B0) (fun x hx => (hpg x hx).below B0))
  have HB0 := Lib.hid B0
  obtain ⟨a, cap, rfl, hc, hx⟩ := hv.ex
  simp only [ptrV] at *
  generalize decide ((p, n) ∈ L) = r at *
  clear hx hv B0
  go_enter Try.func95, Try.ntmps95
  go_wp2_with fail
  refine C.out.mono ?_
  rintro e w1 ⟨z, rfl, hz, hb⟩
  have HB1 := Lib.hid (below_tr HB0.out hb)
  clear hb C
  go_wp2_with fail
  go_ret
  exact ⟨by first | exact ret_b hz | rfl, HB1.out⟩
theorem sectors_any (n : Nat) (hn : n ≤ 1000000000000) (w : World) : Calls Try.prog 84 #[.int .i64 (n : Int)] w fun e w' => e = .returned (.int .i64 (sect n : Int)) ∧ Below w.heap.size w w' := by
  have h0 : max (n : Int) 0 = (n : Int) := by omega
  have h1 : (n : Int).tdiv 16 = ((n / 16 : Nat) : Int) := by rw [Int.tdiv_eq_ediv_of_nonneg (by omega)]; omega
  have h2 : (n : Int).tmod 16 = ((n % 16 : Nat) : Int) := by rw [Int.tmod_eq_emod_of_nonneg (by omega)]; omega
  have h3 : min ((n % 16 : Nat) : Int) 1 = ((min (n % 16) 1 : Nat) : Int) := by omega
  have h4 : wrap64 (((n / 16 : Nat) : Int) + ((min (n % 16) 1 : Nat) : Int)) = (sect n : Int) := by unfold wrap64 sect; omega
  go_enter Try.func84, Try.ntmps84
  go_wp2_with fail
  all_goals (
    go_ret
    exact ⟨ret_i (by unfold sect; omega), Below.refl _ _⟩)
end Go.Proofs.Ytefndmjimmbhnaa
end
