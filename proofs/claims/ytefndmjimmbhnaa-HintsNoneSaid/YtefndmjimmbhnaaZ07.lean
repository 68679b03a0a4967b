/- Contracts of the codec's put and text: what they write grows in the memory of the slice at hand. Conditions: numbers of their kinds; lengths leave room. Cells as values; contracts of the law's dead, of purge's Old. Conditions: numbers are ints. Contracts of purge's having: a map of a list's keys. Conditions: keys of the bounds. -/
import Derived.Test.YtefndmjimmbhnaaZ47
import Derived.Test.YtefndmjimmbhnaaZ06
import Derived.Test.YtefndmjimmbhnaaZ01
import Derived.DeepKeys4
import Derived.Maps.Own
section
set_option linter.unusedVariables false
set_option linter.unusedSimpArgs false
set_option maxRecDepth 20000
namespace Go.Proofs.Ytefndmjimmbhnaa
open Go.RowKit

set_option maxHeartbeats 1000000 in
theorem putG_any (base : Nat) (v : Value) (l : List UInt8) (u : Nat) (w : World) (HO : OwnB w base v l) (hbase : base ≤ w.heap.size) (hu : u < 18446744073709551616) (hl : l.length ≤ 100000000000) :
    Calls Try.prog 72 #[v, .int .u64 (u : Int)] w (RetG base w v (l ++ putL u)) := by
  have HO0 := Lib.hid HO; clear HO
  have hp := putL_len 9 u (by omega)
  have HT := Lib.hid (rfl : l ++ putL u = l ++ putL u)
  generalize htot : l ++ putL u = tot at *
  have htl : tot.length ≤ 100000000010 := by rw [← htot]; simp; omega
  clear hp
  have HTO := Lib.hid htot; clear htot
  go_enter Try.func72, Try.ntmps72
  go_wp2
  go_loopw [0, 1] (fun s i wr => ∃ (m : Nat) (acc : List UInt8), m ≤ u ∧ i = .int .u64 (m : Int) ∧ GrowV w wr v s ∧ OwnB wr base s acc ∧ acc ++ putL m = tot) (fun _ i _ => (intOf i).toNat)
  case atStart => exact ⟨u, l, Nat.le_refl _, rfl, GrowV.refl _ _, HO0.out, HTO.out⟩
  case round =>
    obtain ⟨m, acc, hm, rfl, hG, hO, he⟩ := hrel
    have hz : base ≤ wr.heap.size := Nat.le_trans hbase hG.1.size
    have hlen : acc.length + 1 ≤ 140737488355328 := by
      have h1 := congrArg List.length he; rw [List.length_append] at h1; omega
    clear HO0
    have HO := Lib.hid hO; clear hO
    have HG := Lib.hid hG; clear hG
    by_cases h : m < 128
    · rw [putL_small m h] at he
      have HE := Lib.hid he; clear he
      have hb := bcells_nat m (by omega)
      have HBC := Lib.hid hb; clear hb
      have hmod : (m : Int) % 256 = m := by omega
      go_wp2_with (at_builtin; go_must (refine ap_gl rfl (.tmp 15) (.tmp 18) rfl base u0 acc [UInt8.ofNat m] _ 1 1 rfl rfl rfl (by simp) HBC.out HO.out hz hlen ?_); intro v1 w1 hO1 hG1; clear HO hz)
      go_ret
      exact ⟨_, rfl, by rw [HE.out] at hO1; exact hO1, HG.out.trans hG1⟩
    · rw [putL_great m h] at he
      have HE := Lib.hid he; clear he
      have hor := or128 (m % 256) (by omega)
      have hmm : m % 256 % 128 = m % 128 := by omega
      rw [hmm] at hor
      have hb := bcells_nat (m % 128 + 128) (by omega)
      have HBC := Lib.hid hb; clear hb hmm
      have hcast : ((m % 256 : Nat) : Int) = (m : Int) % 256 := by omega
      rw [hcast] at hor
      clear hcast
      go_wp2_with (at_builtin; go_must (refine ap_gl rfl (.tmp 9) (.tmp 13) rfl base u0 acc [UInt8.ofNat (m % 128 + 128)] _ 1 1 rfl rfl rfl (by simp) HBC.out HO.out hz hlen ?_); intro v1 w1 hO1 hG1; clear HO hz)
      go_roundw
      case rel => exact ⟨m / 128, acc ++ [UInt8.ofNat (m % 128 + 128)], by omega, by go_num, HG.out.trans hG1, hO1, by rw [List.append_assoc]; exact HE.out⟩
      case measure => (first | (simp [intOf]; done) | (simp [intOf]; omega))
theorem textG_any (base : Nat) (v : Value) (l : List UInt8) (s : ByteArray) (w : World) (HO : OwnB w base v l) (hbase : base ≤ w.heap.size) (hs : s.size ≤ 1000000) (hl : l.length ≤ 10000000000) :
    Calls Try.prog 73 #[v, .string s] w (RetG base w v (l ++ textL s.toList)) := by
  have C := Lib.hid (putG_any base v l s.size w HO hbase (by omega) (by omega))
  have hp := putL_len 9 s.size (by omega)
  have hm : (l ++ putL s.size).length + s.size ≤ 140737488355328 := by simp; omega
  have hsz : s.size ≤ maxLen := by unfold maxLen; omega
  unfold maxLen at hsz
  clear hp
  have hW : IntKind.u64.wrap (s.size : Int) = (s.size : Int) := by rw [wu64]; omega
  have HL := Lib.hid (show textL s.toList = putL s.size ++ s.toList by unfold textL; rw [str_len])
  generalize hput : putL s.size = pu at *
  clear HO
  go_enter Try.func73, Try.ntmps73
  go_wp2_with fail
  refine C.out.mono ?_
  rintro e w1 ⟨v1, rfl, hO1, hg1⟩
  have hz1 := Nat.le_trans hbase hg1.1.size
  go_wp2_with (at_builtin; go_must (refine ap_gs rfl (.tmp 9) (.tmp 10) rfl base v1 _ s rfl rfl hO1 hz1 hm ?_); intro v2 w2 hO2 hg2)
  go_ret
  exact ⟨_, rfl, by rw [HL.out, ← List.append_assoc]; exact hO2, hg1.trans hg2⟩
end Go.Proofs.Ytefndmjimmbhnaa
end

section
set_option linter.unusedVariables false
set_option linter.unusedSimpArgs false
set_option maxRecDepth 20000
namespace Go.Proofs.Ytefndmjimmbhnaa
open Go.RowKit Go.Sort

def oldV (v : Vr) (now g : Int) : Bool := v.dead && (decide (v.loc ≤ now) && decide (max g 0 ≤ now - v.loc))
theorem Old_any (v : Vr) (now g : Int) (w : World) (h1 : In64 v.loc) (h2 : In64 now) (h3 : In64 g) : Calls Try.prog 35 #[.agg (vrEnc v).toArray, .int .i64 now, .int .i64 g] w fun e w' => e = .returned (.bool (oldV v now g)) ∧ Below w.heap.size w w' := by
  obtain ⟨t, d, l, k, n, s⟩ := v
  unfold In64 at h1 h2 h3
  simp only [vrEnc, oldV] at *
  cases d with
  | false =>
    go_enter Try.func35, Try.ntmps35
    go_wp2_with fail
    go_ret
    exact ⟨rfl, below_alloc (Below.refl _ _) _⟩
  | true =>
    by_cases hl : l ≤ now
    · have hw : IntKind.u64.wrap (wrap64 (now - l)) = now - l := by rw [IntKind.wrap_u64]; unfold wrap64; omega
      have HW := Lib.hid hw
      rw [decide_eq_true hl]
      by_cases hg : 0 ≤ g
      · have hw2 : IntKind.u64.wrap g = g := by rw [IntKind.wrap_u64]; omega
        rw [show max g 0 = g by omega]
        have HW2 := Lib.hid hw2
        clear h1 h2 h3 hw hw2
        go_enter Try.func35, Try.ntmps35
        go_wp2_with fail
        go_ret
        exact ⟨by rw [HW.out, HW2.out]; rfl, below_alloc (Below.refl _ _) _⟩
      · rw [show max g 0 = 0 by omega]
        have H0 := Lib.hid (show (0 : Int) ≤ now - l by omega)
        clear h1 h2 h3 hw
        go_enter Try.func35, Try.ntmps35
        go_wp2_with fail
        go_ret
        exact ⟨by first | rfl | (rw [HW.out]; rfl) | (rw [decide_eq_true H0.out]; rfl) | (rw [HW.out, decide_eq_true H0.out]; rfl), below_alloc (Below.refl _ _) _⟩
    · rw [decide_eq_false hl]
      clear h1 h2 h3
      go_enter Try.func35, Try.ntmps35
      go_wp2_with fail
      go_ret
      exact ⟨rfl, below_alloc (Below.refl _ _) _⟩
end Go.Proofs.Ytefndmjimmbhnaa
end

section
set_option linter.unusedVariables false
set_option linter.unusedSimpArgs false
set_option maxRecDepth 20000
namespace Go.Proofs.Ytefndmjimmbhnaa
open Go.RowKit Go.Sort
open Go.ChangeMaps (setBlock heap_setBlock_same heap_setBlock_other)

def kyVal (k : Ky) : Value := .agg #[.string k.t, .string k.p, .int .i64 k.r, .string k.c]
structure KyOk (k : Ky) : Prop where
  t : k.t.size ≤ 9223372036854775807
  p : k.p.size ≤ 9223372036854775807
  r : In64 k.r
  c : k.c.size ≤ 9223372036854775807
instance : DecidableEq Ky := fun a b => decidable_of_iff (a.t = b.t ∧ a.p = b.p ∧ a.r = b.r ∧ a.c = b.c) (by cases a; cases b; simp)
theorem kyVal_inj {a b : Ky} (h : kyVal a = kyVal b) : a = b := by
  cases a; cases b
  simp [kyVal] at h
  simp [h]
end Go.Proofs.Ytefndmjimmbhnaa
end
