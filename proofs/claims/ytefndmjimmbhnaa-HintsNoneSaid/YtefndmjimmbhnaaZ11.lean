/- A block of ten cells, filled again. It speaks of no program; no condition. Contracts of the codec's reader's cell and of ReadCells. Condition: at most a million bytes. Contract of the codec's ReadCells: what it recovers from, and what it tells. Condition: at most a million bytes. -/
import Derived.Test.YtefndmjimmbhnaaZ00
import Derived.Test.YtefndmjimmbhnaaZ10
import Derived.Lib.BufferOwn
section
set_option linter.unusedVariables false
set_option linter.unusedSimpArgs false
namespace Go.Proofs.Ytefndmjimmbhnaa
open Go.RowKit

theorem Blk.put10 {w : World} {g : Nat} {t : TypeId} {a0 a1 a2 a3 a4 a5 a6 a7 a8 a9 : Value} (h : Blk w g t #[a0, a1, a2, a3, a4, a5, a6, a7, a8, a9]) (u0 u1 u2 u3 u4 u5 u6 u7 u8 u9 : Value) :
    Blk ((((((((((w.setCell ⟨g, 0, none⟩ u0).setCell ⟨g, 1, none⟩ u1).setCell ⟨g, 2, none⟩ u2).setCell ⟨g, 3, none⟩ u3).setCell ⟨g, 4, none⟩ u4).setCell ⟨g, 5, none⟩ u5).setCell ⟨g, 6, none⟩ u6).setCell ⟨g, 7, none⟩ u7).setCell ⟨g, 8, none⟩ u8).setCell ⟨g, 9, none⟩ u9) g t #[u0, u1, u2, u3, u4, u5, u6, u7, u8, u9] := by
  have h0 : Blk (w.setCell ⟨g, 0, none⟩ u0) g t #[u0, a1, a2, a3, a4, a5, a6, a7, a8, a9] := h.put 0 u0
  have h1 : Blk ((w.setCell ⟨g, 0, none⟩ u0).setCell ⟨g, 1, none⟩ u1) g t #[u0, u1, a2, a3, a4, a5, a6, a7, a8, a9] := h0.put 1 u1
  have h2 : Blk (((w.setCell ⟨g, 0, none⟩ u0).setCell ⟨g, 1, none⟩ u1).setCell ⟨g, 2, none⟩ u2) g t #[u0, u1, u2, a3, a4, a5, a6, a7, a8, a9] := h1.put 2 u2
  have h3 : Blk ((((w.setCell ⟨g, 0, none⟩ u0).setCell ⟨g, 1, none⟩ u1).setCell ⟨g, 2, none⟩ u2).setCell ⟨g, 3, none⟩ u3) g t #[u0, u1, u2, u3, a4, a5, a6, a7, a8, a9] := h2.put 3 u3
  have h4 : Blk (((((w.setCell ⟨g, 0, none⟩ u0).setCell ⟨g, 1, none⟩ u1).setCell ⟨g, 2, none⟩ u2).setCell ⟨g, 3, none⟩ u3).setCell ⟨g, 4, none⟩ u4) g t #[u0, u1, u2, u3, u4, a5, a6, a7, a8, a9] := h3.put 4 u4
  have h5 : Blk ((((((w.setCell ⟨g, 0, none⟩ u0).setCell ⟨g, 1, none⟩ u1).setCell ⟨g, 2, none⟩ u2).setCell ⟨g, 3, none⟩ u3).setCell ⟨g, 4, none⟩ u4).setCell ⟨g, 5, none⟩ u5) g t #[u0, u1, u2, u3, u4, u5, a6, a7, a8, a9] := h4.put 5 u5
  have h6 : Blk (((((((w.setCell ⟨g, 0, none⟩ u0).setCell ⟨g, 1, none⟩ u1).setCell ⟨g, 2, none⟩ u2).setCell ⟨g, 3, none⟩ u3).setCell ⟨g, 4, none⟩ u4).setCell ⟨g, 5, none⟩ u5).setCell ⟨g, 6, none⟩ u6) g t #[u0, u1, u2, u3, u4, u5, u6, a7, a8, a9] := h5.put 6 u6
  have h7 : Blk ((((((((w.setCell ⟨g, 0, none⟩ u0).setCell ⟨g, 1, none⟩ u1).setCell ⟨g, 2, none⟩ u2).setCell ⟨g, 3, none⟩ u3).setCell ⟨g, 4, none⟩ u4).setCell ⟨g, 5, none⟩ u5).setCell ⟨g, 6, none⟩ u6).setCell ⟨g, 7, none⟩ u7) g t #[u0, u1, u2, u3, u4, u5, u6, u7, a8, a9] := h6.put 7 u7
  have h8 : Blk (((((((((w.setCell ⟨g, 0, none⟩ u0).setCell ⟨g, 1, none⟩ u1).setCell ⟨g, 2, none⟩ u2).setCell ⟨g, 3, none⟩ u3).setCell ⟨g, 4, none⟩ u4).setCell ⟨g, 5, none⟩ u5).setCell ⟨g, 6, none⟩ u6).setCell ⟨g, 7, none⟩ u7).setCell ⟨g, 8, none⟩ u8) g t #[u0, u1, u2, u3, u4, u5, u6, u7, u8, a9] := h7.put 8 u8
  have h9 : Blk ((((((((((w.setCell ⟨g, 0, none⟩ u0).setCell ⟨g, 1, none⟩ u1).setCell ⟨g, 2, none⟩ u2).setCell ⟨g, 3, none⟩ u3).setCell ⟨g, 4, none⟩ u4).setCell ⟨g, 5, none⟩ u5).setCell ⟨g, 6, none⟩ u6).setCell ⟨g, 7, none⟩ u7).setCell ⟨g, 8, none⟩ u8).setCell ⟨g, 9, none⟩ u9) g t #[u0, u1, u2, u3, u4, u5, u6, u7, u8, u9] := h8.put 9 u9
  exact h9
end Go.Proofs.Ytefndmjimmbhnaa
end

section
set_option linter.unusedVariables false
set_option linter.unusedSimpArgs false
set_option maxRecDepth 50000
namespace Go.Proofs.Ytefndmjimmbhnaa
open Go.RowKit

theorem rdNum_le {l r : List UInt8} {u : Nat} (h : rdNum l = some (u, r)) : r.length ≤ l.length := by have := rdNum_len h; omega
theorem rdText_le {l r s : List UInt8} (h : rdText l = some (s, r)) : r.length ≤ l.length := by have := rdText_len h; omega
theorem rdInt_le {l r : List UInt8} {n : Int} (h : rdInt l = some (n, r)) : r.length ≤ l.length := by
  unfold rdInt at h
  cases e : rdNum l with
  | none => rw [e] at h; cases h
  | some q => rw [e] at h; simp at h; obtain ⟨_, rfl⟩ := h; have := rdNum_len e; omega
theorem rdFlag_le {l r : List UInt8} {b : Bool} (h : rdFlag l = some (b, r)) : r.length ≤ l.length := by
  cases l with
  | nil => cases h
  | cons x l => rw [show rdFlag (x :: l) = if 1 < x.toNat then none else some (x.toNat == 1, l) from rfl] at h; split at h <;> simp at h; obtain ⟨_, rfl⟩ := h; simp
abbrev zC : Array Value := #[.string ⟨#[]⟩, .string ⟨#[]⟩, .int .i64 0, .string ⟨#[]⟩, .int .i64 0, .bool false, .int .i64 0, .int .i64 0, .int .i64 0, .string ⟨#[]⟩]
/-- While a cell is read: the reader, and the cell's two variables. -/
structure RC (B : Nat) (W : World) (g : Nat) (w : World) (l : List UInt8) (cs : Array Value) : Prop where
  rd : ∃ v, Rd B w g v l
  gr : W.grownBy w (some g)
  hg : g < W.heap.size
  k2 : Blk w W.heap.size 62 zC
  k5 : Blk w (W.heap.size + 1) 62 cs
  len : l.length ≤ 1000000
theorem grown_tr {w w1 w2 : World} {r : Option Nat} (h : w.grownBy w1 r) (k : w1.grownBy w2 r) : w.grownBy w2 r :=
  ⟨k.os.trans h.os, k.tape.trans h.tape, k.output.trans h.output, Nat.le_trans h.size k.size, fun i hi hne => (k.block i (Nat.lt_of_lt_of_le hi h.size) hne).trans (h.block i hi hne)⟩
section
variable {B : Nat} {W w w' : World} {g : Nat} {l r : List UInt8} {cs : Array Value} {x : Value} {e : Ending}
theorem RC.next (h : RC B W g w l cs) (p : RdPost B w g (some (x, r)) e w') (hr : r.length ≤ l.length) : e = .returned x ∧ RC B W g w' r cs :=
  ⟨p.2.1, p.2.2, grown_tr h.gr p.1, h.hg, h.k2.grown p.1 (by have := h.hg; simp; omega), h.k5.grown p.1 (by have := h.hg; simp; omega), Nat.le_trans hr h.len⟩
theorem RC.bad (h : RC B W g w l cs) (p : RdPost B w g none e w') : e = .panicked wrongC ∧ W.grownBy w' (some g) := ⟨p.2, grown_tr h.gr p.1⟩
theorem RC.put (h : RC B W g w l cs) (i : Nat) (u : Value) : RC B W g (w.setCell ⟨W.heap.size + 1, i, none⟩ u) l (cs.setIfInBounds i u) := by
  obtain ⟨v, hb, hs, hB⟩ := h.rd
  have hz : B ≤ W.heap.size + 1 := by have := h.hg; omega
  refine ⟨⟨v, hb.far (by have := h.hg; simp; omega) u, hs.below ((Below.refl _ _).setCell (p := ⟨W.heap.size + 1, i, none⟩) hz u), hB⟩, ?_, h.hg, h.k2.far (by simp) u, h.k5.put i u, h.len⟩
  exact ⟨h.gr.os, h.gr.tape, h.gr.output, by have := h.gr.size; simp [World.setCell]; omega, fun k hk hne => (Below.heap_setCell w ⟨W.heap.size + 1, i, none⟩ u k (by show k ≠ W.heap.size + 1; omega)).trans (h.gr.block k hk hne)⟩
/-- .. the result's variable is filled -/
theorem RC.res (h : RC B W g w l cs) (u0 u1 u2 u3 u4 u5 u6 u7 u8 u9 : Value) : (fun w2 => Blk w2 W.heap.size 62 #[u0, u1, u2, u3, u4, u5, u6, u7, u8, u9] ∧ W.grownBy w2 (some g) ∧ ∃ v, Rd B w2 g v l)
    ((((((((((w.setCell ⟨W.heap.size, 0, none⟩ u0).setCell ⟨W.heap.size, 1, none⟩ u1).setCell ⟨W.heap.size, 2, none⟩ u2).setCell ⟨W.heap.size, 3, none⟩ u3).setCell ⟨W.heap.size, 4, none⟩ u4).setCell ⟨W.heap.size, 5, none⟩ u5).setCell ⟨W.heap.size, 6, none⟩ u6).setCell ⟨W.heap.size, 7, none⟩ u7).setCell ⟨W.heap.size, 8, none⟩ u8).setCell ⟨W.heap.size, 9, none⟩ u9) := by
  obtain ⟨v, hb, hs, hB⟩ := h.rd
  have hne : g ≠ W.heap.size := by have := h.hg; omega
  have hz : B ≤ W.heap.size := by have := h.hg; omega
  have st : ∀ (w1 : World) i u, (W.grownBy w1 (some g) ∧ Rd B w1 g v l) → (W.grownBy (w1.setCell ⟨W.heap.size, i, none⟩ u) (some g) ∧ Rd B (w1.setCell ⟨W.heap.size, i, none⟩ u) g v l) := fun w1 i u ⟨a, b⟩ =>
    ⟨⟨a.os, a.tape, a.output, by have := a.size; simp [World.setCell]; omega, fun k hk hk2 => (Below.heap_setCell w1 ⟨W.heap.size, i, none⟩ u k (by show k ≠ W.heap.size; omega)).trans (a.block k hk hk2)⟩, b.blk.far hne u, b.sl.below ((Below.refl _ _).setCell (p := ⟨W.heap.size, i, none⟩) hz u), b.hB⟩
  have hall := st _ 9 u9 (st _ 8 u8 (st _ 7 u7 (st _ 6 u6 (st _ 5 u5 (st _ 4 u4 (st _ 3 u3 (st _ 2 u2 (st _ 1 u1 (st w 0 u0 ⟨h.gr, hb, hs, hB⟩)))))))))
  exact ⟨h.k2.put10 _ _ _ _ _ _ _ _ _ _, hall.1, v, hall.2⟩
theorem RC.num (h : RC B W g w l cs) : Calls Try.prog 92 #[.pointer (some ⟨g, 0, none⟩)] w (RdPost B w g ((rdNum l).map fun p => (.int .u64 (p.1 : Int), p.2))) := by
  obtain ⟨v, hv⟩ := h.rd; exact num_any B w g v l hv h.len
theorem RC.int (h : RC B W g w l cs) : Calls Try.prog 100 #[.pointer (some ⟨g, 0, none⟩)] w (RdPost B w g ((rdInt l).map fun p => (.int .i64 p.1, p.2))) := by
  obtain ⟨v, hv⟩ := h.rd; exact int_any B w g v l hv h.len
theorem RC.text (h : RC B W g w l cs) : Calls Try.prog 99 #[.pointer (some ⟨g, 0, none⟩)] w (RdPost B w g ((rdText l).map fun p => (sv p.1, p.2))) := by
  obtain ⟨v, hv⟩ := h.rd; exact rtxt_any B w g v l hv h.len
theorem RC.flag (h : RC B W g w l cs) : Calls Try.prog 101 #[.pointer (some ⟨g, 0, none⟩)] w (RdPost B w g ((rdFlag l).map fun p => (.bool p.1, p.2))) := by
  obtain ⟨v, hv⟩ := h.rd; exact flag_any B w g v l hv h.len
theorem RC.start (B : Nat) (W : World) (g : Nat) (v : Value) (l : List UInt8) (h : Rd B W g v l) (hl : l.length ≤ 1000000) : RC B W g ((W.alloc (.cells zC 62)).alloc (.cells zC 62)) l zC :=
  ⟨⟨v, (h.blk.alloc _).alloc _, h.sl.below (below_al (below_al (Below.refl _ _) _ (by have := h.blk.lt; have := h.hB; omega)) _ (by have := h.blk.lt; have := h.hB; simp; omega)), h.hB⟩, ⟨rfl, rfl, rfl, by simp; omega, fun k hk _ => by
    have e1 := Below.heap_alloc W (.cells zC 62) k hk
    exact (Below.heap_alloc (W.alloc (.cells zC 62)) (.cells zC 62) k (by simp; omega)).trans e1⟩, h.blk.lt, (Blk.new W _ _).alloc _, by
    have := Blk.new (W.alloc (.cells zC 62)) 62 zC
    simpa using this, hl⟩
end
theorem i64_of (u : Nat) (h : u < 18446744073709551616) : wrap64 (u : Int) = i64I u := by unfold wrap64 i64I; split <;> omega
set_option maxHeartbeats 4000000 in
theorem cell_any (B : Nat) (W : World) (g : Nat) (v : Value) (l : List UInt8) (h : Rd B W g v l) (hl : l.length ≤ 1000000) :
    Calls Try.prog 93 #[.pointer (some ⟨g, 0, none⟩)] W (RdPost B W g ((rdCell l).map fun p => (.agg (celEnc p.1).toArray, p.2))) := by
  have R0 := Lib.hid (RC.start B W g v l h hl)
  have hmf : ∀ (fn : Fn) (first cap : Array Value) (w : World), (Instr.makeFunc fn first cap).run Try.prog w = .ok (.func fn first cap) w := fun _ _ _ _ => rfl
  clear h
  go_enter Try.func93, Try.ntmps93
  go_wp2_with fail
  refine (RC.text R0.out).mono ?_
  rintro e w1 hp
  cases h1 : rdText l with
  | none =>
    rw [h1] at hp
    obtain ⟨rfl, hg⟩ := R0.out.bad hp
    have hbad : rdCell l = none := by simp [rdCell, rdVer, h1]
    exact ⟨rfl, hg, by rw [hbad]; rfl⟩
  | some q1 =>
    obtain ⟨s1, l1⟩ := q1
    rw [h1] at hp
    obtain ⟨rfl, r1⟩ := R0.out.next hp (rdText_le h1)
    have H1 := Lib.hid h1; clear h1 hp
    have R1 : Hid (RC B W g _ l1 #[sv s1, .string ⟨#[]⟩, .int .i64 0, .string ⟨#[]⟩, .int .i64 0, .bool false, .int .i64 0, .int .i64 0, .int .i64 0, .string ⟨#[]⟩]) := Lib.hid (r1.put 0 (sv s1))
    have k1 := r1.k5.cell 0 rfl; have f1 := r1.k5.frozen 0; clear r1 R0
    go_wp2_with fail
    refine (RC.text R1.out).mono ?_
    rintro e w2 hp
    cases h2 : rdText l1 with
    | none =>
      rw [h2] at hp
      obtain ⟨rfl, hg⟩ := R1.out.bad hp
      have hbad : rdCell l = none := by simp [rdCell, rdVer, H1.out, h2]
      exact ⟨rfl, hg, by rw [hbad]; rfl⟩
    | some q2 =>
      obtain ⟨s2, l2⟩ := q2
      rw [h2] at hp
      obtain ⟨rfl, r2⟩ := R1.out.next hp (rdText_le h2)
      have H2 := Lib.hid h2; clear h2 hp
      have R2 : Hid (RC B W g _ l2 #[sv s1, sv s2, .int .i64 0, .string ⟨#[]⟩, .int .i64 0, .bool false, .int .i64 0, .int .i64 0, .int .i64 0, .string ⟨#[]⟩]) := Lib.hid (r2.put 1 (sv s2))
      have k2 := r2.k5.cell 1 rfl; have f2 := r2.k5.frozen 1; clear r2 R1
      go_wp2_with fail
      refine (RC.int R2.out).mono ?_
      rintro e w3 hp
      cases h3 : rdInt l2 with
      | none =>
        rw [h3] at hp
        obtain ⟨rfl, hg⟩ := R2.out.bad hp
        have hbad : rdCell l = none := by simp [rdCell, rdVer, H1.out, H2.out, h3]
        exact ⟨rfl, hg, by rw [hbad]; rfl⟩
      | some q3 =>
        obtain ⟨n3, l3⟩ := q3
        rw [h3] at hp
        obtain ⟨rfl, r3⟩ := R2.out.next hp (rdInt_le h3)
        have H3 := Lib.hid h3; clear h3 hp
        have R3 : Hid (RC B W g _ l3 #[sv s1, sv s2, .int .i64 n3, .string ⟨#[]⟩, .int .i64 0, .bool false, .int .i64 0, .int .i64 0, .int .i64 0, .string ⟨#[]⟩]) := Lib.hid (r3.put 2 (.int .i64 n3))
        have k3 := r3.k5.cell 2 rfl; have f3 := r3.k5.frozen 2; clear r3 R2
        go_wp2_with fail
        refine (RC.text R3.out).mono ?_
        rintro e w4 hp
        cases h4 : rdText l3 with
        | none =>
          rw [h4] at hp
          obtain ⟨rfl, hg⟩ := R3.out.bad hp
          have hbad : rdCell l = none := by simp [rdCell, rdVer, H1.out, H2.out, H3.out, h4]
          exact ⟨rfl, hg, by rw [hbad]; rfl⟩
        | some q4 =>
          obtain ⟨s4, l4⟩ := q4
          rw [h4] at hp
          obtain ⟨rfl, r4⟩ := R3.out.next hp (rdText_le h4)
          have H4 := Lib.hid h4; clear h4 hp
          have R4 : Hid (RC B W g _ l4 #[sv s1, sv s2, .int .i64 n3, sv s4, .int .i64 0, .bool false, .int .i64 0, .int .i64 0, .int .i64 0, .string ⟨#[]⟩]) := Lib.hid (r4.put 3 (sv s4))
          have k4 := r4.k5.cell 3 rfl; have f4 := r4.k5.frozen 3; clear r4 R3
          go_wp2_with fail
          refine (RC.int R4.out).mono ?_
          rintro e w5 hp
          cases h5 : rdInt l4 with
          | none =>
            rw [h5] at hp
            obtain ⟨rfl, hg⟩ := R4.out.bad hp
            have hbad : rdCell l = none := by simp [rdCell, rdVer, H1.out, H2.out, H3.out, H4.out, h5]
            exact ⟨rfl, hg, by rw [hbad]; rfl⟩
          | some q5 =>
            obtain ⟨n5, l5⟩ := q5
            rw [h5] at hp
            obtain ⟨rfl, r5⟩ := R4.out.next hp (rdInt_le h5)
            have H5 := Lib.hid h5; clear h5 hp
            have R5 : Hid (RC B W g _ l5 #[sv s1, sv s2, .int .i64 n3, sv s4, .int .i64 n5, .bool false, .int .i64 0, .int .i64 0, .int .i64 0, .string ⟨#[]⟩]) := Lib.hid (r5.put 4 (.int .i64 n5))
            have k5 := r5.k5.cell 4 rfl; have f5 := r5.k5.frozen 4; clear r5 R4
            go_wp2_with fail
            refine (RC.flag R5.out).mono ?_
            rintro e w6 hp
            cases h6 : rdFlag l5 with
            | none =>
              rw [h6] at hp
              obtain ⟨rfl, hg⟩ := R5.out.bad hp
              have hbad : rdCell l = none := by simp [rdCell, rdVer, H1.out, H2.out, H3.out, H4.out, H5.out, h6]
              exact ⟨rfl, hg, by rw [hbad]; rfl⟩
            | some q6 =>
              obtain ⟨b6, l6⟩ := q6
              rw [h6] at hp
              obtain ⟨rfl, r6⟩ := R5.out.next hp (rdFlag_le h6)
              have H6 := Lib.hid h6; clear h6 hp
              have R6 : Hid (RC B W g _ l6 #[sv s1, sv s2, .int .i64 n3, sv s4, .int .i64 n5, .bool b6, .int .i64 0, .int .i64 0, .int .i64 0, .string ⟨#[]⟩]) := Lib.hid (r6.put 5 (.bool b6))
              have k6 := r6.k5.cell 5 rfl; have f6 := r6.k5.frozen 5; clear r6 R5
              have kd := R6.out.k5.cell 5 rfl
              cases b6 with
              | true =>
                go_wp2_with fail
                refine (RC.int R6.out).mono ?_
                rintro e w7 hp
                cases h7 : rdInt l6 with
                | none =>
                  rw [h7] at hp
                  obtain ⟨rfl, hg⟩ := R6.out.bad hp
                  have hbad : rdCell l = none := by simp [rdCell, rdVer, H1.out, H2.out, H3.out, H4.out, H5.out, H6.out, h7]
                  exact ⟨rfl, hg, by rw [hbad]; rfl⟩
                | some q7 =>
                  obtain ⟨n7, l7⟩ := q7
                  rw [h7] at hp
                  obtain ⟨rfl, r7⟩ := R6.out.next hp (rdInt_le h7)
                  have H7 := Lib.hid h7; clear h7 hp
                  have R7 : Hid (RC B W g _ l7 #[sv s1, sv s2, .int .i64 n3, sv s4, .int .i64 n5, .bool true, .int .i64 n7, .int .i64 0, .int .i64 0, .string ⟨#[]⟩]) := Lib.hid (r7.put 6 (.int .i64 n7))
                  have k7 := r7.k5.cell 6 rfl; have f7 := r7.k5.frozen 6; clear r7 R6
                  have z0 := R7.out.k5.cell 0 rfl; have x0 := R7.out.k2.frozen 0
                  have z1 := R7.out.k5.cell 1 rfl; have x1 := R7.out.k2.frozen 1
                  have z2 := R7.out.k5.cell 2 rfl; have x2 := R7.out.k2.frozen 2
                  have z3 := R7.out.k5.cell 3 rfl; have x3 := R7.out.k2.frozen 3
                  have z4 := R7.out.k5.cell 4 rfl; have x4 := R7.out.k2.frozen 4
                  have z5 := R7.out.k5.cell 5 rfl; have x5 := R7.out.k2.frozen 5
                  have z6 := R7.out.k5.cell 6 rfl; have x6 := R7.out.k2.frozen 6
                  have z7 := R7.out.k5.cell 7 rfl; have x7 := R7.out.k2.frozen 7
                  have z8 := R7.out.k5.cell 8 rfl; have x8 := R7.out.k2.frozen 8
                  have z9 := R7.out.k5.cell 9 rfl; have x9 := R7.out.k2.frozen 9
                  have y0 := R7.out.k2.cell 0 rfl
                  have y1 := R7.out.k2.cell 1 rfl
                  have y2 := R7.out.k2.cell 2 rfl
                  have y3 := R7.out.k2.cell 3 rfl
                  have y4 := R7.out.k2.cell 4 rfl
                  have y5 := R7.out.k2.cell 5 rfl
                  have y6 := R7.out.k2.cell 6 rfl
                  have y7 := R7.out.k2.cell 7 rfl
                  have y8 := R7.out.k2.cell 8 rfl
                  have y9 := R7.out.k2.cell 9 rfl
                  go_wp2_with fail
                  refine ret_gen (R := fun w2 => Blk w2 W.heap.size 62 #[sv s1, sv s2, .int .i64 n3, sv s4, .int .i64 n5, .bool true, .int .i64 n7, .int .i64 0, .int .i64 0, .string ⟨#[]⟩] ∧ W.grownBy w2 (some g) ∧ ∃ v, Rd B w2 g v l7) (R7.out.res _ _ _ _ _ _ _ _ _ _) ?_
                  rintro wz ⟨bk, hgz, hrz⟩
                  have hok : rdCell l = some (⟨⟨⟨s1.toArray⟩, ⟨s2.toArray⟩, n3, ⟨s4.toArray⟩⟩, ⟨n5, true, n7, 0, 0, ⟨#[]⟩⟩⟩, l7) := by simp [rdCell, rdVer, H1.out, H2.out, H3.out, H4.out, H5.out, H6.out, H7.out]
                  exact bodyPost_ret (v := .agg #[sv s1, sv s2, .int .i64 n3, sv s4, .int .i64 n5, .bool true, .int .i64 n7, .int .i64 0, .int .i64 0, .string ⟨#[]⟩]) (by simp [results, Try.results93, go_sem, bk.cell 0 rfl, bk.cell 1 rfl, bk.cell 2 rfl, bk.cell 3 rfl, bk.cell 4 rfl, bk.cell 5 rfl, bk.cell 6 rfl, bk.cell 7 rfl, bk.cell 8 rfl, bk.cell 9 rfl]) rfl ⟨hgz, by rw [hok]; exact ⟨rfl, hrz⟩⟩
              | false =>
                go_wp2_with fail
                refine (RC.num R6.out).mono ?_
                rintro e w7 hp
                cases h7 : rdNum l6 with
                | none =>
                  rw [h7] at hp
                  obtain ⟨rfl, hg⟩ := R6.out.bad hp
                  have hbad : rdCell l = none := by simp [rdCell, rdVer, H1.out, H2.out, H3.out, H4.out, H5.out, H6.out, h7]
                  exact ⟨rfl, hg, by rw [hbad]; rfl⟩
                | some q7 =>
                  obtain ⟨u7, l7⟩ := q7
                  rw [h7] at hp
                  obtain ⟨rfl, r7⟩ := R6.out.next hp (rdNum_le h7)
                  have HU := Lib.hid (i64_of u7 (rdNum_len h7).1)
                  have H7 := Lib.hid h7; clear h7 hp
                  have R7 : Hid (RC B W g _ l7 #[sv s1, sv s2, .int .i64 n3, sv s4, .int .i64 n5, .bool false, .int .i64 0, .int .i64 (wrap64 (u7 : Int)), .int .i64 0, .string ⟨#[]⟩]) := Lib.hid (r7.put 7 (.int .i64 (wrap64 (u7 : Int))))
                  have k7 := r7.k5.cell 7 rfl; have f7 := r7.k5.frozen 7; clear r7 R6
                  go_wp2_with fail
                  refine (RC.int R7.out).mono ?_
                  rintro e w8 hp
                  cases h8 : rdInt l7 with
                  | none =>
                    rw [h8] at hp
                    obtain ⟨rfl, hg⟩ := R7.out.bad hp
                    have hbad : rdCell l = none := by simp [rdCell, rdVer, H1.out, H2.out, H3.out, H4.out, H5.out, H6.out, H7.out, h8]
                    exact ⟨rfl, hg, by rw [hbad]; rfl⟩
                  | some q8 =>
                    obtain ⟨n8, l8⟩ := q8
                    rw [h8] at hp
                    obtain ⟨rfl, r8⟩ := R7.out.next hp (rdInt_le h8)
                    have H8 := Lib.hid h8; clear h8 hp
                    have R8 : Hid (RC B W g _ l8 #[sv s1, sv s2, .int .i64 n3, sv s4, .int .i64 n5, .bool false, .int .i64 0, .int .i64 (wrap64 (u7 : Int)), .int .i64 n8, .string ⟨#[]⟩]) := Lib.hid (r8.put 8 (.int .i64 n8))
                    have k8 := r8.k5.cell 8 rfl; have f8 := r8.k5.frozen 8; clear r8 R7
                    go_wp2_with fail
                    refine (RC.text R8.out).mono ?_
                    rintro e w9 hp
                    cases h9 : rdText l8 with
                    | none =>
                      rw [h9] at hp
                      obtain ⟨rfl, hg⟩ := R8.out.bad hp
                      have hbad : rdCell l = none := by simp [rdCell, rdVer, H1.out, H2.out, H3.out, H4.out, H5.out, H6.out, H7.out, H8.out, h9]
                      exact ⟨rfl, hg, by rw [hbad]; rfl⟩
                    | some q9 =>
                      obtain ⟨s9, l9⟩ := q9
                      rw [h9] at hp
                      obtain ⟨rfl, r9⟩ := R8.out.next hp (rdText_le h9)
                      have H9 := Lib.hid h9; clear h9 hp
                      have R9 : Hid (RC B W g _ l9 #[sv s1, sv s2, .int .i64 n3, sv s4, .int .i64 n5, .bool false, .int .i64 0, .int .i64 (wrap64 (u7 : Int)), .int .i64 n8, sv s9]) := Lib.hid (r9.put 9 (sv s9))
                      have k9 := r9.k5.cell 9 rfl; have f9 := r9.k5.frozen 9; clear r9 R8
                      rw [HU.out] at R9
                      have z0 := R9.out.k5.cell 0 rfl; have x0 := R9.out.k2.frozen 0
                      have z1 := R9.out.k5.cell 1 rfl; have x1 := R9.out.k2.frozen 1
                      have z2 := R9.out.k5.cell 2 rfl; have x2 := R9.out.k2.frozen 2
                      have z3 := R9.out.k5.cell 3 rfl; have x3 := R9.out.k2.frozen 3
                      have z4 := R9.out.k5.cell 4 rfl; have x4 := R9.out.k2.frozen 4
                      have z5 := R9.out.k5.cell 5 rfl; have x5 := R9.out.k2.frozen 5
                      have z6 := R9.out.k5.cell 6 rfl; have x6 := R9.out.k2.frozen 6
                      have z7 := R9.out.k5.cell 7 rfl; have x7 := R9.out.k2.frozen 7
                      have z8 := R9.out.k5.cell 8 rfl; have x8 := R9.out.k2.frozen 8
                      have z9 := R9.out.k5.cell 9 rfl; have x9 := R9.out.k2.frozen 9
                      have y0 := R9.out.k2.cell 0 rfl
                      have y1 := R9.out.k2.cell 1 rfl
                      have y2 := R9.out.k2.cell 2 rfl
                      have y3 := R9.out.k2.cell 3 rfl
                      have y4 := R9.out.k2.cell 4 rfl
                      have y5 := R9.out.k2.cell 5 rfl
                      have y6 := R9.out.k2.cell 6 rfl
                      have y7 := R9.out.k2.cell 7 rfl
                      have y8 := R9.out.k2.cell 8 rfl
                      have y9 := R9.out.k2.cell 9 rfl
                      go_wp2_with fail
                      refine ret_gen (R := fun w2 => Blk w2 W.heap.size 62 #[sv s1, sv s2, .int .i64 n3, sv s4, .int .i64 n5, .bool false, .int .i64 0, .int .i64 (i64I u7), .int .i64 n8, sv s9] ∧ W.grownBy w2 (some g) ∧ ∃ v, Rd B w2 g v l9) (R9.out.res _ _ _ _ _ _ _ _ _ _) ?_
                      rintro wz ⟨bk, hgz, hrz⟩
                      have hok : rdCell l = some (⟨⟨⟨s1.toArray⟩, ⟨s2.toArray⟩, n3, ⟨s4.toArray⟩⟩, ⟨n5, false, 0, i64I u7, n8, ⟨s9.toArray⟩⟩⟩, l9) := by simp [rdCell, rdVer, H1.out, H2.out, H3.out, H4.out, H5.out, H6.out, H7.out, H8.out, H9.out]
                      exact bodyPost_ret (v := .agg #[sv s1, sv s2, .int .i64 n3, sv s4, .int .i64 n5, .bool false, .int .i64 0, .int .i64 (i64I u7), .int .i64 n8, sv s9]) (by simp [results, Try.results93, go_sem, bk.cell 0 rfl, bk.cell 1 rfl, bk.cell 2 rfl, bk.cell 3 rfl, bk.cell 4 rfl, bk.cell 5 rfl, bk.cell 6 rfl, bk.cell 7 rfl, bk.cell 8 rfl, bk.cell 9 rfl]) rfl ⟨hgz, by rw [hok]; exact ⟨rfl, hrz⟩⟩
end Go.Proofs.Ytefndmjimmbhnaa
end

section
set_option linter.unusedVariables false
set_option linter.unusedSimpArgs false
set_option maxRecDepth 50000
namespace Go.Proofs.Ytefndmjimmbhnaa
open Go.RowKit

theorem catch_idle (p q : Addr) (w : World) :
    CallsD Try.prog 91 #[.pointer (some p), .pointer (some q)] .returning w fun e u' w' => e = .returned (.tuple #[]) ∧ u' = .returning ∧ w' = w := by
  refine callsD_of_wpS Try.func91 rfl fun c₀ cs hu => ?_
  apply wpS_seq
  apply wpS_region
  simp [wpOpsS, go_sem, recoverD, hu, Try.ntmps91, Exit.thenS]
  refine wpS_of_wp ?_
  go_wp2_with fail
  cases c₀
  simp_all [bodyPostS, results, Try.results91]
theorem catch_wrong (a b : Nat) (v0 : Value) (w : World) (n1 : Int) (h0 : Blk w a 26 #[v0]) (h1 : Blk w b 32 #[.int .i64 n1]) (hab : ¬ a = b) :
    CallsD Try.prog 91 #[.pointer (some ⟨a, 0, none⟩), .pointer (some ⟨b, 0, none⟩)] (.panicking wrongC) w fun e u' w' => e = .returned (.tuple #[]) ∧ u' = .panicking [{ v := .iface 139 (.agg #[]), recovered := true }] ∧
      Blk w' a 26 #[.slice none 0 0] ∧ Blk w' b 32 #[.int .i64 8] ∧ But (Two a b) w w' := by
  unfold wrongC
  have hta : ∀ w, (Instr.typeAssert (.iface 139 (.agg #[])) 20 139 true).run Try.prog w = .ok (.tuple #[.agg #[], .bool true]) w := fun _ => by kernel_rfl
  have la := h0.lt; have lb := h1.lt
  have c0 := h0.cell 0 rfl; have f0 := h0.frozen 0
  have c1 := h1.cell 0 rfl; have f1 := h1.frozen 0
  have hba : ¬ b = a := fun e => hab e.symm
  have na : ¬ a = w.heap.size := by omega
  have nb : ¬ b = w.heap.size := by omega
  have c0' : (w.alloc (.cells #[] 139)).cell? ⟨a, 0, none⟩ = some v0 := (h0.alloc _).cell 0 rfl
  have c1' : (w.alloc (.cells #[] 139)).cell? ⟨b, 0, none⟩ = some (.int .i64 n1) := (h1.alloc _).cell 0 rfl
  have f0' : (w.alloc (.cells #[] 139)).frozen? ⟨a, 0, none⟩ = false := (h0.alloc _).frozen 0
  have f1' : (w.alloc (.cells #[] 139)).frozen? ⟨b, 0, none⟩ = false := (h1.alloc _).frozen 0
  have H := Lib.hid (show Blk (((w.alloc (.cells #[] 139)).setCell ⟨a, 0, none⟩ (.slice none 0 0)).setCell ⟨b, 0, none⟩ (.int .i64 8)) a 26 #[.slice none 0 0] ∧ Blk (((w.alloc (.cells #[] 139)).setCell ⟨a, 0, none⟩ (.slice none 0 0)).setCell ⟨b, 0, none⟩ (.int .i64 8)) b 32 #[.int .i64 8] ∧ But (Two a b) w (((w.alloc (.cells #[] 139)).setCell ⟨a, 0, none⟩ (.slice none 0 0)).setCell ⟨b, 0, none⟩ (.int .i64 8)) from
    ⟨((h0.alloc _).put 0 _).far hab _, (((h1.alloc _).far hba _).put 0 _), (((But.refl _ w).alloc _).setCell (p := ⟨a, 0, none⟩) (.inl rfl) _).setCell (p := ⟨b, 0, none⟩) (.inr rfl) _⟩)
  clear h0 h1 la lb
  refine callsD_of_wpS Try.func91 rfl fun c₀ cs hu => ?_
  apply wpS_seq
  apply wpS_region
  simp [wpOpsS, go_sem, recoverD, hu, Try.ntmps91, Exit.thenS]
  refine wpS_of_wp ?_
  go_wp2_with fail
  obtain ⟨H1, H2, H3⟩ := H.out
  cases c₀
  simp_all [bodyPostS, results, Try.results91]
theorem rdVer_lt {l r : List UInt8} {v : Vr} (h : rdVer l = some (v, r)) : r.length ≤ l.length := by
  unfold rdVer at h
  simp only [bind, Option.bind] at h
  cases e1 : rdInt l with
  | none => rw [e1] at h; cases h
  | some q1 =>
    obtain ⟨tm, l1⟩ := q1
    rw [e1] at h
    simp only at h
    have f1 := rdInt_le e1
    cases e2 : rdFlag l1 with
    | none => rw [e2] at h; cases h
    | some q2 =>
      obtain ⟨d, l2⟩ := q2
      rw [e2] at h
      simp only at h
      have f2 := rdFlag_le e2
      cases d with
      | true =>
        simp only [if_true] at h
        cases e3 : rdInt l2 with
        | none => rw [e3] at h; cases h
        | some q3 => rw [e3] at h; have f3 := rdInt_le (n := q3.1) (r := q3.2) e3; injection h with h; injection h with _ h; subst h; omega
      | false =>
        simp only [Bool.false_eq_true, if_false] at h
        cases e3 : rdNum l2 with
        | none => rw [e3] at h; cases h
        | some q3 =>
          rw [e3] at h
          simp only at h
          have f3 := rdNum_le (u := q3.1) (r := q3.2) e3
          cases e4 : rdInt q3.2 with
          | none => rw [e4] at h; cases h
          | some q4 =>
            rw [e4] at h
            simp only at h
            have f4 := rdInt_le (n := q4.1) (r := q4.2) e4
            cases e5 : rdText q4.2 with
            | none => rw [e5] at h; cases h
            | some q5 => rw [e5] at h; have f5 := rdText_le (s := q5.1) (r := q5.2) e5; injection h with h; injection h with _ h; subst h; omega
theorem rdCell_lt {l r : List UInt8} {c : Cel} (h : rdCell l = some (c, r)) : r.length + 1 ≤ l.length := by
  unfold rdCell at h
  simp only [bind, Option.bind] at h
  cases e1 : rdText l with
  | none => rw [e1] at h; cases h
  | some q1 =>
    rw [e1] at h
    simp only at h
    have f1 := rdText_len (s := q1.1) (r := q1.2) e1
    cases e2 : rdText q1.2 with
    | none => rw [e2] at h; cases h
    | some q2 =>
      rw [e2] at h
      simp only at h
      have f2 := rdText_le (s := q2.1) (r := q2.2) e2
      cases e3 : rdInt q2.2 with
      | none => rw [e3] at h; cases h
      | some q3 =>
        rw [e3] at h
        simp only at h
        have f3 := rdInt_le (n := q3.1) (r := q3.2) e3
        cases e4 : rdText q3.2 with
        | none => rw [e4] at h; cases h
        | some q4 =>
          rw [e4] at h
          simp only at h
          have f4 := rdText_le (s := q4.1) (r := q4.2) e4
          cases e5 : rdVer q4.2 with
          | none => rw [e5] at h; cases h
          | some q5 => rw [e5] at h; have f5 := rdVer_lt (v := q5.1) (r := q5.2) e5; injection h with h; injection h with _ h; subst h; omega
theorem Blk.at' {w : World} {g : Nat} (t : TypeId) (cs : Array Value) (hg : g = w.heap.size) : Blk (w.alloc (.cells cs t)) g t cs := by subst hg; exact Blk.new w t cs
/-- What ReadCells leaves. -/
def RdsPost (w : World) (o : Option (List Cel)) (e : Ending) (w' : World) : Prop :=
  Below w.heap.size w w' ∧ match o with
    | some cs => ∃ v, e = .returned (.tuple #[v, .int .i64 0]) ∧ OwnX eC w' w.heap.size v cs
    | none => e = .returned (.tuple #[.slice none 0 0, .int .i64 8])
/-- While cells are read. -/
structure RM (w wr : World) (v2 : Value) (acc : List Cel) (rest : List UInt8) : Prop where
  k2 : Blk wr w.heap.size 26 #[v2]
  k3 : Blk wr (w.heap.size + 1) 32 #[.int .i64 0]
  own : OwnX eC wr w.heap.size v2 acc
  rd : ∃ vr, Rd w.heap.size wr (w.heap.size + 1 + 1) vr rest
  bel : Below w.heap.size w wr
  len : rest.length ≤ 1000000
section
variable {w wr w' : World} {v2 : Value} {acc : List Cel} {rest r : List UInt8} {x : Value} {e : Ending}
theorem RM.next (h : RM w wr v2 acc rest) (p : RdPost w.heap.size wr (w.heap.size + 1 + 1) (some (x, r)) e w') (hr : r.length ≤ rest.length) : e = .returned x ∧ RM w w' v2 acc r := by
  obtain ⟨vr, hrd⟩ := h.rd
  exact ⟨p.2.1, h.k2.grown p.1 (by simp; omega), h.k3.grown p.1 (by simp), h.own.grown p.1 (.inr (Ne.symm (hrd.blk.ne_own h.own (by decide)))), p.2.2, h.bel.grown p.1 h.bel.size (by intro k hk; injection hk with hk; omega), Nat.le_trans hr h.len⟩
theorem RM.bad (h : RM w wr v2 acc rest) (p : RdPost w.heap.size wr (w.heap.size + 1 + 1) none e w') : e = .panicked wrongC ∧ Blk w' w.heap.size 26 #[v2] ∧ Blk w' (w.heap.size + 1) 32 #[.int .i64 0] ∧ Below w.heap.size w w' :=
  ⟨p.2, h.k2.grown p.1 (by simp; omega), h.k3.grown p.1 (by simp), h.bel.grown p.1 h.bel.size (by intro k hk; injection hk with hk; omega)⟩
theorem RM.num (h : RM w wr v2 acc rest) : Calls Try.prog 92 #[.pointer (some ⟨w.heap.size + 1 + 1, 0, none⟩)] wr (RdPost w.heap.size wr (w.heap.size + 1 + 1) ((rdNum rest).map fun p => (.int .u64 (p.1 : Int), p.2))) := by
  obtain ⟨v, hv⟩ := h.rd; exact num_any _ wr _ v rest hv h.len
theorem RM.cell (h : RM w wr v2 acc rest) : Calls Try.prog 93 #[.pointer (some ⟨w.heap.size + 1 + 1, 0, none⟩)] wr (RdPost w.heap.size wr (w.heap.size + 1 + 1) ((rdCell rest).map fun p => (.agg (celEnc p.1).toArray, p.2))) := by
  obtain ⟨v, hv⟩ := h.rd; exact cell_any _ wr _ v rest hv h.len
theorem RM.drew (h : RM w wr v2 acc rest) : RM w wr.drew v2 acc rest := by
  obtain ⟨v, hv⟩ := h.rd
  exact ⟨h.k2.drew, h.k3.drew, h.own.drew, ⟨v, hv.blk.drew, hv.sl.below (Below.drew (Below.refl _ _)), hv.hB⟩, h.bel.drew, h.len⟩
/-- one more cell is appended, and the slice stored -/
theorem RM.app {w3 w4 : World} {l2 : List Cel} {g4 n c4 : Nat} (h : RM w w3 v2 acc rest) (o : Obj) (ho : OwnX eC w4 w.heap.size (.slice (some ⟨g4, 0, none⟩) n c4) l2) (hg : (w3.alloc o).grownBy w4 v2.ownBlock) (hl : acc.length + 1 + rest.length ≤ 1000000) :
    RM w (w4.setCell ⟨w.heap.size, 0, none⟩ (.slice (some ⟨g4, 0, none⟩) n c4)) (.slice (some ⟨g4, 0, none⟩) n c4) l2 rest ∧ Blk w4 w.heap.size 26 #[v2] ∧ True := by
  obtain ⟨vr, hrd⟩ := h.rd
  have o3 := h.own.alloc o
  have k4 : Blk w4 w.heap.size 26 #[v2] := (h.k2.alloc o).grown hg ((h.k2.alloc o).ne_own o3 (by decide))
  have k5 : Blk w4 (w.heap.size + 1) 32 #[.int .i64 0] := (h.k3.alloc o).grown hg ((h.k3.alloc o).ne_own o3 (by decide))
  have k6 : Blk w4 (w.heap.size + 1 + 1) 142 #[vr] := (hrd.blk.alloc o).grown hg ((hrd.blk.alloc o).ne_own o3 (by decide))
  have hb : Below w.heap.size w w4 := (below_al h.bel o h.bel.size).grown hg (Nat.le_trans h.bel.size (by simp)) o3.base
  have hs : SlB w.heap.size w4 vr rest := hrd.sl.below (((Below.refl w.heap.size w3).alloc h.bel.size o).grown hg (Nat.le_trans h.bel.size (by simp)) o3.base)
  exact ⟨⟨k4.put 0 _, k5.far (by simp) _, ho.grown (Lib.grownBy_setCell w4 w.heap.size 0 _) (.inr (Ne.symm (k4.ne_own ho (by decide)))), ⟨vr, k6.far (by simp; omega) _, hs.below ((Below.refl _ _).setCell (p := ⟨w.heap.size, 0, none⟩) (Nat.le_refl _) _), hrd.hB⟩, hb.setCell (p := ⟨w.heap.size, 0, none⟩) (Nat.le_refl _) _, h.len⟩, k4, trivial⟩
end
set_option maxHeartbeats 4000000 in
theorem ReadCells_any (v : Value) (l : List UInt8) (w : World) (hv : SlB w.heap.size w v l) (hl : l.length ≤ 1000000) :
    Calls Try.prog 67 #[v] w (RdsPost w (rdCells l)) := by
  have hmf : ∀ (fn : Fn) (first cap : Array Value) (w : World), (Instr.makeFunc fn first cap).run Try.prog w = .ok (.func fn first cap) w := fun _ _ _ _ => rfl
  have HV := Lib.hid hv
  obtain ⟨a, c, rfl, hc, hx⟩ := hv.ex
  clear hv hx
  have r0 : RM w (((w.alloc (.cells #[.slice none 0 0] 26)).alloc (.cells #[.int .i64 0] 32)).alloc (.cells #[.slice a l.length c] 142)) (.slice none 0 0) [] l :=
    ⟨((Blk.new w _ _).alloc _).alloc _, (Blk.at' _ _ (by simp)).alloc _, OwnX.nil _ _, ⟨_, Blk.at' _ _ (by simp), HV.out.below (below_al (below_al (below_al (Below.refl _ _) _ (Nat.le_refl _)) _ (by simp)) _ (by simp; omega)), by omega⟩, below_al (below_al (below_al (Below.refl _ _) _ (Nat.le_refl _)) _ (by simp)) _ (by simp; omega), hl⟩
  have R0 := Lib.hid r0; clear r0
  go_enter_defers Try.func67, Try.ntmps67
  go_wp2_with fail
  refine (R0.out.num).mono ?_
  rintro e w1 hp
  cases h1 : rdNum l with
  | none =>
    rw [h1] at hp
    obtain ⟨rfl, k2, k3, hb⟩ := R0.out.bad hp
    refine leaves_cons (f := 91) (args := #[.pointer (some ⟨w.heap.size, 0, none⟩), .pointer (some ⟨w.heap.size + 1, 0, none⟩)]) (by simp [wrongC]) (by simp [go_sem]) ?_
    refine (catch_wrong w.heap.size (w.heap.size + 1) _ _ _ k2 k3 (by omega)).mono ?_
    rintro e u' w2 ⟨rfl, rfl, b2, b3, hbut⟩
    have hbad : rdCells l = none := by unfold rdCells; rw [h1]
    have hbel : Below w.heap.size w w2 := hb.trans (hbut.below hb.size (by intro k hk; rcases hk with hk | hk <;> omega))
    simp [Leaves, settle, results, Try.results67, go_sem, b2.cell 0 rfl, b3.cell 0 rfl]
    exact ⟨hbel, by rw [hbad]⟩
  | some q =>
    obtain ⟨u, l1⟩ := q
    rw [h1] at hp
    obtain ⟨rfl, r1⟩ := R0.out.next hp (rdNum_le h1)
    have H1 := Lib.hid h1; have R1 := Lib.hid r1; have HU := Lib.hid (rdNum_len h1).1
    clear h1 hp r1 R0
    have hlen1 := rdNum_len H1.out
    go_wp2_with fail
    go_loopw [5] (fun v5 wr => ∃ (n : Nat) (acc : List Cel) (rest : List UInt8) (v2 : Value), v5 = .int .u64 (n : Int) ∧ n ≤ u ∧ RM w wr v2 acc rest ∧ acc.length + rest.length ≤ 1000000 ∧ Hid (rdMany u l1 = (rdMany n rest).map fun p => (acc ++ p.1, p.2))) (fun v5 _ => (intOf v5).toNat)
    case atStart => exact ⟨u, [], l1, _, rfl, Nat.le_refl _, R1.out, by simp; omega, Lib.hid (by simp)⟩
    case round =>
      clear R1
      obtain ⟨n, acc, rest, v2, rfl, hn, hR, hlen, HE⟩ := hrel
      have HU2 := HU.out
      have hn64 : (n : Int) < 18446744073709551616 := by omega
      have k2 := hR.k2.cell 0 rfl; have f2 := hR.k2.frozen 0
      have HR := Lib.hid hR; clear hR hlen1 HU2
      by_cases h0 : n = 0
      · subst h0
        have he := HE.out
        rw [rdMany] at he
        simp only [Option.map_some, List.append_nil] at he
        obtain ⟨vr, hrd⟩ := HR.out.rd
        have g0 := hrd.blk.cell 0 rfl
        obtain ⟨ar, cr, rfl, hcr, _⟩ := hrd.sl.ex
        have hrc : rdCells l = if rest.length = 0 then some acc else none := by
          unfold rdCells; rw [H1.out]; simp only; rw [he]
          cases rest <;> simp
        clear hrd he HE
        cases rest with
        | nil =>
          have HBAD := Lib.hid (show rdCells l = some acc from hrc.trans (if_pos rfl))
          clear hrc
          have q : ¬ (0 : Int) < ((([] : List UInt8).length : Nat) : Int) := by simp
          have k3 := HR.out.k3.cell 0 rfl; have f3 := HR.out.k3.frozen 0
          have hne : ¬ w.heap.size + 1 = w.heap.size := by omega
          have HK := Lib.hid (show Blk ((wr.setCell ⟨w.heap.size, 0, none⟩ v2).setCell ⟨w.heap.size + 1, 0, none⟩ (.int .i64 0)) w.heap.size 26 #[v2] ∧ Blk ((wr.setCell ⟨w.heap.size, 0, none⟩ v2).setCell ⟨w.heap.size + 1, 0, none⟩ (.int .i64 0)) (w.heap.size + 1) 32 #[.int .i64 0] ∧ OwnX eC ((wr.setCell ⟨w.heap.size, 0, none⟩ v2).setCell ⟨w.heap.size + 1, 0, none⟩ (.int .i64 0)) w.heap.size v2 acc ∧ Below w.heap.size w ((wr.setCell ⟨w.heap.size, 0, none⟩ v2).setCell ⟨w.heap.size + 1, 0, none⟩ (.int .i64 0)) from by
            have o1 : OwnX eC (wr.setCell ⟨w.heap.size, 0, none⟩ v2) w.heap.size v2 acc := HR.out.own.grown (Lib.grownBy_setCell wr w.heap.size 0 _) (.inr (Ne.symm (HR.out.k2.ne_own HR.out.own (by decide))))
            have b3 : Blk (wr.setCell ⟨w.heap.size, 0, none⟩ v2) (w.heap.size + 1) 32 #[.int .i64 0] := HR.out.k3.far (by simp) _
            exact ⟨(HR.out.k2.put 0 _).far (by simp) _, b3.put 0 _, o1.grown (Lib.grownBy_setCell _ (w.heap.size + 1) 0 _) (.inr (Ne.symm (b3.ne_own o1 (by decide)))), (HR.out.bel.setCell (p := ⟨w.heap.size, 0, none⟩) (Nat.le_refl _) _).setCell (p := ⟨w.heap.size + 1, 0, none⟩) (by simp) _⟩)
          rcases hv2 : HR.out.own.form with ⟨e2, _⟩ | ⟨g2, cc2, e2, _⟩
          all_goals
            subst e2
            go_wp2_with fail
            refine leaves_cons (f := 91) (args := #[.pointer (some ⟨w.heap.size, 0, none⟩), .pointer (some ⟨w.heap.size + 1, 0, none⟩)]) (by simp) (by simp [go_sem]) ?_
            refine (catch_idle _ _ _).mono ?_
            rintro e u' w9 ⟨rfl, rfl, rfl⟩
            obtain ⟨b2, b3, hO, hB⟩ := HK.out
            simp [Leaves, settle, results, Try.results67, go_sem, b2.cell 0 rfl, b3.cell 0 rfl]
            exact ⟨hB, by rw [HBAD.out]; exact ⟨_, rfl, hO⟩⟩
        | cons y rest =>
          have HBAD := Lib.hid (show rdCells l = none from hrc.trans (if_neg (by simp)))
          clear hrc
          simp only [List.length_cons] at g0 hcr
          have q : (0 : Int) < ((rest.length + 1 : Nat) : Int) := by omega
          have K2 := Lib.hid HR.out.k2; have K3 := Lib.hid HR.out.k3; have HB := Lib.hid HR.out.bel
          go_wp2_with fail
          have k2' := K2.out; have k3' := K3.out; have hb := HB.out
          (refine leaves_cons (f := 91) (args := #[.pointer (some ⟨w.heap.size, 0, none⟩), .pointer (some ⟨w.heap.size + 1, 0, none⟩)]) (by simp [wrongC]) (by simp [go_sem]) ?_; refine (catch_wrong w.heap.size (w.heap.size + 1) _ _ _ k2' k3' (by omega)).mono ?_; rintro e u' w9 ⟨rfl, rfl, b2, b3, hbut⟩; have hbel : Below w.heap.size w w9 := hb.trans (hbut.below hb.size (by intro k hk; rcases hk with hk | hk <;> omega)); simp [Leaves, settle, results, Try.results67, go_sem, b2.cell 0 rfl, b3.cell 0 rfl]; exact ⟨hbel, by rw [HBAD.out]⟩)
      · have hpos : (0 : Int) < (n : Int) := by omega
        obtain ⟨m, rfl⟩ : ∃ m, n = m + 1 := ⟨n - 1, by omega⟩
        cases hc1 : rdCell rest with
        | none =>
          have C := HR.out.drew.cell
          rw [hc1] at C
          have C := Lib.hid C
          have hbad : rdCells l = none := by
            unfold rdCells; rw [H1.out]; simp only
            rw [HE.out, rdMany, hc1]; rfl
          have HBAD := Lib.hid hbad
          clear hbad hc1
          go_wp2_with fail
          refine wp_region_any (by kernel_rfl) ?_
          change wpAny _ _ _ _ _ _ _ (World.drew _)
          have BAD : ∀ {e w'}, RdPost w.heap.size wr.drew (w.heap.size + 1 + 1) none e w' → e = .panicked wrongC ∧ Blk w' w.heap.size 26 #[v2] ∧ Blk w' (w.heap.size + 1) 32 #[.int .i64 0] ∧ Below w.heap.size w w' := fun h => HR.out.drew.bad h
          refine wpAny_ready (rs := [0, 1]) (by kernel_rfl) (by simp) ?_
          refine AllReady.cons rfl (fun K hK => ?_) (AllReady.cons rfl (fun K hK => ?_) AllReady.nil)
          · go_simp
            refine hK _ _ ?_; clear hK K
            refine wpAny_ready (rs := [1]) (by kernel_rfl) (by simp) ?_
            refine AllReady.cons rfl (fun K hK => ?_) AllReady.nil
            go_simp
            refine hK _ _ ?_; clear hK K
            refine wpAny_ready (rs := [2]) (by kernel_rfl) (by simp) ?_
            refine AllReady.cons rfl (fun K hK => ?_) AllReady.nil
            go_simp; go_at_call 93
            refine C.out.mono ?_
            rintro e w' hp
            obtain ⟨rfl, k2', k3', hb⟩ := BAD hp
            (refine leaves_cons (f := 91) (args := #[.pointer (some ⟨w.heap.size, 0, none⟩), .pointer (some ⟨w.heap.size + 1, 0, none⟩)]) (by simp [wrongC]) (by simp [go_sem]) ?_; refine (catch_wrong w.heap.size (w.heap.size + 1) _ _ _ k2' k3' (by omega)).mono ?_; rintro e u' w9 ⟨rfl, rfl, b2, b3, hbut⟩; have hbel : Below w.heap.size w w9 := hb.trans (hbut.below hb.size (by intro k hk; rcases hk with hk | hk <;> omega)); simp [Leaves, settle, results, Try.results67, go_sem, b2.cell 0 rfl, b3.cell 0 rfl]; exact ⟨hbel, by rw [HBAD.out]⟩)
          · go_simp
            refine hK _ _ ?_; clear hK K
            refine wpAny_ready (rs := [0, 2]) (by kernel_rfl) (by simp) ?_
            refine AllReady.cons rfl (fun K hK => ?_) (AllReady.cons rfl (fun K hK => ?_) AllReady.nil)
            · go_simp
              refine hK _ _ ?_; clear hK K
              refine wpAny_ready (rs := [2]) (by kernel_rfl) (by simp) ?_
              refine AllReady.cons rfl (fun K hK => ?_) AllReady.nil
              go_simp; go_at_call 93
              refine C.out.mono ?_
              rintro e w' hp
              obtain ⟨rfl, k2', k3', hb⟩ := BAD hp
              (refine leaves_cons (f := 91) (args := #[.pointer (some ⟨w.heap.size, 0, none⟩), .pointer (some ⟨w.heap.size + 1, 0, none⟩)]) (by simp [wrongC]) (by simp [go_sem]) ?_; refine (catch_wrong w.heap.size (w.heap.size + 1) _ _ _ k2' k3' (by omega)).mono ?_; rintro e u' w9 ⟨rfl, rfl, b2, b3, hbut⟩; have hbel : Below w.heap.size w w9 := hb.trans (hbut.below hb.size (by intro k hk; rcases hk with hk | hk <;> omega)); simp [Leaves, settle, results, Try.results67, go_sem, b2.cell 0 rfl, b3.cell 0 rfl]; exact ⟨hbel, by rw [HBAD.out]⟩)
            · go_simp; go_at_call 93
              refine C.out.mono ?_
              rintro e w' hp
              obtain ⟨rfl, k2', k3', hb⟩ := BAD hp
              (refine leaves_cons (f := 91) (args := #[.pointer (some ⟨w.heap.size, 0, none⟩), .pointer (some ⟨w.heap.size + 1, 0, none⟩)]) (by simp [wrongC]) (by simp [go_sem]) ?_; refine (catch_wrong w.heap.size (w.heap.size + 1) _ _ _ k2' k3' (by omega)).mono ?_; rintro e u' w9 ⟨rfl, rfl, b2, b3, hbut⟩; have hbel : Below w.heap.size w w9 := hb.trans (hbut.below hb.size (by intro k hk; rcases hk with hk | hk <;> omega)); simp [Leaves, settle, results, Try.results67, go_sem, b2.cell 0 rfl, b3.cell 0 rfl]; exact ⟨hbel, by rw [HBAD.out]⟩)
        | some q =>
          obtain ⟨x, r⟩ := q
          have hrl := rdCell_lt hc1
          have he := HE.out
          rw [rdMany, hc1] at he
          simp only [Option.map_map] at he
          have he2 : rdMany u l1 = (rdMany m r).map fun p => ((acc ++ [x]) ++ p.1, p.2) := by
            rw [he]; congr 1; funext p; simp
          have HE2 := Lib.hid he2; clear he he2 HE
          have C := HR.out.drew.cell
          rw [hc1] at C
          have HXV := Lib.hid (show eC.cells [x] = celEnc x from (List.append_nil _))
          have N := Lib.hid (fun e w' (h : RdPost w.heap.size wr.drew (w.heap.size + 1 + 1) (some (.agg (celEnc x).toArray, r)) e w') => HR.out.drew.next h (by omega))
          obtain ⟨⟨xt, xp, xr, xq⟩, ⟨x4, x5, x6, x7, x8, x9⟩⟩ := x
          simp only [Option.map_some, celEnc] at C N HXV
          have C := Lib.hid C
          have hrm : acc.length + 1 + r.length ≤ 1000000 := by omega
          have HRM := Lib.hid hrm; clear hrm hc1 hrl
          have hr3 : (acc.length + [(⟨⟨xt, xp, xr, xq⟩, ⟨x4, x5, x6, x7, x8, x9⟩⟩ : Cel)].length) * eC.bytes ≤ 140737488355328 := by show (acc.length + 1) * 112 ≤ _; have := HRM.out; omega
          have hr4 : acc.length + [(⟨⟨xt, xp, xr, xq⟩, ⟨x4, x5, x6, x7, x8, x9⟩⟩ : Cel)].length ≤ 9223372036854775807 := by show acc.length + 1 ≤ _; have := HRM.out; omega
          go_wp2_with fail

          refine wp_region_any (by kernel_rfl) ?_
          change wpAny _ _ _ _ _ _ _ (World.drew _)
          refine wpAny_ready (rs := [0, 1]) (by kernel_rfl) (by simp) ?_
          refine AllReady.cons rfl (fun K hK => ?_) (AllReady.cons rfl (fun K hK => ?_) AllReady.nil)
          · go_simp
            refine hK _ _ ?_; clear hK K
            refine wpAny_ready (rs := [1]) (by kernel_rfl) (by simp) ?_
            refine AllReady.cons rfl (fun K hK => ?_) AllReady.nil
            go_simp
            refine hK _ _ ?_; clear hK K
            refine wpAny_ready (rs := [2]) (by kernel_rfl) (by simp) ?_
            refine AllReady.cons rfl (fun K hK => ?_) AllReady.nil
            go_simp; go_at_call 93
            refine C.out.mono ?_
            rintro e w3 hp
            obtain ⟨rfl, r3⟩ := N.out _ _ hp; clear hp
            have k3' := r3.k2.cell 0 rfl; have k3b := (r3.k2.alloc (.cells #[.string xt, .string xp, .int .i64 xr, .string xq, .int .i64 x4, .bool x5, .int .i64 x6, .int .i64 x7, .int .i64 x8, .string x9] 62)).cell 0 rfl
            refine hK _ _ ?_; clear hK K
            refine wpAny_ready (rs := [3]) (by kernel_rfl) (by simp) ?_
            refine AllReady.cons rfl (fun K hK => ?_) AllReady.nil
            go_simp
            refine hK _ _ ?_; clear hK K
            refine wpAny_ready (rs := [4]) (by kernel_rfl) (by simp) ?_
            refine AllReady.cons rfl (fun K hK => ?_) AllReady.nil
            refine st_x (E := eC) (by rfl) (.tmp 16) (.tmp 19) (by rfl) w.heap.size v2 acc _ _ [⟨⟨xt, xp, xr, xq⟩, ⟨x4, x5, x6, x7, x8, x9⟩⟩] (by rfl) (by rfl) (SlX.lit (E := eC) w3 #[.string xt, .string xp, .int .i64 xr, .string xq, .int .i64 x4, .bool x5, .int .i64 x6, .int .i64 x7, .int .i64 x8, .string x9] [⟨⟨xt, xp, xr, xq⟩, ⟨x4, x5, x6, x7, x8, x9⟩⟩] 1 1 rfl (Nat.le_refl _) HXV.out.symm) (r3.own.alloc (.cells #[.string xt, .string xp, .int .i64 xr, .string xq, .int .i64 x4, .bool x5, .int .i64 x6, .int .i64 x7, .int .i64 x8, .string x9] 62)) (Nat.le_trans r3.bel.size (by simp)) hr4 hr3 ?_
            intro v4 w4 hO4 hG4 hH4
            refine hK _ _ ?_; clear hK K
            obtain ⟨g4, c4', rfl, _⟩ := OwnX.formN hO4 (acc.length + 1) List.length_append (Nat.succ_pos _)
            have r5 := RM.app r3 _ hO4 hG4 HRM.out
            have f4 := r5.2.1.frozen 0; have c4 := r5.2.1.cell 0 rfl
            refine wpAny_ready (rs := [5]) (by kernel_rfl) (by simp) ?_
            refine AllReady.cons rfl (fun K hK => ?_) AllReady.nil
            go_simp
            refine hK _ _ ?_; clear hK K
            refine wpAny_done (by kernel_rfl) ?_ _
            have R5 := Lib.hid r5.1; clear r5 r3 hO4 hG4 hH4
            go_wp2_with fail
            go_roundw
            case rel => exact ⟨m, acc ++ [⟨⟨xt, xp, xr, xq⟩, ⟨x4, x5, x6, x7, x8, x9⟩⟩], r, _, by go_num, by omega, R5.out, by have := HRM.out; rw [List.length_append]; exact this, HE2⟩
            case measure => (first | (simp [intOf]; done) | (simp [intOf]; omega))
          · go_simp
            refine hK _ _ ?_; clear hK K
            refine wpAny_ready (rs := [0, 2]) (by kernel_rfl) (by simp) ?_
            refine AllReady.cons rfl (fun K hK => ?_) (AllReady.cons rfl (fun K hK => ?_) AllReady.nil)
            · go_simp
              refine hK _ _ ?_; clear hK K
              refine wpAny_ready (rs := [2]) (by kernel_rfl) (by simp) ?_
              refine AllReady.cons rfl (fun K hK => ?_) AllReady.nil
              go_simp; go_at_call 93
              refine C.out.mono ?_
              rintro e w3 hp
              obtain ⟨rfl, r3⟩ := N.out _ _ hp; clear hp
              have k3' := r3.k2.cell 0 rfl; have k3b := (r3.k2.alloc (.cells #[.string xt, .string xp, .int .i64 xr, .string xq, .int .i64 x4, .bool x5, .int .i64 x6, .int .i64 x7, .int .i64 x8, .string x9] 62)).cell 0 rfl
              refine hK _ _ ?_; clear hK K
              refine wpAny_ready (rs := [3]) (by kernel_rfl) (by simp) ?_
              refine AllReady.cons rfl (fun K hK => ?_) AllReady.nil
              go_simp
              refine hK _ _ ?_; clear hK K
              refine wpAny_ready (rs := [4]) (by kernel_rfl) (by simp) ?_
              refine AllReady.cons rfl (fun K hK => ?_) AllReady.nil
              refine st_x (E := eC) (by rfl) (.tmp 16) (.tmp 19) (by rfl) w.heap.size v2 acc _ _ [⟨⟨xt, xp, xr, xq⟩, ⟨x4, x5, x6, x7, x8, x9⟩⟩] (by rfl) (by rfl) (SlX.lit (E := eC) w3 #[.string xt, .string xp, .int .i64 xr, .string xq, .int .i64 x4, .bool x5, .int .i64 x6, .int .i64 x7, .int .i64 x8, .string x9] [⟨⟨xt, xp, xr, xq⟩, ⟨x4, x5, x6, x7, x8, x9⟩⟩] 1 1 rfl (Nat.le_refl _) HXV.out.symm) (r3.own.alloc (.cells #[.string xt, .string xp, .int .i64 xr, .string xq, .int .i64 x4, .bool x5, .int .i64 x6, .int .i64 x7, .int .i64 x8, .string x9] 62)) (Nat.le_trans r3.bel.size (by simp)) hr4 hr3 ?_
              intro v4 w4 hO4 hG4 hH4
              refine hK _ _ ?_; clear hK K
              obtain ⟨g4, c4', rfl, _⟩ := OwnX.formN hO4 (acc.length + 1) List.length_append (Nat.succ_pos _)
              have r5 := RM.app r3 _ hO4 hG4 HRM.out
              have f4 := r5.2.1.frozen 0; have c4 := r5.2.1.cell 0 rfl
              refine wpAny_ready (rs := [5]) (by kernel_rfl) (by simp) ?_
              refine AllReady.cons rfl (fun K hK => ?_) AllReady.nil
              go_simp
              refine hK _ _ ?_; clear hK K
              refine wpAny_done (by kernel_rfl) ?_ _
              have R5 := Lib.hid r5.1; clear r5 r3 hO4 hG4 hH4
              go_wp2_with fail
              go_roundw
              case rel => exact ⟨m, acc ++ [⟨⟨xt, xp, xr, xq⟩, ⟨x4, x5, x6, x7, x8, x9⟩⟩], r, _, by go_num, by omega, R5.out, by have := HRM.out; rw [List.length_append]; exact this, HE2⟩
              case measure => (first | (simp [intOf]; done) | (simp [intOf]; omega))
            · go_simp; go_at_call 93
              refine C.out.mono ?_
              rintro e w3 hp
              obtain ⟨rfl, r3⟩ := N.out _ _ hp; clear hp
              have k3' := r3.k2.cell 0 rfl; have k3b := (r3.k2.alloc (.cells #[.string xt, .string xp, .int .i64 xr, .string xq, .int .i64 x4, .bool x5, .int .i64 x6, .int .i64 x7, .int .i64 x8, .string x9] 62)).cell 0 rfl
              refine hK _ _ ?_; clear hK K
              refine wpAny_ready (rs := [0, 3]) (by kernel_rfl) (by simp) ?_
              refine AllReady.cons rfl (fun K hK => ?_) (AllReady.cons rfl (fun K hK => ?_) AllReady.nil)
              · go_simp
                refine hK _ _ ?_; clear hK K
                refine wpAny_ready (rs := [3]) (by kernel_rfl) (by simp) ?_
                refine AllReady.cons rfl (fun K hK => ?_) AllReady.nil
                go_simp
                refine hK _ _ ?_; clear hK K
                refine wpAny_ready (rs := [4]) (by kernel_rfl) (by simp) ?_
                refine AllReady.cons rfl (fun K hK => ?_) AllReady.nil
                refine st_x (E := eC) (by rfl) (.tmp 16) (.tmp 19) (by rfl) w.heap.size v2 acc _ _ [⟨⟨xt, xp, xr, xq⟩, ⟨x4, x5, x6, x7, x8, x9⟩⟩] (by rfl) (by rfl) (SlX.lit (E := eC) w3 #[.string xt, .string xp, .int .i64 xr, .string xq, .int .i64 x4, .bool x5, .int .i64 x6, .int .i64 x7, .int .i64 x8, .string x9] [⟨⟨xt, xp, xr, xq⟩, ⟨x4, x5, x6, x7, x8, x9⟩⟩] 1 1 rfl (Nat.le_refl _) HXV.out.symm) (r3.own.alloc (.cells #[.string xt, .string xp, .int .i64 xr, .string xq, .int .i64 x4, .bool x5, .int .i64 x6, .int .i64 x7, .int .i64 x8, .string x9] 62)) (Nat.le_trans r3.bel.size (by simp)) hr4 hr3 ?_
                intro v4 w4 hO4 hG4 hH4
                refine hK _ _ ?_; clear hK K
                obtain ⟨g4, c4', rfl, _⟩ := OwnX.formN hO4 (acc.length + 1) List.length_append (Nat.succ_pos _)
                have r5 := RM.app r3 _ hO4 hG4 HRM.out
                have f4 := r5.2.1.frozen 0; have c4 := r5.2.1.cell 0 rfl
                refine wpAny_ready (rs := [5]) (by kernel_rfl) (by simp) ?_
                refine AllReady.cons rfl (fun K hK => ?_) AllReady.nil
                go_simp
                refine hK _ _ ?_; clear hK K
                refine wpAny_done (by kernel_rfl) ?_ _
                have R5 := Lib.hid r5.1; clear r5 r3 hO4 hG4 hH4
                go_wp2_with fail
                go_roundw
                case rel => exact ⟨m, acc ++ [⟨⟨xt, xp, xr, xq⟩, ⟨x4, x5, x6, x7, x8, x9⟩⟩], r, _, by go_num, by omega, R5.out, by have := HRM.out; rw [List.length_append]; exact this, HE2⟩
                case measure => (first | (simp [intOf]; done) | (simp [intOf]; omega))
              · go_simp
                refine hK _ _ ?_; clear hK K
                refine wpAny_ready (rs := [0]) (by kernel_rfl) (by simp) ?_
                refine AllReady.cons rfl (fun K hK => ?_) AllReady.nil
                go_simp
                refine hK _ _ ?_; clear hK K
                refine wpAny_ready (rs := [4]) (by kernel_rfl) (by simp) ?_
                refine AllReady.cons rfl (fun K hK => ?_) AllReady.nil
                refine st_x (E := eC) (by rfl) (.tmp 16) (.tmp 19) (by rfl) w.heap.size v2 acc _ _ [⟨⟨xt, xp, xr, xq⟩, ⟨x4, x5, x6, x7, x8, x9⟩⟩] (by rfl) (by rfl) (SlX.lit (E := eC) w3 #[.string xt, .string xp, .int .i64 xr, .string xq, .int .i64 x4, .bool x5, .int .i64 x6, .int .i64 x7, .int .i64 x8, .string x9] [⟨⟨xt, xp, xr, xq⟩, ⟨x4, x5, x6, x7, x8, x9⟩⟩] 1 1 rfl (Nat.le_refl _) HXV.out.symm) (r3.own.alloc (.cells #[.string xt, .string xp, .int .i64 xr, .string xq, .int .i64 x4, .bool x5, .int .i64 x6, .int .i64 x7, .int .i64 x8, .string x9] 62)) (Nat.le_trans r3.bel.size (by simp)) hr4 hr3 ?_
                intro v4 w4 hO4 hG4 hH4
                refine hK _ _ ?_; clear hK K
                obtain ⟨g4, c4', rfl, _⟩ := OwnX.formN hO4 (acc.length + 1) List.length_append (Nat.succ_pos _)
                have r5 := RM.app r3 _ hO4 hG4 HRM.out
                have f4 := r5.2.1.frozen 0; have c4 := r5.2.1.cell 0 rfl
                refine wpAny_ready (rs := [5]) (by kernel_rfl) (by simp) ?_
                refine AllReady.cons rfl (fun K hK => ?_) AllReady.nil
                go_simp
                refine hK _ _ ?_; clear hK K
                refine wpAny_done (by kernel_rfl) ?_ _
                have R5 := Lib.hid r5.1; clear r5 r3 hO4 hG4 hH4
                go_wp2_with fail
                go_roundw
                case rel => exact ⟨m, acc ++ [⟨⟨xt, xp, xr, xq⟩, ⟨x4, x5, x6, x7, x8, x9⟩⟩], r, _, by go_num, by omega, R5.out, by have := HRM.out; rw [List.length_append]; exact this, HE2⟩
                case measure => (first | (simp [intOf]; done) | (simp [intOf]; omega))
end Go.Proofs.Ytefndmjimmbhnaa
end
