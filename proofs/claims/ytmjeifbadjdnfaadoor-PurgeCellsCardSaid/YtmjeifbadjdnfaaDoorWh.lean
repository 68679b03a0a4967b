/- Contracts of purge.without and Cells at any cells and lists; of the reference's Norm. Condition: the row's own bounds. -/
import Derived.Test.YtmjeifbadjdnfaaDoorWg
set_option linter.unusedVariables false
set_option linter.unusedSimpArgs false
set_option maxRecDepth 50000
namespace Go.Proofs.YtmjeifbadjdnfaaDoor
open Go.RowKit Go.Sort
open Go.Lib hiding intOf

theorem join_of {R : Vr → Prop} {a b : Vr} (ha : R a) (hb : R b) : R (joinP a b) := by unfold joinP; split <;> assumption
theorem addR_all {Q : Ky → Prop} {R : Vr → Prop} (c : Ky × Vr) (hc : Q c.1 ∧ R c.2) : ∀ (l : List (Ky × Vr)) (d : Bool), (∀ x ∈ l, Q x.1 ∧ R x.2) → ∀ x ∈ addR kcK joinP c d l, Q x.1 ∧ R x.2
  | [], d, _ => by cases d <;> simp [addR]; exact hc
  | y :: r, d, h => by
    have hy := h y (List.mem_cons_self)
    have h1 := addR_all c hc r true (fun x hx => h x (List.mem_cons_of_mem _ hx))
    have h2 := addR_all c hc r d (fun x hx => h x (List.mem_cons_of_mem _ hx))
    intro x hx
    rw [addR] at hx
    split at hx
    · rcases List.mem_cons.1 hx with rfl | hx
      · exact ⟨hy.1, join_of hy.2 hc.2⟩
      · exact h1 x hx
    · split at hx
      · rcases List.mem_cons.1 hx with rfl | hx
        · exact hc
        · rcases List.mem_cons.1 hx with rfl | hx
          · exact hy
          · exact h1 x hx
      · rcases List.mem_cons.1 hx with rfl | hx
        · exact hy
        · exact h2 x hx
theorem normC_all {Q : Ky → Prop} {R : Vr → Prop} (L : List Cel) (h : ∀ c ∈ L, Q c.k ∧ R c.v) : ∀ c ∈ normC L, Q c.k ∧ R c.v := by
  unfold normC normL
  have : ∀ (l out : List (Ky × Vr)), (∀ x ∈ l, Q x.1 ∧ R x.2) → (∀ x ∈ out, Q x.1 ∧ R x.2) → ∀ x ∈ l.foldl (fun out c => addR kcK joinP c false out) out, Q x.1 ∧ R x.2 := by
    intro l
    induction l with
    | nil => intro out _ h2; exact h2
    | cons y l ih =>
      intro out h1 h2
      exact ih _ (fun x hx => h1 x (List.mem_cons_of_mem _ hx)) (addR_all y (h1 y List.mem_cons_self) out false h2)
  intro c hc
  obtain ⟨p, hp, rfl⟩ := List.mem_map.1 hc
  refine this (L.map toP) [] ?_ (by simp) p hp
  intro x hx
  obtain ⟨y, hy, rfl⟩ := List.mem_map.1 hx
  exact h y hy
theorem normC_len (L : List Cel) : (normC L).length ≤ L.length := by
  unfold normC normL
  have : ∀ (l out : List (Ky × Vr)), (l.foldl (fun out c => addR kcK joinP c false out) out).length ≤ out.length + l.length := by
    intro l
    induction l with
    | nil => intro out; simp
    | cons y l ih =>
      intro out
      have h1 := ih (addR kcK joinP y false out)
      have h2 := addR_len y out false
      simp only [List.foldl_cons, List.length_cons]; omega
  simpa using this (L.map toP) []
theorem OwnX.cap {α : Type} {E : El α} {w : World} {base g n c : Nat} {l : List α} (h : OwnX E w base (.slice (some ⟨g, 0, none⟩) n c) l) : n = l.length ∧ n ≤ c ∧ c ≤ 9223372036854775807 := by
  rcases h.2 with ⟨h', _⟩ | ⟨g', cap', cur, h', _, _, h1, h2, _⟩
  · simp at h'
  · simp only [Value.slice.injEq, Option.some.injEq, Addr.mk.injEq, and_true, true_and] at h'
    obtain ⟨rfl, rfl, rfl⟩ := h'
    unfold maxLen at h2
    exact ⟨rfl, h1, by omega⟩
/-- what a cell must be -/
def CelOk (c : Cel) : Prop := KyOk c.k ∧ In64 c.v.loc

theorem delNil_any (f : Nat) (caps : Array Value) (eg : ∀ args w, (callFunc f args).run Tryd.prog w = .ok (.enter f args) w) (w : World) :
    Calls Tryd.prog 64 #[.slice none 0 0, .func (.func f) #[] caps] w fun e w' => e = .returned (.slice none 0 0) ∧ Below w.heap.size w w' := by
  have C1 := Lib.hid (idxG_any f caps eg w.heap.size w [] (fun _ => false) (.slice none 0 0) w (fun _ _ x hx => by cases hx) (SlX.nil _ _ _) (Below.refl _ _) (Nat.le_refl _) (by unfold Room; simp))
  go_enter Tryd.func64, Tryd.ntmps64
  go_wp2_with fail
  refine C1.out.mono ?_
  rintro e w1 ⟨r, rfl, hr, hb⟩
  rcases hr with ⟨rfl, _⟩ | ⟨k, hk, _⟩
  · have HB := Lib.hid hb
    clear hb C1
    go_wp2_with fail
    go_ret
    exact ⟨rfl, HB.out⟩
  · simp at hk

set_option maxHeartbeats 2000000 in
theorem without_any (v : Value) (L : List Cel) (now gr : Int) (val : Value) (asks : List Ask) (w : World) (HV : SlX eC w.heap.size w v L) (hl : Room L.length) (ok : ∀ c ∈ L, CelOk c)
    (hv : SlX eF w.heap.size w val asks) (ha : ∀ a ∈ asks, AskOk w a) (i2 : In64 now) (i3 : In64 gr) (hla : asks.length ≤ 6000000000000) :
    Calls Tryd.prog 39 #[v, .int .i64 now, .int .i64 gr, val] w
      fun e w' => ∃ v', e = .returned v' ∧ SlX eC w'.heap.size w' v' ((normC L).filter fun c => !goneB now gr asks c) ∧ Below w.heap.size w w' := by
  obtain ⟨av, cv, rfl, _⟩ := hv.ex
  have b3 : Below w.heap.size w (((w.alloc (.cells #[.int .i64 now] 3)).alloc (.cells #[.int .i64 gr] 3)).alloc (.cells #[.slice av asks.length cv] 78)) := by (repeat (first | exact Below.refl _ _ | assumption | refine below_alloc ?_ _ | refine Below.drew ?_ | refine below_drewN ?_ _ | refine below_tr ?_ (by assumption)))
  have k1 : Blk (((w.alloc (.cells #[.int .i64 now] 3)).alloc (.cells #[.int .i64 gr] 3)).alloc (.cells #[.slice av asks.length cv] 78)) w.heap.size 3 #[.int .i64 now] := ((Blk.new w _ _).alloc _).alloc _
  have k2 : Blk (((w.alloc (.cells #[.int .i64 now] 3)).alloc (.cells #[.int .i64 gr] 3)).alloc (.cells #[.slice av asks.length cv] 78)) (w.heap.size + 1) 3 #[.int .i64 gr] := by
    have := (Blk.new (w.alloc (.cells #[.int .i64 now] 3)) 3 #[.int .i64 gr]).alloc (.cells #[.slice av asks.length cv] 78)
    rwa [show (w.alloc (.cells #[.int .i64 now] 3)).heap.size = w.heap.size + 1 by simp] at this
  have k3 : Blk (((w.alloc (.cells #[.int .i64 now] 3)).alloc (.cells #[.int .i64 gr] 3)).alloc (.cells #[.slice av asks.length cv] 78)) (w.heap.size + 2) 78 #[.slice av asks.length cv] := by
    have := (Blk.new ((w.alloc (.cells #[.int .i64 now] 3)).alloc (.cells #[.int .i64 gr] 3)) 78 #[.slice av asks.length cv])
    rwa [show ((w.alloc (.cells #[.int .i64 now] 3)).alloc (.cells #[.int .i64 gr] 3)).heap.size = w.heap.size + 2 by simp] at this
  have B3 := Lib.hid b3
  have C1 := Lib.hid (normC_any v L _ (HV.keep b3) hl)
  have OKN := Lib.hid (normC_all (Q := KyOk) (R := fun v => In64 v.loc) L ok)
  have NL := Lib.hid (show Room (normC L).length by unfold Room at *; have := normC_len L; omega)
  have eg : ∀ args w, (callFunc 61 args).run Tryd.prog w = .ok (.enter 61 args) w := enters_of Tryd.func61 (by kernel_rfl) rfl
  have EG := Lib.hid eg
  have GA := Lib.hid (show Asks 61 #[.pointer (some ⟨w.heap.size, 0, none⟩), .pointer (some ⟨w.heap.size + 1, 0, none⟩), .pointer (some ⟨w.heap.size + 2, 0, none⟩)] _ _ (normC L) (goneB now gr asks) from fun W (hb : Below (((w.alloc (.cells #[.int .i64 now] 3)).alloc (.cells #[.int .i64 gr] 3)).alloc (.cells #[.slice av asks.length cv] 78)).heap.size (((w.alloc (.cells #[.int .i64 now] 3)).alloc (.cells #[.int .i64 gr] 3)).alloc (.cells #[.slice av asks.length cv] 78)) W) x hx =>
    gone_any x now gr w.heap.size (w.heap.size + 1) (w.heap.size + 2) _ asks W ((k1.below hb).cell 0 rfl) ((k2.below hb).cell 0 rfl) ((k3.below hb).cell 0 rfl) (hv.keep (below_tr b3 hb)) (fun a h => (ha a h).below (below_tr b3 hb)) (OKN.out x hx).1 (OKN.out x hx).2 i2 i3 hla)
  clear HV hv ha i2 i3 b3 k1 k2 k3 eg ok OKN
  generalize normC L = N at *
  generalize goneB now gr asks = b at *
  go_enter Tryd.func39, Tryd.ntmps39
  go_wp2_with fail
  generalize ((w.alloc (.cells #[.int .i64 now] 3)).alloc (.cells #[.int .i64 gr] 3)).alloc (.cells #[.slice av asks.length cv] 78) = W0 at *
  refine C1.out.mono ?_
  rintro e w1 ⟨v1, rfl, hO, hb⟩
  rcases hO.form with ⟨rfl, rfl⟩ | ⟨gx, cx, rfl, hcx, hgx, _⟩
  · have C2 := Lib.hid (delNil_any 61 #[.pointer (some ⟨w.heap.size, 0, none⟩), .pointer (some ⟨w.heap.size + 1, 0, none⟩), .pointer (some ⟨w.heap.size + 2, 0, none⟩)] EG.out w1)
    have HB1 := Lib.hid (below_tr B3.out hb)
    clear hO hb C1
    go_wp2_with fail
    refine C2.out.mono ?_
    rintro e w2 ⟨rfl, hb2⟩
    have HB2 := Lib.hid (below_tr HB1.out hb2); clear hb2
    go_wp2_with fail
    go_ret
    exact ⟨_, rfl, SlX.nil _ _ _, HB2.out⟩
  · have hcap := hO.cap
    have C2 := Lib.hid (delG_any 61 #[.pointer (some ⟨w.heap.size, 0, none⟩), .pointer (some ⟨w.heap.size + 1, 0, none⟩), .pointer (some ⟨w.heap.size + 2, 0, none⟩)] EG.out _ _ N b gx cx W0.heap.size w1 GA.out hO (Nat.le_refl _) hb NL.out hcap.2.1 hcap.2.2 hb.size)
    have HB1 := Lib.hid (below_tr B3.out hb)
    clear hO hb C1 hcap
    go_wp2_with fail
    refine C2.out.mono ?_
    rintro e w2 ⟨i, rfl, hS, hb2⟩
    have HB2 := Lib.hid (Below.trans HB1.out (Below.mono hb2 B3.out.size)); have HS := Lib.hid hS
    clear hb2 hS
    go_wp2_with fail
    go_ret
    exact ⟨_, rfl, HS.out, HB2.out⟩
end Go.Proofs.YtmjeifbadjdnfaaDoor
