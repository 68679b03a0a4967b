/- Contracts of sort.Search at any test, and of the table's block. Condition: the test rises. Contracts of the table's made. No condition. Contracts of the table's block, May and Get. Condition: the key's texts have room. -/
import Derived.Test.YtplghaoflmaadaaGreatDoorZ23
import Derived.Test.YtplghaoflmaadaaGreatDoorZ26
import Derived.Test.YtplghaoflmaadaaGreatDoorZ25
import Derived.Test.YtplghaoflmaadaaGreatDoorZ11
import Derived.Test.YtplghaoflmaadaaGreatDoorZ04
section
set_option linter.unusedVariables false
set_option linter.unusedSimpArgs false
set_option maxRecDepth 50000
namespace Go.Proofs.YtplghaoflmaadaaGreatDoor
open Go.RowKit Go.Sort
open Go.Lib hiding intOf

/-- a test of places below n that answers b -/
def AsksN (f : Nat) (caps : Array Value) (B : Nat) (w0 : World) (n : Nat) (b : Nat → Bool) : Prop :=
  ∀ W, Below B w0 W → ∀ i : Nat, i < n → Calls Tryz.prog f (#[.int .i64 (i : Int)] ++ caps) W fun e w' => e = .returned (.bool (b i)) ∧ Below W.heap.size W w'
/-- the first place where the test says yes -/
structure FirstN (n : Nat) (b : Nat → Bool) (r : Nat) : Prop where
  le : r ≤ n
  no : ∀ i, i < r → b i = false
  yes : r < n → b r = true
set_option maxHeartbeats 1000000 in
theorem search_any (f : Nat) (caps : Array Value) (eg : ∀ args w, (callFunc f args).run Tryz.prog w = .ok (.enter f args) w) (B : Nat) (w0 : World) (n : Nat) (b : Nat → Bool) (w : World) (GA : AsksN f caps B w0 n b) (hB : Below B w0 w) (hBs : B ≤ w.heap.size) (hn : n ≤ 1000000) (hm : ∀ i j, i ≤ j → j < n → b i = true → b j = true) :
    Calls Tryz.prog 98 #[.int .i64 (n : Int), .func (.func f) #[] caps] w fun e w' => ∃ r : Nat, e = .returned (.int .i64 (r : Int)) ∧ FirstN n b r ∧ Below w.heap.size w w' := by
  have GH := Lib.hid GA; have HB := Lib.hid hB; have HMO := Lib.hid hm
  clear GA hB hm
  go_enter Tryz.func98, Tryz.ntmps98
  go_wp2_with fail
  go_loopw [5, 6, 7] (fun v5 v6 _ wr => ∃ i j : Nat, v5 = .int .i64 (i : Int) ∧ v6 = .int .i64 (j : Int) ∧ i ≤ j ∧ j ≤ n ∧ Hid (∀ k, k < i → b k = false) ∧ Hid (j < n → b j = true) ∧ Below w.heap.size w wr) (fun v5 v6 _ _ => (intOf v6).toNat - (intOf v5).toNat)
  case atStart => exact ⟨0, n, rfl, rfl, Nat.zero_le _, Nat.le_refl _, Lib.hid (fun k hk => by omega), Lib.hid (fun h => by omega), Below.refl _ _⟩
  case round =>
    obtain ⟨i, j, rfl, rfl, hij, hjn, HLO, HHI, hb⟩ := hrel
    have HBw := Lib.hid hb; clear hb
    by_cases hlt : i < j
    · have hz : (i : Int) < (j : Int) := by omega
      obtain ⟨s, hs⟩ : ∃ s, i + j = s := ⟨_, rfl⟩
      obtain ⟨h, hh⟩ : ∃ h, s / 2 = h := ⟨_, rfl⟩
      have es : (i : Int) + (j : Int) = (s : Int) := by omega
      have eh : (s : Int) / 2 = (h : Int) := by omega
      have ks : s ≤ 2000000 := by omega
      have kh : i ≤ h ∧ h < j := by omega
      have CALL := Lib.hid (GH.out wr (Below.trans HB.out (Below.mono HBw.out hBs)) h (by omega))
      have YES := Lib.hid (fun (e : b h = true) => show h < n → b h = true from fun _ => e)
      have NO := Lib.hid (fun (e : b h = false) => show ∀ k, k < h + 1 → b k = false from fun k hk => by
        cases hbk : b k with
        | false => rfl
        | true => rw [HMO.out k h (by omega) (by omega) hbk] at e; cases e)
      obtain ⟨bh, hbh⟩ : ∃ bh, b h = bh := ⟨_, rfl⟩
      rw [hbh] at CALL
      have HBH := Lib.hid hbh
      clear hbh
      clear hs hh
      go_wp2_with fail
      refine CALL.out.mono ?_
      rintro e w1 ⟨rfl, hb⟩
      have HB1 := Lib.hid (below_tr HBw.out hb); clear hb
      cases bh with
      | true =>
        have Y := Lib.hid (YES.out HBH.out)
        go_wp2_with fail
        exact ⟨⟨i, h, rfl, rfl, by omega, by omega, HLO, Y, HB1.out⟩, by simp [intOf]; omega⟩
      | false =>
        have N := Lib.hid (NO.out HBH.out)
        go_wp2_with fail
        exact ⟨⟨h + 1, j, by first | rfl | go_num, rfl, by omega, by omega, N, HHI, HB1.out⟩, by simp [intOf]; omega⟩
    · obtain rfl : i = j := by omega
      have hz : ¬ (i : Int) < (i : Int) := by omega
      have FIN := Lib.hid (show FirstN n b i from ⟨hjn, HLO.out, HHI.out⟩)
      go_wp2_with fail
      go_ret
      exact ⟨_, rfl, FIN.out, HBw.out⟩

def zCl : Cel := ⟨⟨⟨#[]⟩, ⟨#[]⟩, 0, ⟨#[]⟩⟩, zVr⟩
def lastK (b : List Cel) : Ky := (b.getD (b.length - 1) zCl).k
/-- is block i's last key no less than k? -/
def geB (bs : List (List Cel)) (k : Ky) (i : Nat) : Bool := decide (0 ≤ kcK (lastK (bs.getD i [])) k)
theorem geB_at {bs : List (List Cel)} {k : Ky} {i : Nat} (h : i < bs.length) : geB bs k i = decide (0 ≤ kcK (lastK bs[i]) k) := by
  unfold geB
  rw [List.getD_eq_getElem?_getD, List.getElem?_eq_getElem h]; rfl

/-- a key in memory -/
structure KyAt (w : World) (p : Nat) (k : Ky) : Prop where
  c0 : w.cell? ⟨p, 0, none⟩ = some (.string k.t)
  c1 : w.cell? ⟨p, 1, none⟩ = some (.string k.p)
  c2 : w.cell? ⟨p, 2, none⟩ = some (.int .i64 k.r)
  c3 : w.cell? ⟨p, 3, none⟩ = some (.string k.c)
theorem KyAt.keep {w w' : World} {p : Nat} {k : Ky} (h : KyAt w p k) (hb : Below w.heap.size w w') : KyAt w' p k := ⟨cell_keep hb h.c0, cell_keep hb h.c1, cell_keep hb h.c2, cell_keep hb h.c3⟩

set_option maxHeartbeats 2000000 in
theorem blockClo_any (g p1 p2 : Nat) (bs : List (List Cel)) (k : Ky) (i : Nat) (w : World) (h : Tb w g bs) (c1 : w.cell? ⟨p1, 0, none⟩ = some (.pointer (some ⟨g, 0, none⟩))) (hk : KyAt w p2 k) (hi : i < bs.length) :
    Calls Tryz.prog 99 #[.int .i64 (i : Int), .pointer (some ⟨p1, 0, none⟩), .pointer (some ⟨p2, 0, none⟩)] w fun e w' => e = .returned (.bool (geB bs k i)) ∧ Below w.heap.size w w' := by
  have hne := h.ne _ (List.getElem_mem hi)
  obtain ⟨hv, gf, hs, hb, hsl, hls, hfl⟩ := h.ex
  have t0 := hb.cell 0 rfl
  have hi' : i < hs.length := by rw [hls.len]; exact hi
  obtain ⟨gv, ov, cv, rfl, hcv, hgv⟩ := hsl.form (by omega)
  have e0 := eH_cell hsl i hi'
  have hx := (hls.at_ i hi' hi)
  obtain ⟨gl, o, c, e1, hc, hgl⟩ := hx.1.form hne
  have hxs := hx.1
  rw [e1] at hxs
  have hrm := hx.2
  have e2 : hs[i].a = some ⟨gl, o, none⟩ ∧ hs[i].n = bs[i].length ∧ hs[i].c = c := by
    unfold Hd.val at e1; injection e1 with a b d; exact ⟨a, b, d⟩
  rw [e2.1, e2.2.1, e2.2.2] at e0
  obtain ⟨n1, hn1⟩ : ∃ n1, bs[i].length = n1 + 1 := ⟨bs[i].length - 1, by omega⟩
  have ten := Ten.of hxs n1 (by omega)
  have hgE : geB bs k i = decide (0 ≤ kcK (bs[i][n1]'(by omega)).k k) := by
    have e : lastK bs[i] = (bs[i][n1]'(by omega)).k := by
      have e2 : bs[i].length - 1 = n1 := by omega
      simp only [lastK, List.getD_eq_getElem?_getD, e2]
      rw [List.getElem?_eq_getElem (by omega)]; rfl
    rw [geB_at hi, e]
  rw [hgE]
  have C := fun W => show Calls _ _ _ _ _ from Cmp_any (bs[i][n1]'(by omega)).k.t (bs[i][n1]'(by omega)).k.p (bs[i][n1]'(by omega)).k.c k.t k.p k.c (bs[i][n1]'(by omega)).k.r k.r W
  have kE : kcK (bs[i][n1]'(by omega)).k k = firstOf [cmpS (bs[i][n1]'(by omega)).k.t k.t, cmpS (bs[i][n1]'(by omega)).k.p k.p, cmpI (bs[i][n1]'(by omega)).k.r k.r, cmpS (bs[i][n1]'(by omega)).k.c k.c] := rfl
  rw [← kE] at C
  obtain ⟨len, hlen⟩ : ∃ len, bs[i].length = len := ⟨_, rfl⟩
  rw [hlen] at e0 hn1
  generalize kcK (bs[i][n1]'(by omega)).k k = R at *
  generalize bs[i][n1]'(by omega) = x at *
  have ta := fun d os => ten.keep (below_regrown w d os)
  have tk := fun d os => hk.keep (below_regrown w d os)
  have hz : (i : Int) < (hs.length : Int) := by omega
  have hi0 : ¬ (i : Int) < 0 := by omega
  have hlen2 : hs.length ≤ 20000 := by rw [hls.len]; exact h.few
  unfold Room at hrm
  rw [hlen] at hrm
  have hw1 : IntKind.i64.wrap ((len : Int) - 1) = (n1 : Int) := by rw [IntKind.wrap_i64]; omega
  have hq1 : (n1 : Int) < (len : Int) := by omega
  have hq2 : ¬ (n1 : Int) < 0 := by omega
  have hq3 : n1 < len := by omega
  clear hlen hn1
  have q1 := Lib.hid (QP.of (W := w) fun W' _ => C W')
  obtain ⟨⟨t, p, r, q⟩, ⟨x1, x2, x3, x4, x5, x6⟩⟩ := x
  have d0 := fun d os => (ta d os).c0; have d1 := fun d os => (ta d os).c1; have d2 := fun d os => (ta d os).c2; have d3 := fun d os => (ta d os).c3
  have k0 := fun d os => (tk d os).c0; have k1 := fun d os => (tk d os).c1; have k2 := fun d os => (tk d os).c2; have k3 := fun d os => (tk d os).c3
  clear ta tk ten C kE hgE hxs hx e1 e2 hsl hls hfl h hb hk
  simp only at *
  go_enter Tryz.func99, Tryz.ntmps99
  go_wp2_with fail
  refine wp_region_quiet_below (by kernel_rfl) (by kernel_rfl) ?_
  repeat (quiet_step (first | with_reducible exact q1.out.at _ _))
  refine wpQuiet_nil ?_
  intro w3 hw3
  have hb3 := regrown_below hw3
  clear hw3
  go_wp2_with fail
  go_ret
  exact ⟨rfl, hb3⟩
end Go.Proofs.YtplghaoflmaadaaGreatDoor
end

section
set_option linter.unusedVariables false
set_option linter.unusedSimpArgs false
set_option maxRecDepth 50000
namespace Go.Proofs.YtplghaoflmaadaaGreatDoor
open Go.RowKit

theorem made_nil (w : World) : Calls Tryz.prog 58 #[.pointer none] w fun e w' => e = .returned (.bool false) ∧ Below w.heap.size w w' := by
  go_enter Tryz.func58, Tryz.ntmps58
  go_wp2_with fail
  go_ret
  exact ⟨rfl, Below.refl _ _⟩
theorem made_any (g : Nat) (n : Int) (w : World) (hc : w.cell? ⟨g, 2, none⟩ = some (.int .i64 n)) : Calls Tryz.prog 58 #[.pointer (some ⟨g, 0, none⟩)] w fun e w' => e = .returned (.bool (decide (0 < n))) ∧ Below w.heap.size w w' := by
  go_enter Tryz.func58, Tryz.ntmps58
  go_wp2_with fail
  go_ret
  exact ⟨rfl, Below.refl _ _⟩
end Go.Proofs.YtplghaoflmaadaaGreatDoor
end

section
set_option linter.unusedVariables false
set_option linter.unusedSimpArgs false
set_option maxRecDepth 50000
namespace Go.Proofs.YtplghaoflmaadaaGreatDoor
open Go.RowKit Go.Sort
open Go.Lib hiding intOf

/-! Plain laws of sorted blocks. -/
theorem inc_pair : ∀ (L : List Cel), IncC L L.length → L.Pairwise (fun a b => kcK a.k b.k < 0)
  | [], _ => List.Pairwise.nil
  | [a], _ => by simp
  | a :: b :: l, h => by
    have ih := inc_pair (b :: l) (fun i h1 h2 => h (i + 1) (by simp at *; omega) (by simp at *; omega))
    have h0 : kcK a.k b.k < 0 := h 0 (by simp) (by simp)
    refine List.Pairwise.cons ?_ ih
    intro x hx
    rcases List.mem_cons.1 hx with rfl | hx
    · exact h0
    · exact kcK_ord.tr _ _ _ h0 (List.rel_of_pairwise_cons ih hx)
theorem lastK_mem {b : List Cel} (h : 0 < b.length) : ∃ c ∈ b, c.k = lastK b := by
  refine ⟨b[b.length - 1]'(by omega), List.getElem_mem _, ?_⟩
  unfold lastK
  rw [List.getD_eq_getElem?_getD, List.getElem?_eq_getElem (by omega)]; rfl
theorem lastK_top {b : List Cel} (h : b.Pairwise (fun a b => kcK a.k b.k < 0)) : ∀ c ∈ b, kcK c.k (lastK b) ≤ 0 := by
  intro c hc
  obtain ⟨i, hi, rfl⟩ := List.getElem_of_mem hc
  have e : lastK b = (b[b.length - 1]'(by omega)).k := by
    unfold lastK
    rw [List.getD_eq_getElem?_getD, List.getElem?_eq_getElem (by omega)]; rfl
  rw [e]
  by_cases hl : i = b.length - 1
  · subst hl; rw [kcK_ord.self]; exact Int.le_refl _
  · exact Int.le_of_lt (List.pairwise_iff_getElem.1 h i (b.length - 1) hi (by omega) (by omega))
structure SrtB (bs : List (List Cel)) : Prop where
  each : ∀ b ∈ bs, b.Pairwise (fun a b => kcK a.k b.k < 0)
  far : bs.Pairwise (fun a b => ∀ x ∈ a, ∀ y ∈ b, kcK x.k y.k < 0)
  ne : ∀ b ∈ bs, 0 < b.length
theorem Tb.srt {W : World} {g : Nat} {bs : List (List Cel)} (h : Tb W g bs) : SrtB bs := by
  have := List.pairwise_flatten.1 (inc_pair _ h.ok.inc)
  exact ⟨this.1, this.2, h.ne⟩
theorem SrtB.last {bs : List (List Cel)} (h : SrtB bs) {i j : Nat} (hij : i < j) (hj : j < bs.length) : kcK (lastK (bs[i]'(by omega))) (lastK bs[j]) < 0 := by
  obtain ⟨x, hx, ex⟩ := lastK_mem (h.ne _ (List.getElem_mem (show i < bs.length by omega)))
  obtain ⟨y, hy, ey⟩ := lastK_mem (h.ne _ (List.getElem_mem hj))
  rw [← ex, ← ey]
  exact List.pairwise_iff_getElem.1 h.far i j (by omega) hj hij x hx y hy
theorem SrtB.mono {bs : List (List Cel)} (h : SrtB bs) (k : Ky) : ∀ i j, i ≤ j → j < bs.length → geB bs k i = true → geB bs k j = true := by
  intro i j hij hj hi
  rw [geB_at (by omega), decide_eq_true_eq] at hi
  rw [geB_at hj, decide_eq_true_eq]
  rcases Nat.lt_or_eq_of_le hij with hlt | rfl
  · have h1 := h.last hlt hj
    rcases Int.lt_or_le (kcK (lastK bs[j]) k) 0 with h2 | h2
    · have := kcK_ord.tr _ _ _ h1 h2; omega
    · exact h2
  · exact hi
theorem findC_app (a b : List Cel) (k : Ky) : findC (a ++ b) k = (findC a k).or (findC b k) := by
  unfold findC
  rw [List.find?_append]
  cases List.find? (fun c => decide (c.k = k)) a <;> simp
theorem findC_no {L : List Cel} {k : Ky} (h : ∀ x ∈ L, x.k ≠ k) : findC L k = none := findC_none fun x hx => decide_eq_false (h x hx)
/-- all ahead of the first block whose last key is not less are less -/
theorem SrtB.ahead {bs : List (List Cel)} (h : SrtB bs) {k : Ky} {r : Nat} (hf : FirstN bs.length (geB bs k) r) : ∀ x ∈ (bs.take r).flatten, kcK x.k k < 0 := by
  intro x hx
  obtain ⟨b, hb, hxb⟩ := List.mem_flatten.1 hx
  obtain ⟨i, hi, rfl⟩ := List.getElem_of_mem hb
  rw [List.length_take] at hi
  have hno := hf.no i (by omega)
  rw [geB_at (by omega), decide_eq_false_iff_not] at hno
  rw [List.getElem_take] at hxb
  have h1 := lastK_top (h.each _ (List.getElem_mem (show i < bs.length by omega))) x hxb
  rcases Int.lt_or_eq_of_le h1 with h2 | h2
  · exact kcK_ord.tr _ _ _ h2 (by omega)
  · rw [(kcK_ord.zero _ _).1 h2]; omega
theorem SrtB.behind {bs : List (List Cel)} (h : SrtB bs) {k : Ky} {r : Nat} (hr : r < bs.length) (hy : geB bs k r = true) : ∀ x ∈ (bs.drop (r + 1)).flatten, 0 < kcK x.k k := by
  intro x hx
  obtain ⟨b, hb, hxb⟩ := List.mem_flatten.1 hx
  obtain ⟨i, hi, rfl⟩ := List.getElem_of_mem hb
  rw [List.length_drop] at hi
  rw [List.getElem_drop] at hxb
  rw [geB_at hr, decide_eq_true_eq] at hy
  obtain ⟨y, hyb, ey⟩ := lastK_mem (h.ne _ (List.getElem_mem hr))
  have h2 := List.pairwise_iff_getElem.1 h.far r (r + 1 + i) hr (by omega) (by omega) y hyb x hxb
  rw [ey] at h2
  rcases Int.lt_or_le 0 (kcK x.k k) with h3 | h3
  · exact h3
  · exfalso
    rcases Int.lt_or_eq_of_le h3 with h4 | h4
    · have := kcK_ord.tr _ _ _ h2 h4; omega
    · rw [(kcK_ord.zero _ _).1 h4] at h2; omega
theorem find_blocks {bs : List (List Cel)} (h : SrtB bs) {k : Ky} {r : Nat} (hf : FirstN bs.length (geB bs k) r) : findC bs.flatten k = if hr : r < bs.length then findC bs[r] k else none := by
  have hne : ∀ x, kcK x k < 0 → x ≠ k := fun x hx e => by subst e; rw [kcK_ord.self] at hx; omega
  have hne2 : ∀ x, 0 < kcK x k → x ≠ k := fun x hx e => by subst e; rw [kcK_ord.self] at hx; omega
  have ha := findC_no (fun x hx => hne _ (h.ahead hf x hx))
  by_cases hr : r < bs.length
  · rw [dif_pos hr]
    have hb := findC_no (fun x hx => hne2 _ (h.behind hr (hf.yes hr) x hx))
    have e : bs.flatten = (bs.take r).flatten ++ (bs[r] ++ (bs.drop (r + 1)).flatten) := by
      conv => lhs; rw [← List.take_append_drop r bs, List.drop_eq_getElem_cons hr]
      rw [List.flatten_append, List.flatten_cons]
    rw [e, findC_app, findC_app, ha, hb]
    cases findC bs[r] k <;> rfl
  · rw [dif_neg hr]
    have e : bs.take r = bs := List.take_of_length_le (by omega)
    rw [e] at ha; exact ha

theorem block_any (g : Nat) (bs : List (List Cel)) (k : Ky) (w : World) (h : Tb w g bs) :
    Calls Tryz.prog 59 #[.pointer (some ⟨g, 0, none⟩), kyVal k] w fun e w' => ∃ r : Nat, e = .returned (.int .i64 (r : Int)) ∧ FirstN bs.length (geB bs k) r ∧ Below w.heap.size w w' := by
  have hmf : ∀ (fn : Fn) (first cap : Array Value) (w : World), (Instr.makeFunc fn first cap).run Tryz.prog w = .ok (.func fn first cap) w := fun _ _ _ _ => rfl
  have b1 := (Blk.new w 44 #[.pointer (some ⟨g, 0, none⟩)]).alloc (.cells #[.string k.t, .string k.p, .int .i64 k.r, .string k.c] 24)
  have b2 := Blk.new (w.alloc (.cells #[.pointer (some ⟨g, 0, none⟩)] 44)) 24 #[.string k.t, .string k.p, .int .i64 k.r, .string k.c]
  have B0 := below_alloc (below_alloc (Below.refl _ w) (.cells #[.pointer (some ⟨g, 0, none⟩)] 44)) (.cells #[.string k.t, .string k.p, .int .i64 k.r, .string k.c] 24)
  rw [show (w.alloc (.cells #[.pointer (some ⟨g, 0, none⟩)] 44)).heap.size = w.heap.size + 1 by simp] at b2
  have eg : ∀ args w, (callFunc 99 args).run Tryz.prog w = .ok (.enter 99 args) w := enters_of Tryz.func99 (by kernel_rfl) rfl
  have h0 := h.keep B0
  have SR := Lib.hid (search_any 99 #[.pointer (some ⟨w.heap.size, 0, none⟩), .pointer (some ⟨w.heap.size + 1, 0, none⟩)] eg _ _ bs.length (geB bs k) _
    (fun W hb i hi => blockClo_any g w.heap.size (w.heap.size + 1) bs k i W (h0.keep hb) ((b1.below hb).cell 0 rfl) ⟨(b2.below hb).cell 0 rfl, (b2.below hb).cell 1 rfl, (b2.below hb).cell 2 rfl, (b2.below hb).cell 3 rfl⟩ hi) (Below.refl _ _) (Nat.le_refl _) (Nat.le_trans h.few (by decide)) (h.srt.mono k))
  obtain ⟨hv, gf, hs, hb, hsl, hls, hfl⟩ := h0.ex
  have hlen := hls.len
  obtain ⟨a, c, rfl, hc, _⟩ := hsl.ex
  rw [hlen] at hb
  have t0 := hb.cell 0 rfl
  have HB0 := Lib.hid B0
  have p0 := b1.cell 0 rfl
  clear b1 b2 B0 h0 h hb hsl hls hfl eg
  unfold kyVal
  go_enter Tryz.func59, Tryz.ntmps59
  go_wp2_with fail
  refine SR.out.mono ?_
  rintro e w1 ⟨r, rfl, hr, hb⟩
  have HB1 := Lib.hid (below_tr HB0.out hb); clear hb SR
  go_wp2_with fail
  go_ret
  exact ⟨r, rfl, hr, HB1.out⟩

set_option maxHeartbeats 1000000 in
theorem tmay_any (g : Nat) (bs : List (List Cel)) (k : Ky) (w : World) (h : Tb w g bs) (he : Env w) (hk : k.t.size + k.p.size + k.c.size ≤ 2000000) :
    Calls Tryz.prog 20 #[.pointer (some ⟨g, 0, none⟩), kyVal k] w fun e w' => e = .returned (.bool (mayF 7 (bitsL bs.flatten) (kyL k))) ∧ Below w.heap.size w w' := by
  have b1 := Blk.new w 24 #[.string k.t, .string k.p, .int .i64 k.r, .string k.c]
  have B0 := below_alloc (Below.refl _ w) (.cells #[.string k.t, .string k.p, .int .i64 k.r, .string k.c] 24)
  have hp := h.ok.pos
  have h0 := h.keep B0
  obtain ⟨hv, gf, hs, hb, hsl, hls, hfl⟩ := h0.ex
  have HFL := Lib.hid hfl
  have he0 := he.below B0
  have hkl := kyL_len k
  have HKL := Lib.hid (show (kyL k).length ≤ 10000000 by omega)
  obtain ⟨R, hR⟩ : ∃ R, mayF 7 (bitsL bs.flatten) (kyL k) = R := ⟨_, rfl⟩
  rw [hR]
  have HR := Lib.hid hR
  clear hR hkl hsl hls hfl h0 h
  unfold kyVal
  go_enter Tryz.func20, Tryz.ntmps20
  go_wp2_with fail
  generalize w.alloc (.cells #[.string k.t, .string k.p, .int .i64 k.r, .string k.c] 24) = W at *
  have HMD := Lib.hid (fun W' (hb' : Below W.heap.size W W') => show Calls Tryz.prog 58 #[.pointer (some ⟨g, 0, none⟩)] W' (fun e w' => e = .returned (.bool true) ∧ Below W'.heap.size W' w') from by
    have := made_any g (bs.flatten.length : Int) W' ((hb.below hb').cell 2 rfl)
    rwa [show decide ((0 : Int) < (bs.flatten.length : Int)) = true by simpa using hp] at this)
  have KB := Lib.hid (fun W' (hb : Below W.heap.size W W') => Bytes_any k.t k.p k.c k.r W' (he0.below hb) (by omega))
  have HM := Lib.hid (fun W' v (hb : Below W.heap.size W W') (ho : SlB W'.heap.size W' v (keyBytes k.t k.p k.r k.c)) => show Calls Tryz.prog 61 #[.pointer (some ⟨gf, 0, none⟩), v] W' (fun e w' => e = .returned (.bool R) ∧ Below W'.heap.size W' w') from by
    have := May_any v (kyL k) gf 7 (bitsL bs.flatten) W' (HFL.out.keep hb) ho HKL.out
    rwa [HR.out] at this)
  have HS := Lib.hid (fun W' (hb' : Below W.heap.size W W') => show InW W W' ∧ W'.cell? ⟨g, 1, none⟩ = some (.pointer (some ⟨gf, 0, none⟩)) ∧ W'.cell? ⟨w.heap.size, 0, none⟩ = some (.string k.t) ∧ W'.cell? ⟨w.heap.size, 1, none⟩ = some (.string k.p) ∧ W'.cell? ⟨w.heap.size, 2, none⟩ = some (.int .i64 k.r) ∧ W'.cell? ⟨w.heap.size, 3, none⟩ = some (.string k.c) from
    ⟨hb', (hb.below hb').cell 1 rfl, (b1.below hb').cell 0 rfl, (b1.below hb').cell 1 rfl, (b1.below hb').cell 2 rfl, (b1.below hb').cell 3 rfl⟩)
  have HB0 := Lib.hid B0
  clear b1 B0 hb he0 he
  go_region_held3 (fun W' => InW W W' ∧ W'.cell? ⟨g, 1, none⟩ = some (.pointer (some ⟨gf, 0, none⟩)) ∧ W'.cell? ⟨w.heap.size, 0, none⟩ = some (.string k.t) ∧ W'.cell? ⟨w.heap.size, 1, none⟩ = some (.string k.p) ∧ W'.cell? ⟨w.heap.size, 2, none⟩ = some (.int .i64 k.r) ∧ W'.cell? ⟨w.heap.size, 3, none⟩ = some (.string k.c)) (first | exact HS.out _ (InW.drew (InW.refl _)) | with_reducible assumption | exact HS.out _ (InW.tr (And.left (by with_reducible assumption)) (by with_reducible assumption)))
    (first | (go_at_call 58; refine (HMD.out _ (‹InW W _ ∧ _›).1).mono ?_; rintro e w' ⟨rfl, hb⟩) | (go_at_call 39; refine (KB.out _ (‹InW W _ ∧ _›).1).mono ?_; rintro e w' ⟨v, rfl, HO, hb⟩) | (go_at_call 61; refine (HM.out _ _ (‹InW W _ ∧ _›).1 (OwnB.slB (by with_reducible assumption))).mono ?_; rintro e w' ⟨rfl, hb5⟩))
  all_goals have HB5 := Lib.hid (HB0.out.trans ((show Below W.heap.size W _ from (‹InW W _ ∧ _›).1).mono HB0.out.size))
  all_goals go_wp2_with fail
  all_goals go_ret
  all_goals exact ⟨rfl, HB5.out⟩
end Go.Proofs.YtplghaoflmaadaaGreatDoor
end
