/- Contracts of slices.Index and Contains at numbers, of slices.Concat at points, of a ring's made, Points, Copies. Conditions: at most a thousand points. -/
import Derived.Test.YtmjeifbadjdnfaaDoorGc
set_option linter.unusedVariables false
set_option linter.unusedSimpArgs false
set_option maxRecDepth 20000
namespace Go.Proofs.YtmjeifbadjdnfaaDoor
open Go.RowKit Go.Sort

/-- the place of x, from k on -/
def idxI (x : Int) : List Int → Nat → Int
  | [], _ => -1
  | y :: r, k => if x = y then (k : Int) else idxI x r (k + 1)
theorem idxI_mem (x : Int) (l : List Int) : ∀ k, (0 ≤ idxI x l k ↔ x ∈ l) := by
  induction l with
  | nil => intro k; simp [idxI]
  | cons y r ih =>
    intro k
    simp only [idxI, List.mem_cons]
    by_cases h : x = y
    · rw [if_pos h]; simp [h]
    · rw [if_neg h, ih]; simp [h]
theorem idxI_step (x : Int) (l : List Int) (k : Nat) (hk : k < l.length) : idxI x (l.drop k) k = if x = l[k] then (k : Int) else idxI x (l.drop (k + 1)) (k + 1) := by
  rw [List.drop_eq_getElem_cons hk, idxI]
theorem eI_cell {B : Nat} {w : World} {l : List Int} {g o n c : Nat} (h : SlX eI B w (.slice (some ⟨g, o, none⟩) n c) l) (j : Nat) (hj : j < l.length) : w.cell? ⟨g, o + j, none⟩ = some (.int .i64 l[j]) := by
  have := h.cell j 0 hj (u := .int .i64 l[j]) rfl
  rwa [show o + j * eI.size + 0 = o + j by show o + j * 1 + 0 = _; omega] at this
theorem idx_any (v : Value) (l : List Int) (x : Int) (B : Nat) (w : World) (hv : SlX eI B w v l) (hl : l.length ≤ 1000000) :
    Calls Tryd.prog 74 #[v, .int .i64 x] w fun e w' => e = .returned (.int .i64 (idxI x l 0)) ∧ w = w' := by
  have HV := Lib.hid hv
  obtain ⟨a, c, rfl, hc, hx⟩ := hv.ex
  have HX := Lib.hid hx; clear hx hv
  go_enter Tryd.func74, Tryd.ntmps74
  go_wp2_with fail
  go_loopw [5, 8] (fun _ i wr => ∃ k : Nat, k ≤ l.length ∧ i = .int .i64 (k : Int) ∧ wr = w ∧ idxI x (l.drop k) k = idxI x l 0) (fun _ i _ => l.length - (intOf i).toNat)
  case atStart => exact ⟨0, by omega, rfl, rfl, rfl⟩
  case round =>
    obtain ⟨k, hk, rfl, rfl, he⟩ := hrel
    by_cases hlt : k < l.length
    · rw [idxI_step x l k hlt] at he
      have HE := Lib.hid he; clear he
      obtain ⟨g, o, rfl, hg, _⟩ := HX.out (by omega)
      have hck := eI_cell HV.out k hlt
      have hltz : (k : Int) < (l.length : Int) := by omega
      generalize l[k] = y at *
      by_cases hxy : x = y
      · have q : (x == y) = true := by simpa using hxy
        have HQ := Lib.hid hxy; clear hxy
        go_wp2_with fail
        go_ret
        exact ⟨by rw [← HE.out, if_pos HQ.out]; rfl, rfl⟩
      · have q : (x == y) = false := by simpa using hxy
        have HQ := Lib.hid hxy; clear hxy
        go_wp2_with fail
        go_roundw
        case rel => exact ⟨k + 1, by omega, by first | rfl | go_num, trivial, by rw [← HE.out, if_neg HQ.out]⟩
        case measure => simp [intOf]; omega
    · have hltz : ¬ (k : Int) < (l.length : Int) := by omega
      have he' : idxI x l 0 = -1 := by rw [← he, List.drop_of_length_le (by omega)]; rfl
      have HE := Lib.hid he'; clear he he'
      go_wp2_with fail
      go_ret
      exact ⟨by rw [HE.out]; rfl, rfl⟩
theorem contains_any (v : Value) (l : List Int) (x : Int) (B : Nat) (w : World) (hv : SlX eI B w v l) (hl : l.length ≤ 1000000) :
    Calls Tryd.prog 58 #[v, .int .i64 x] w fun e w' => e = .returned (.bool (decide (x ∈ l))) ∧ w = w' := by
  have HI := Lib.hid (idx_any v l x B w hv hl)
  have hm := Lib.hid (idxI_mem x l 0)
  obtain ⟨a, c, rfl, _, _⟩ := hv.ex
  clear hv
  generalize idxI x l 0 = z at *
  go_enter Tryd.func58, Tryd.ntmps58
  go_wp2_with fail
  refine HI.out.mono ?_
  rintro e w1 ⟨rfl, rfl⟩
  go_wp2_with fail
  go_ret
  exact ⟨ret_b (by rw [decide_eq_decide]; exact hm.out), rfl⟩
theorem rIn_any (v : Value) (l : List Int) (x : Int) (B : Nat) (w : World) (hv : SlX eI B w v l) (hl : l.length ≤ 1000000) :
    Calls Tryd.prog 57 #[v, .int .i64 x] w fun e w' => e = .returned (.bool (decide (x ∈ l))) ∧ w = w' := by
  have HV := Lib.hid hv
  obtain ⟨a, c, rfl, hc, hx⟩ := hv.ex
  have HX := Lib.hid hx; clear hx hv
  have hd : decide (x ∈ l) = decide (x ∈ l.drop 0) := by rw [List.drop_zero]
  generalize decide (x ∈ l) = b at *
  have HD := Lib.hid hd; clear hd
  go_enter Tryd.func57, Tryd.ntmps57
  go_wp2_with fail
  go_loopw [6, 9] (fun _ i wr => ∃ k : Nat, k ≤ l.length ∧ i = .int .i64 (k : Int) ∧ wr = w ∧ b = decide (x ∈ l.drop k)) (fun _ i _ => l.length - (intOf i).toNat)
  case atStart => exact ⟨0, by omega, rfl, rfl, HD.out⟩
  case round =>
    obtain ⟨k, hk, rfl, rfl, he⟩ := hrel
    by_cases hlt : k < l.length
    · rw [List.drop_eq_getElem_cons hlt] at he
      have HE := Lib.hid he; clear he HD
      obtain ⟨g, o, rfl, hg, _⟩ := HX.out (by omega)
      have hck := eI_cell HV.out k hlt
      have hltz : (k : Int) < (l.length : Int) := by omega
      generalize l[k] = y at *
      by_cases hxy : y = x
      · have q : (y == x) = true := by simpa using hxy
        have HQ := Lib.hid hxy; clear hxy
        go_wp2_with fail
        go_ret
        exact ⟨by rw [HE.out, HQ.out]; simp, rfl⟩
      · have q : (y == x) = false := by simpa using hxy
        have HQ := Lib.hid (show ¬ x = y from fun e => hxy e.symm); clear hxy
        go_wp2_with fail
        go_roundw
        case rel => exact ⟨k + 1, by omega, by first | rfl | go_num, trivial, by rw [HE.out, decide_eq_decide, List.mem_cons]; simp [HQ.out]⟩
        case measure => simp [intOf]; omega
    · have hltz : ¬ (k : Int) < (l.length : Int) := by omega
      have he' : b = false := by rw [he, List.drop_of_length_le (by omega)]; simp
      have HE := Lib.hid he'; clear he he' HD
      go_wp2_with fail
      go_ret
      exact ⟨by rw [HE.out]; rfl, rfl⟩

/-! a ring in memory -/
structure RingAt (E : El Pt) (W : World) (g gl ol cl : Nat) (L : List Pt) (c : Int) : Prop where
  c0 : W.cell? ⟨g, 0, none⟩ = some (.slice (some ⟨gl, ol, none⟩) L.length cl)
  c1 : W.cell? ⟨g, 1, none⟩ = some (.int .i64 c)
  s : SlX E W.heap.size W (.slice (some ⟨gl, ol, none⟩) L.length cl) L
theorem RingAt.keep {E : El Pt} {W W' : World} {g gl ol cl : Nat} {L : List Pt} {c : Int} (h : RingAt E W g gl ol cl L c) (hb : Below W.heap.size W W') : RingAt E W' g gl ol cl L c :=
  ⟨cell_keep hb h.c0, cell_keep hb h.c1, h.s.keep hb⟩
theorem eP_cell {B : Nat} {w : World} {l : List Pt} {g o n c : Nat} (h : SlX eP B w (.slice (some ⟨g, o, none⟩) n c) l) (j : Nat) (hj : j < l.length) : w.cell? ⟨g, o + j * 2, none⟩ = some (.int .i64 l[j].1) ∧ w.cell? ⟨g, o + j * 2 + 1, none⟩ = some (.int .i64 l[j].2) :=
  ⟨h.cell j 0 hj (u := .int .i64 l[j].1) rfl, h.cell j 1 hj (u := .int .i64 l[j].2) rfl⟩
theorem eQ_cell {B : Nat} {w : World} {l : List Pt} {g o n c : Nat} (h : SlX eQ B w (.slice (some ⟨g, o, none⟩) n c) l) (j : Nat) (hj : j < l.length) : w.cell? ⟨g, o + j * 2, none⟩ = some (.int .i64 l[j].1) ∧ w.cell? ⟨g, o + j * 2 + 1, none⟩ = some (.int .i64 l[j].2) :=
  ⟨h.cell j 0 hj (u := .int .i64 l[j].1) rfl, h.cell j 1 hj (u := .int .i64 l[j].2) rfl⟩
theorem made_any (g : Nat) (c : Int) (w : World) (h : w.cell? ⟨g, 1, none⟩ = some (.int .i64 c)) :
    Calls Tryd.prog 52 #[.pointer (some ⟨g, 0, none⟩)] w fun e w' => e = .returned (.bool (decide (0 < c))) ∧ w = w' := by
  go_enter Tryd.func52, Tryd.ntmps52
  go_wp2_with fail
  go_ret
  exact ⟨rfl, rfl⟩
theorem made_none (w : World) : Calls Tryd.prog 52 #[.pointer none] w fun e w' => e = .returned (.bool false) ∧ w = w' := by
  go_enter Tryd.func52, Tryd.ntmps52
  go_wp2_with fail
  go_ret
  exact ⟨rfl, rfl⟩
theorem Points_any (g gl ol cl : Nat) (L : List Pt) (c : Int) (w : World) (hr : RingAt eP w g gl ol cl L c) (hc : 0 < c) (hl : L.length ≤ 1000) :
    Calls Tryd.prog 24 #[.pointer (some ⟨g, 0, none⟩)] w fun e w' => ∃ v, e = .returned v ∧ OwnX eP w' w.heap.size v L ∧ Below w.heap.size w w' := by
  have hd : decide (0 < c) = true := by simpa using hc
  have M := made_any g c w hr.c1
  rw [hd] at M
  have M' := Lib.hid M
  have C := Lib.hid (clonePt_any gl ol L.length cl L w hr.s hl)
  obtain ⟨c0, c1, _⟩ := hr
  clear M hd
  go_enter Tryd.func24, Tryd.ntmps24
  go_wp2_with fail
  refine M'.out.mono ?_
  rintro e w1 ⟨rfl, rfl⟩
  go_wp2_with fail
  refine C.out.mono ?_
  rintro e w2 ⟨v, rfl, hO, hB⟩
  go_wp2_with fail
  go_ret
  exact ⟨v, rfl, hO, hB⟩
theorem Copies_any (g : Nat) (c : Int) (w : World) (h : w.cell? ⟨g, 1, none⟩ = some (.int .i64 c)) (hc : 0 < c) :
    Calls Tryd.prog 25 #[.pointer (some ⟨g, 0, none⟩)] w fun e w' => e = .returned (.int .i64 c) ∧ w = w' := by
  have hd : decide (0 < c) = true := by simpa using hc
  have M := made_any g c w h
  rw [hd] at M
  have M' := Lib.hid M
  clear M hd
  go_enter Tryd.func25, Tryd.ntmps25
  go_wp2_with fail
  refine M'.out.mono ?_
  rintro e w1 ⟨rfl, rfl⟩
  go_wp2_with fail
  go_ret
  exact ⟨rfl, rfl⟩
/-- A ring that no call made. -/
def NoRing (w : World) (v : Value) : Prop := v = .pointer none ∨ ∃ g, v = .pointer (some ⟨g, 0, none⟩) ∧ w.cell? ⟨g, 1, none⟩ = some (.int .i64 0)
theorem made_no (v : Value) (w : World) (h : NoRing w v) : Calls Tryd.prog 52 #[v] w fun e w' => e = .returned (.bool false) ∧ w = w' := by
  rcases h with rfl | ⟨g, rfl, h⟩
  · exact made_none w
  · have := made_any g 0 w h
    rw [show decide ((0 : Int) < 0) = false from rfl] at this
    exact this
theorem Points_no (v : Value) (w : World) (h : NoRing w v) : Calls Tryd.prog 24 #[v] w fun e w' => e = .returned (.slice none 0 0) ∧ w = w' := by
  have M := Lib.hid (made_no v w h)
  clear h
  go_enter Tryd.func24, Tryd.ntmps24
  go_wp2_with fail
  refine M.out.mono ?_
  rintro e w1 ⟨rfl, rfl⟩
  go_wp2_with fail
  go_ret
  exact ⟨rfl, rfl⟩
theorem Copies_no (v : Value) (w : World) (h : NoRing w v) : Calls Tryd.prog 25 #[v] w fun e w' => e = .returned (.int .i64 0) ∧ w = w' := by
  have M := Lib.hid (made_no v w h)
  clear h
  go_enter Tryd.func25, Tryd.ntmps25
  go_wp2_with fail
  refine M.out.mono ?_
  rintro e w1 ⟨rfl, rfl⟩
  go_wp2_with fail
  go_ret
  exact ⟨rfl, rfl⟩
end Go.Proofs.YtmjeifbadjdnfaaDoor
