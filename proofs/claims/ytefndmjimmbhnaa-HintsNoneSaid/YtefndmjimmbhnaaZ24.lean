/- Plain laws of the disk: files, sectors, what stands in line, what a crash leaves. They speak of no program; no condition. Plain laws of the disk: which file a name has behind each operation. They speak of no program; no condition. Plain laws of the disk: what stays clean when another file is turned. No program in sight; no condition. Plain laws of the disk: what a file holds while another is turned, and behind a crash. No program in sight; no condition. Plain laws of the disk: a file that is written beside another one, and then takes its place. No program in sight; no condition. -/
import Derived.Test.YtefndmjimmbhnaaZ00
section
set_option linter.unusedVariables false
set_option linter.unusedSimpArgs false
namespace Go.Proofs.Ytefndmjimmbhnaa

/-- a file: its name, its page's block, its bytes' row, its bytes, how many are written -/
structure Fil where
  n : ByteArray
  a : Nat
  r : Option Nat
  b : List UInt8
  wr : Nat
/-- a disk: its own block, the map's, the line's row; its cells; files; what is in line (page, sector) -/
structure Dsk where
  d : Nat
  m : Nat
  lr : Option Nat
  room : Int
  l : List Fil
  line : List (Nat × Nat)
  dark : Bool
  plan : Int
  keep : Int
def sect (n : Nat) : Nat := n / 16 + min (n % 16) 1
def Dsk.foot (D : Dsk) (k : Nat) : Prop := k = D.d ∨ k = D.m ∨ D.lr = some k ∨ ∃ f ∈ D.l, k = f.a ∨ f.r = some k
def Dsk.used (D : Dsk) : Nat := (D.l.map fun f : Fil => sect f.b.length + 1).sum
def Dsk.get (D : Dsk) (nm : ByteArray) : Option Fil := D.l.find? fun f : Fil => decide (f.n = nm)
structure Dsk.Ok (D : Dsk) : Prop where
  names : (D.l.map Fil.n).Nodup
  pages : ∀ f ∈ D.l, ∀ g ∈ D.l, f.n ≠ g.n → f.a ≠ g.a
  rows : ∀ f ∈ D.l, ∀ g ∈ D.l, f.n ≠ g.n → f.r = none ∨ f.r ≠ g.r
  wr : ∀ f ∈ D.l, f.wr ≤ f.b.length
  nil : ∀ f ∈ D.l, f.r = none → f.b = []
  lnil : D.lr = none → D.line = []
  few : D.l.length ≤ 48
  room0 : 0 ≤ D.room
  room1 : D.room ≤ 1073741824
  used : (D.used : Int) ≤ D.room
  size : ∀ f ∈ D.l, f.n.size ≤ 40
  line : ∀ p ∈ D.line, ∃ f ∈ D.l, f.a = p.1 ∧ p.2 ≤ 1073741824
  nodup : D.line.Nodup
  plan0 : 0 ≤ D.plan
  plan1 : D.plan ≤ 9223372036854775807
  keep0 : -9223372036854775808 ≤ D.keep
  keep1 : D.keep ≤ 9223372036854775807

/-- marks of a page go -/
def forgetL (line : List (Nat × Nat)) (a : Nat) : List (Nat × Nat) := line.filter fun p => !decide (p.1 = a)
/-- how many are written when the marks of a line are written one behind the other -/
def wrOf (ms : List (Nat × Nat)) (a len wr : Nat) : Nat := ms.foldl (fun n p => if p.1 = a then min ((p.2 + 1) * 16) len else n) wr
def crashF (ms : List (Nat × Nat)) (f : Fil) : Fil := { f with b := f.b.take (wrOf ms f.a f.b.length f.wr), wr := wrOf ms f.a f.b.length f.wr }
def takeLine (line : List (Nat × Nat)) (keep : Int) : List (Nat × Nat) := line.take keep.toNat
def Dsk.crash (D : Dsk) (keep : Int) : Dsk := { D with l := D.l.map (crashF (takeLine D.line keep)), line := [], lr := none, dark := true }
def Dsk.unlink (D : Dsk) (nm : ByteArray) : Dsk :=
  match D.get nm with
  | none => D
  | some f => { D with l := D.l.filter fun g : Fil => !decide (g.n = nm), line := forgetL D.line f.a }
/-- an operation begins -/
def Dsk.tick (D : Dsk) : Dsk := { D with plan := if 0 < D.plan then D.plan - 1 else D.plan }
def Dsk.setF (D : Dsk) (nm : ByteArray) (h : Fil → Fil) : Dsk := { D with l := D.l.map fun f : Fil => if f.n = nm then h f else f }
def Dsk.create (D : Dsk) (nm : ByteArray) (a : Nat) : Dsk :=
  let E := D.unlink nm
  { E with l := E.l ++ [⟨nm, a, none, [], 0⟩] }
def Dsk.sync (D : Dsk) (nm : ByteArray) : Dsk :=
  match D.get nm with
  | none => D
  | some f => { D.setF nm (fun f : Fil => { f with wr := f.b.length }) with line := forgetL D.line f.a }
/-- marks of the sectors n, n+1 .. below e are added, if they are not there -/
def soilL (line : List (Nat × Nat)) (a n e : Nat) : List (Nat × Nat) := (List.range' n (e - n)).foldl (fun l k => if (a, k) ∈ l then l else l ++ [(a, k)]) line
def Dsk.append (D : Dsk) (nm : ByteArray) (x : List UInt8) (r lr : Option Nat) : Dsk :=
  match D.get nm with
  | none => D
  | some f => { D.setF nm (fun f : Fil => { f with b := f.b ++ x, r := r }) with line := if x = [] then D.line else soilL D.line f.a (f.b.length / 16) (sect (f.b.length + x.length)), lr := lr }
def Dsk.rename (D : Dsk) (nm tn : ByteArray) : Dsk :=
  if nm = tn then D else
  match D.get nm with
  | none => D
  | some f => { D.unlink tn with l := ((D.unlink tn).l ++ [{ f with n := tn }]).filter fun g : Fil => !decide (g.n = nm) }

theorem sect_eq (n : Nat) : sect n = (n + 15) / 16 := by unfold sect; omega
theorem sect_mono {m n : Nat} (h : m ≤ n) : sect m ≤ sect n := by rw [sect_eq, sect_eq]; omega
section
variable {l : List Fil} {D : Dsk} {f : Fil} {nm : ByteArray}
theorem fil_uniq (hk : (l.map Fil.n).Nodup) {f g : Fil} (hf : f ∈ l) (hg : g ∈ l) (h : f.n = g.n) : f = g := by
  induction l with
  | nil => cases hf
  | cons x l ih =>
    rw [List.map_cons, List.nodup_cons] at hk
    rcases List.mem_cons.1 hf with rfl | hf'
    · rcases List.mem_cons.1 hg with rfl | hg'
      · rfl
      · exact absurd (List.mem_map.2 ⟨g, hg', h.symm⟩) hk.1
    · rcases List.mem_cons.1 hg with rfl | hg'
      · exact absurd (List.mem_map.2 ⟨f, hf', h⟩) hk.1
      · exact ih hk.2 hf' hg'
theorem get_mem (h : D.get nm = some f) : f ∈ D.l ∧ f.n = nm := by
  unfold Dsk.get at h
  exact ⟨List.mem_of_find?_eq_some h, by simpa using List.find?_some h⟩
theorem get_of (hk : (D.l.map Fil.n).Nodup) (hf : f ∈ D.l) : D.get f.n = some f := by
  unfold Dsk.get
  cases hx : D.l.find? (fun g : Fil => decide (g.n = f.n)) with
  | none => exact absurd (List.find?_eq_none.1 hx f hf) (by simp)
  | some g => rw [fil_uniq hk (List.mem_of_find?_eq_some hx) hf (by simpa using List.find?_some hx)]
theorem get_none (h : D.get nm = none) : ∀ f ∈ D.l, f.n ≠ nm := fun f hf => by simpa using List.find?_eq_none.1 h f hf
theorem get_none_of (h : ∀ f ∈ D.l, f.n ≠ nm) : D.get nm = none := List.find?_eq_none.2 fun f hf => by simpa using h f hf
/-- a sum over files when one is turned -/
theorem sum_set (w : Fil → Nat) (h : Fil → Fil) (hk : (l.map Fil.n).Nodup) (hf : f ∈ l) (e : f.n = nm) : ((l.map fun g : Fil => if g.n = nm then h g else g).map w).sum + w f = (l.map w).sum + w (h f) := by
  induction l with
  | nil => cases hf
  | cons x l ih =>
    rw [List.map_cons, List.nodup_cons] at hk
    simp only [List.map_cons, List.sum_cons]
    rcases List.mem_cons.1 hf with rfl | hf'
    · rw [if_pos e]
      have : (l.map fun g : Fil => if g.n = nm then h g else g) = l := by
        conv => rhs; rw [← List.map_id l]
        refine List.map_congr_left fun g hg => ?_
        rw [if_neg (fun e2 => hk.1 (List.mem_map.2 ⟨g, hg, by rw [e2, e]⟩))]; rfl
      rw [this]; omega
    · have hne : x.n ≠ nm := fun e2 => hk.1 (List.mem_map.2 ⟨f, hf', by rw [e2, e]⟩)
      rw [if_neg hne]
      have := ih hk.2 hf'
      omega
theorem sum_drop (w : Fil → Nat) (hk : (l.map Fil.n).Nodup) (hf : f ∈ l) (e : f.n = nm) : ((l.filter fun g : Fil => !decide (g.n = nm)).map w).sum + w f = (l.map w).sum := by
  induction l with
  | nil => cases hf
  | cons x l ih =>
    rw [List.map_cons, List.nodup_cons] at hk
    rcases List.mem_cons.1 hf with rfl | hf'
    · rw [List.filter_cons_of_neg (by simp [e])]
      have : (l.filter fun g : Fil => !decide (g.n = nm)) = l := List.filter_eq_self.2 fun g hg => by
        have : g.n ≠ nm := fun e2 => hk.1 (List.mem_map.2 ⟨g, hg, by rw [e2, e]⟩)
        simpa using this
      rw [this, List.map_cons, List.sum_cons]; omega
    · have hne : x.n ≠ nm := fun e2 => hk.1 (List.mem_map.2 ⟨f, hf', by rw [e2, e]⟩)
      rw [List.filter_cons_of_pos (by simpa using hne), List.map_cons, List.sum_cons, List.map_cons, List.sum_cons]
      have := ih hk.2 hf'
      omega
theorem wrOf_le (ms : List (Nat × Nat)) (a len : Nat) : ∀ wr, wr ≤ len → wrOf ms a len wr ≤ len := by
  unfold wrOf
  induction ms with
  | nil => intro wr h; exact h
  | cons p ms ih =>
    intro wr h
    rw [List.foldl_cons]
    split
    · exact ih _ (Nat.min_le_right _ _)
    · exact ih _ h
theorem wrOf_none (ms : List (Nat × Nat)) (a len wr : Nat) (h : ∀ p ∈ ms, p.1 ≠ a) : wrOf ms a len wr = wr := by
  unfold wrOf
  induction ms generalizing wr with
  | nil => rfl
  | cons p ms ih => rw [List.foldl_cons, if_neg (h p (List.mem_cons_self ..))]; exact ih _ (fun q hq => h q (List.mem_cons_of_mem _ hq))
theorem crashF_n (ms : List (Nat × Nat)) (f : Fil) : (crashF ms f).n = f.n ∧ (crashF ms f).a = f.a ∧ (crashF ms f).r = f.r := ⟨rfl, rfl, rfl⟩
theorem crashF_len (ms : List (Nat × Nat)) (f : Fil) (h : f.wr ≤ f.b.length) : (crashF ms f).b.length = (crashF ms f).wr ∧ (crashF ms f).b.length ≤ f.b.length := by
  have := wrOf_le ms f.a f.b.length f.wr h
  unfold crashF
  simp only [List.length_take]
  omega
/-- a file that is written whole is as it was behind a crash -/
theorem crashF_clean (ms : List (Nat × Nat)) (f : Fil) (h : f.wr = f.b.length) (hm : ∀ p ∈ ms, p.1 ≠ f.a) : crashF ms f = f := by
  unfold crashF
  rw [wrOf_none ms _ _ _ hm, h, List.take_length]
  cases f
  simp only at h
  simp [h]
theorem sum_le (w : Fil → Nat) (h : Fil → Fil) (hw : ∀ f ∈ l, w (h f) ≤ w f) : ((l.map h).map w).sum ≤ (l.map w).sum := by
  induction l with
  | nil => exact Nat.le_refl _
  | cons x l ih =>
    simp only [List.map_cons, List.sum_cons]
    have := hw x (List.mem_cons_self ..)
    have := ih fun f hf => hw f (List.mem_cons_of_mem _ hf)
    omega
theorem Dsk.Ok.tick (h : D.Ok) : D.tick.Ok := by
  refine { h with plan0 := ?_, plan1 := ?_ }
  · have := h.plan0; show 0 ≤ if 0 < D.plan then D.plan - 1 else D.plan; split <;> omega
  · have := h.plan1; show (if 0 < D.plan then D.plan - 1 else D.plan) ≤ _; split <;> omega
theorem Dsk.Ok.crash (h : D.Ok) (keep : Int) : (D.crash keep).Ok := by
  have mem : ∀ f ∈ (D.crash keep).l, ∃ g ∈ D.l, f = crashF (takeLine D.line keep) g := fun f hf => by
    obtain ⟨g, hg, e⟩ := List.mem_map.1 hf; exact ⟨g, hg, e.symm⟩
  refine { h with names := ?_, pages := ?_, rows := ?_, wr := ?_, nil := ?_, lnil := fun _ => rfl, few := ?_, used := ?_, size := ?_, line := fun p hp => (by cases hp), nodup := List.nodup_nil }
  · show ((D.l.map (crashF (takeLine D.line keep))).map Fil.n).Nodup
    rw [List.map_map]; exact h.names
  · intro f hf g hg hne
    obtain ⟨f', hf', rfl⟩ := mem f hf
    obtain ⟨g', hg', rfl⟩ := mem g hg
    exact h.pages f' hf' g' hg' hne
  · intro f hf g hg hne
    obtain ⟨f', hf', rfl⟩ := mem f hf
    obtain ⟨g', hg', rfl⟩ := mem g hg
    exact h.rows f' hf' g' hg' hne
  · intro f hf
    obtain ⟨f', hf', rfl⟩ := mem f hf
    rw [(crashF_len _ _ (h.wr f' hf')).1]; exact Nat.le_refl _
  · intro f hf e
    obtain ⟨f', hf', rfl⟩ := mem f hf
    show f'.b.take _ = []
    rw [h.nil f' hf' e]; simp
  · show (D.l.map _).length ≤ 48
    rw [List.length_map]; exact h.few
  · refine Int.le_trans (Int.ofNat_le.2 ?_) h.used
    exact sum_le (fun f : Fil => sect f.b.length + 1) _ fun f hf => Nat.add_le_add_right (sect_mono (crashF_len _ _ (h.wr f hf)).2) 1
  · intro f hf
    obtain ⟨f', hf', rfl⟩ := mem f hf
    exact h.size f' hf'
theorem Dsk.Ok.unlink (h : D.Ok) (nm : ByteArray) : (D.unlink nm).Ok ∧ (∀ f ∈ (D.unlink nm).l, f ∈ D.l ∧ f.n ≠ nm) ∧ ∀ f ∈ D.l, f.n ≠ nm → f ∈ (D.unlink nm).l := by
  unfold Dsk.unlink
  cases hg : D.get nm with
  | none => exact ⟨h, fun f hf => ⟨hf, get_none hg f hf⟩, fun f hf _ => hf⟩
  | some x =>
    obtain ⟨hx, ex⟩ := get_mem hg
    have mem : ∀ f ∈ D.l.filter (fun g : Fil => !decide (g.n = nm)), f ∈ D.l ∧ f.n ≠ nm := fun f hf => by
      have := List.mem_filter.1 hf; exact ⟨this.1, by simpa using this.2⟩
    refine ⟨{ h with names := ?_, pages := ?_, rows := ?_, wr := ?_, nil := ?_, lnil := ?_, few := ?_, used := ?_, size := ?_, line := ?_, nodup := ?_ }, mem, fun f hf hne => List.mem_filter.2 ⟨hf, by simpa using hne⟩⟩
    · exact List.Pairwise.sublist (List.Sublist.map _ List.filter_sublist) h.names
    · exact fun f hf g hg => h.pages f (mem f hf).1 g (mem g hg).1
    · exact fun f hf g hg => h.rows f (mem f hf).1 g (mem g hg).1
    · exact fun f hf => h.wr f (mem f hf).1
    · exact fun f hf => h.nil f (mem f hf).1
    · intro e; show forgetL D.line x.a = []; rw [h.lnil e]; rfl
    · exact Nat.le_trans (List.length_filter_le _ _) h.few
    · have := sum_drop (fun f : Fil => sect f.b.length + 1) h.names hx ex
      have := h.used
      show (((D.l.filter fun g : Fil => !decide (g.n = nm)).map fun f : Fil => sect f.b.length + 1).sum : Int) ≤ D.room
      unfold Dsk.used at this
      omega
    · exact fun f hf => h.size f (mem f hf).1
    · intro p hp
      obtain ⟨hp1, hp2⟩ := List.mem_filter.1 hp
      obtain ⟨f, hf, e1, e2⟩ := h.line p hp1
      refine ⟨f, List.mem_filter.2 ⟨hf, ?_⟩, e1, e2⟩
      have : f.n ≠ nm := fun e => by
        have := fil_uniq h.names hf hx (e.trans ex.symm)
        subst this
        simp [e1] at hp2
      simpa using this
    · exact h.nodup.filter _
theorem len_drop (hk : (l.map Fil.n).Nodup) (hf : f ∈ l) (e : f.n = nm) : (l.filter fun g : Fil => !decide (g.n = nm)).length + 1 = l.length := by
  have one : ∀ m : List Fil, (m.map fun _ => 1).sum = m.length := fun m => by
    induction m with
    | nil => rfl
    | cons x m ih => rw [List.map_cons, List.sum_cons, ih, List.length_cons]; omega
  have := sum_drop (fun _ => 1) hk hf e
  rwa [one, one] at this
theorem Dsk.Ok.create (h : D.Ok) (nm : ByteArray) (a : Nat) (ha : ∀ f ∈ D.l, f.a ≠ a) (hz : nm.size ≤ 40) (hr : D.get nm = none → D.l.length < 48 ∧ (D.used : Int) + 1 ≤ D.room) : (D.create nm a).Ok := by
  obtain ⟨hE, m1, m2⟩ := h.unlink nm
  have mem : ∀ f ∈ (D.unlink nm).l ++ [(⟨nm, a, none, [], 0⟩ : Fil)], (f ∈ (D.unlink nm).l) ∨ f = ⟨nm, a, none, [], 0⟩ := fun f hf => by
    rcases List.mem_append.1 hf with h1 | h1
    · exact .inl h1
    · exact .inr (List.mem_singleton.1 h1)
  have hfew : (D.unlink nm).l.length + 1 ≤ 48 ∧ ((D.unlink nm).used : Int) + 1 ≤ D.room := by
    cases hg : D.get nm with
    | none =>
      have e : D.unlink nm = D := by unfold Dsk.unlink; rw [hg]
      rw [e]; obtain ⟨h1, h2⟩ := hr hg; exact ⟨by omega, h2⟩
    | some x =>
      obtain ⟨hx, ex⟩ := get_mem hg
      have e : (D.unlink nm).l = D.l.filter fun g : Fil => !decide (g.n = nm) := by unfold Dsk.unlink; rw [hg]
      have h1 := len_drop h.names hx ex
      have h2 := sum_drop (fun f : Fil => sect f.b.length + 1) h.names hx ex
      have h3 := h.used
      have h4 := h.few
      unfold Dsk.used at h3 ⊢
      rw [e]
      constructor <;> omega
  have hroom : (D.unlink nm).room = D.room := by unfold Dsk.unlink; split <;> rfl
  refine { hE with names := ?_, pages := ?_, rows := ?_, wr := ?_, nil := ?_, few := ?_, used := ?_, size := ?_, line := ?_ }
  · show (((D.unlink nm).l ++ [(⟨nm, a, none, [], 0⟩ : Fil)]).map Fil.n).Nodup
    rw [List.map_append, List.nodup_append]
    refine ⟨hE.names, by simp, fun x hx y hy => ?_⟩
    obtain ⟨f, hf, rfl⟩ := List.mem_map.1 hx
    simp at hy; subst hy
    exact (m1 f hf).2
  · intro f hf g hg hne
    rcases mem f hf with h1 | rfl <;> rcases mem g hg with h2 | rfl
    · exact hE.pages f h1 g h2 hne
    · exact ha f (m1 f h1).1
    · exact fun e => ha g (m1 g h2).1 e.symm
    · exact absurd rfl hne
  · intro f hf g hg hne
    rcases mem f hf with h1 | rfl <;> rcases mem g hg with h2 | rfl
    · exact hE.rows f h1 g h2 hne
    · cases e : f.r with
      | none => exact .inl rfl
      | some k => exact .inr (by simp)
    · exact .inl rfl
    · exact .inl rfl
  · intro f hf
    rcases mem f hf with h1 | rfl
    · exact hE.wr f h1
    · exact Nat.le_refl _
  · intro f hf
    rcases mem f hf with h1 | rfl
    · exact hE.nil f h1
    · exact fun _ => rfl
  · show ((D.unlink nm).l ++ [(⟨nm, a, none, [], 0⟩ : Fil)]).length ≤ 48
    have := hfew.1
    simp; omega
  · show ((((D.unlink nm).l ++ [(⟨nm, a, none, [], 0⟩ : Fil)]).map fun f : Fil => sect f.b.length + 1).sum : Int) ≤ (D.unlink nm).room
    rw [List.map_append, List.sum_append, hroom]
    have := hfew.2
    unfold Dsk.used at this
    have e0 : sect 0 = 0 := rfl
    simp [e0]
    omega
  · intro f hf
    rcases mem f hf with h1 | rfl
    · exact hE.size f h1
    · exact hz
  · intro p hp
    obtain ⟨f, hf, e⟩ := hE.line p hp
    exact ⟨f, List.mem_append_left _ hf, e⟩
theorem setF_mem {h : Fil → Fil} {g : Fil} (hg : g ∈ (D.setF nm h).l) : ∃ x ∈ D.l, g = if x.n = nm then h x else x := by
  obtain ⟨x, hx, e⟩ := List.mem_map.1 hg; exact ⟨x, hx, e.symm⟩
theorem setF_names {h : Fil → Fil} (hn : ∀ f, (h f).n = f.n) : (D.setF nm h).l.map Fil.n = D.l.map Fil.n := by
  show ((D.l.map _).map _) = _
  rw [List.map_map]
  refine List.map_congr_left fun g _ => ?_
  show (if g.n = nm then h g else g).n = g.n
  split <;> simp [hn]
theorem forgetL_mem {line : List (Nat × Nat)} {a : Nat} {p : Nat × Nat} : p ∈ forgetL line a ↔ p ∈ line ∧ p.1 ≠ a := by
  unfold forgetL; rw [List.mem_filter]; simp
theorem Dsk.Ok.sync (h : D.Ok) (nm : ByteArray) : (D.sync nm).Ok := by
  unfold Dsk.sync
  cases hg : D.get nm with
  | none => exact h
  | some x =>
    obtain ⟨hx, ex⟩ := get_mem hg
    have mem : ∀ f ∈ (D.setF nm (fun f : Fil => { f with wr := f.b.length })).l, ∃ y ∈ D.l, f.n = y.n ∧ f.a = y.a ∧ f.r = y.r ∧ f.b = y.b ∧ (f.wr = y.wr ∨ f.wr = y.b.length) := fun f hf => by
      obtain ⟨y, hy, rfl⟩ := setF_mem hf
      refine ⟨y, hy, ?_⟩
      split <;> simp
    refine { h with names := ?_, pages := ?_, rows := ?_, wr := ?_, nil := ?_, lnil := ?_, few := ?_, used := ?_, size := ?_, line := ?_, nodup := h.nodup.filter _ }
    · exact (setF_names (h := fun f : Fil => { f with wr := f.b.length }) (fun _ => rfl)).symm ▸ h.names
    · intro f hf g hg hne
      obtain ⟨y, hy, e1, e2, e3, e4, _⟩ := mem f hf
      obtain ⟨z, hz, d1, d2, d3, d4, _⟩ := mem g hg
      rw [e2, d2]; exact h.pages y hy z hz (by rwa [e1, d1] at hne)
    · intro f hf g hg hne
      obtain ⟨y, hy, e1, e2, e3, e4, _⟩ := mem f hf
      obtain ⟨z, hz, d1, d2, d3, d4, _⟩ := mem g hg
      rw [e3, d3]; exact h.rows y hy z hz (by rwa [e1, d1] at hne)
    · intro f hf
      obtain ⟨y, hy, e1, e2, e3, e4, e5⟩ := mem f hf
      rw [e4]
      rcases e5 with e | e
      · rw [e]; exact h.wr y hy
      · rw [e]; exact Nat.le_refl _
    · intro f hf hr
      obtain ⟨y, hy, e1, e2, e3, e4, _⟩ := mem f hf
      rw [e4]; exact h.nil y hy (by rwa [e3] at hr)
    · intro e; show forgetL D.line x.a = []; rw [h.lnil e]; rfl
    · show (D.l.map _).length ≤ 48
      rw [List.length_map]; exact h.few
    · have := sum_le (l := D.l) (fun f : Fil => sect f.b.length + 1) (fun g : Fil => if g.n = nm then { g with wr := g.b.length } else g) (fun g _ => by split <;> exact Nat.le_refl _)
      exact Int.le_trans (Int.ofNat_le.2 this) h.used
    · intro f hf
      obtain ⟨y, hy, e1, _⟩ := mem f hf
      rw [e1]; exact h.size y hy
    · intro p hp
      obtain ⟨hp1, hp2⟩ := forgetL_mem.1 hp
      obtain ⟨f, hf, e1, e2⟩ := h.line p hp1
      refine ⟨if f.n = nm then { f with wr := f.b.length } else f, List.mem_map.2 ⟨f, hf, rfl⟩, ?_, e2⟩
      split <;> exact e1
theorem soilL_spec (a n : Nat) : ∀ (k : Nat) (line : List (Nat × Nat)), line.Nodup → (soilL line a n (n + k)).Nodup ∧ (∀ p ∈ soilL line a n (n + k), p ∈ line ∨ (p.1 = a ∧ n ≤ p.2 ∧ p.2 < n + k)) ∧ ∀ p ∈ line, p ∈ soilL line a n (n + k) := by
  intro k
  induction k with
  | zero => intro line h; unfold soilL; simp; exact ⟨h, fun _ _ x => .inl x⟩
  | succ k ih =>
    intro line h
    have e : soilL line a n (n + (k + 1)) = if (a, n + k) ∈ soilL line a n (n + k) then soilL line a n (n + k) else soilL line a n (n + k) ++ [(a, n + k)] := by
      unfold soilL
      rw [show n + (k + 1) - n = k + 1 by omega, show n + k - n = k by omega, List.range'_concat, List.foldl_append]
      simp
    obtain ⟨h1, h2, h3⟩ := ih line h
    rw [e]
    split
    · exact ⟨h1, fun p hp => (h2 p hp).imp id (fun ⟨x, y, z⟩ => ⟨x, y, by omega⟩), h3⟩
    · rename_i hn
      refine ⟨?_, ?_, fun p hp => List.mem_append_left _ (h3 p hp)⟩
      · rw [List.nodup_append]
        refine ⟨h1, by simp, fun x hx y hy => ?_⟩
        simp at hy; subst hy
        exact fun e => hn (e ▸ hx)
      · intro p hp
        rcases List.mem_append.1 hp with hp | hp
        · exact (h2 p hp).imp id (fun ⟨x, y, z⟩ => ⟨x, y, by omega⟩)
        · rw [List.mem_singleton.1 hp]; exact .inr ⟨rfl, by simp, by simp⟩
theorem soilL_to (a n e : Nat) (line : List (Nat × Nat)) (h : line.Nodup) : (soilL line a n e).Nodup ∧ (∀ p ∈ soilL line a n e, p ∈ line ∨ (p.1 = a ∧ n ≤ p.2 ∧ p.2 < e)) ∧ ∀ p ∈ line, p ∈ soilL line a n e := by
  rcases Nat.lt_or_ge n e with hlt | hge
  · have := soilL_spec a n (e - n) line h
    rwa [show n + (e - n) = e by omega] at this
  · have e0 : soilL line a n e = line := by unfold soilL; rw [show e - n = 0 by omega]; rfl
    rw [e0]; exact ⟨h, fun p hp => .inl hp, fun p hp => hp⟩
theorem sect_lt (n k : Nat) : k < sect n ↔ k * 16 < n := by rw [sect_eq]; omega
theorem Dsk.Ok.append (h : D.Ok) (nm : ByteArray) (x : List UInt8) (r lr : Option Nat) (hg : D.get nm = some f) (hx : (sect (f.b.length + x.length) : Int) - sect f.b.length ≤ D.room - D.used)
    (hr : r = f.r ∨ ∀ g ∈ D.l, r = none ∨ r ≠ g.r) (hrn : r = none → f.b ++ x = []) (hl : lr = none → (D.append nm x r lr).line = []) : (D.append nm x r lr).Ok := by
  obtain ⟨hf, ef⟩ := get_mem hg
  have eD : D.append nm x r lr = { D.setF nm (fun f : Fil => { f with b := f.b ++ x, r := r }) with line := if x = [] then D.line else soilL D.line f.a (f.b.length / 16) (sect (f.b.length + x.length)), lr := lr } := by unfold Dsk.append; rw [hg]
  have hl' := hl
  rw [eD] at hl' ⊢
  have mem : ∀ y ∈ (D.setF nm (fun f : Fil => { f with b := f.b ++ x, r := r })).l, ∃ z ∈ D.l, y.n = z.n ∧ y.a = z.a ∧ y.wr = z.wr ∧ ((z.n ≠ nm ∧ y = z) ∨ (z = f ∧ y = { f with b := f.b ++ x, r := r })) := fun y hy => by
    obtain ⟨z, hz, rfl⟩ := setF_mem hy
    refine ⟨z, hz, ?_⟩
    by_cases e : z.n = nm
    · have : z = f := fil_uniq h.names hz hf (e.trans ef.symm)
      rw [if_pos e]; subst this; exact ⟨rfl, rfl, rfl, .inr ⟨rfl, rfl⟩⟩
    · rw [if_neg e]; exact ⟨rfl, rfl, rfl, .inl ⟨e, rfl⟩⟩
  have hnd : (if x = [] then D.line else soilL D.line f.a (f.b.length / 16) (sect (f.b.length + x.length))).Nodup := by
    split
    · exact h.nodup
    · exact (soilL_to _ _ _ _ h.nodup).1
  refine { h with names := ?_, pages := ?_, rows := ?_, wr := ?_, nil := ?_, lnil := hl', few := ?_, used := ?_, size := ?_, line := ?_, nodup := hnd }
  · exact (setF_names (h := fun f : Fil => { f with b := f.b ++ x, r := r }) (fun _ => rfl)).symm ▸ h.names
  · intro y hy z hz hne
    obtain ⟨y', hy', e1, e2, _⟩ := mem y hy
    obtain ⟨z', hz', d1, d2, _⟩ := mem z hz
    rw [e2, d2]; exact h.pages y' hy' z' hz' (by rwa [e1, d1] at hne)
  · intro y hy z hz hne
    obtain ⟨y', hy', e1, _, _, hy2⟩ := mem y hy
    obtain ⟨z', hz', d1, _, _, hz2⟩ := mem z hz
    have hne' : y'.n ≠ z'.n := by rwa [e1, d1] at hne
    rcases hy2 with ⟨_, rfl⟩ | ⟨rfl, rfl⟩ <;> rcases hz2 with ⟨_, rfl⟩ | ⟨rfl, rfl⟩
    · exact h.rows _ hy' _ hz' hne'
    · rcases hr with hr | hr
      · show y.r = none ∨ y.r ≠ r
        rw [hr]; exact h.rows _ hy' _ hz' hne'
      · show y.r = none ∨ y.r ≠ r
        rcases hr y hy' with e | e
        · cases e2 : y.r with
          | none => exact .inl rfl
          | some k => rw [e]; exact .inr (by simp)
        · exact .inr (fun e2 => e e2.symm)
    · show r = none ∨ r ≠ z.r
      rcases hr with hr | hr
      · rw [hr]; exact h.rows _ hy' _ hz' hne'
      · exact hr z hz'
    · exact absurd rfl hne'
  · intro y hy
    obtain ⟨z, hz, _, _, e3, h2⟩ := mem y hy
    rcases h2 with ⟨_, rfl⟩ | ⟨rfl, rfl⟩
    · exact h.wr _ hz
    · show z.wr ≤ (z.b ++ x).length
      have := h.wr z hz
      rw [List.length_append]; omega
  · intro y hy e
    obtain ⟨z, hz, _, _, e3, h2⟩ := mem y hy
    rcases h2 with ⟨_, rfl⟩ | ⟨rfl, rfl⟩
    · exact h.nil _ hz e
    · exact hrn e
  · show (D.l.map _).length ≤ 48
    rw [List.length_map]; exact h.few
  · have h1 := sum_set (fun f : Fil => sect f.b.length + 1) (fun f : Fil => { f with b := f.b ++ x, r := r }) h.names hf ef
    have h2 := h.used
    have h3 := sect_mono (show f.b.length ≤ f.b.length + x.length by omega)
    simp only [List.length_append] at h1
    unfold Dsk.used at h2 hx ⊢
    show (((D.l.map fun g : Fil => if g.n = nm then { g with b := g.b ++ x, r := r } else g).map fun f : Fil => sect f.b.length + 1).sum : Int) ≤ D.room
    omega
  · intro y hy
    obtain ⟨z, hz, e1, _⟩ := mem y hy
    rw [e1]; exact h.size z hz
  · intro p hp
    have hp' : p ∈ D.line ∨ (p.1 = f.a ∧ p.2 < sect (f.b.length + x.length)) := by
      have hp2 : p ∈ (if x = [] then D.line else soilL D.line f.a (f.b.length / 16) (sect (f.b.length + x.length))) := hp
      split at hp2
      · exact .inl hp2
      · rcases (soilL_to _ _ _ _ h.nodup).2.1 p hp2 with h1 | ⟨h1, _, h2⟩
        · exact .inl h1
        · exact .inr ⟨h1, h2⟩
    rcases hp' with h1 | ⟨h1, h2⟩
    · obtain ⟨g, hg2, e1, e2⟩ := h.line p h1
      refine ⟨if g.n = nm then { g with b := g.b ++ x, r := r } else g, List.mem_map.2 ⟨g, hg2, rfl⟩, ?_, e2⟩
      split <;> exact e1
    · refine ⟨if f.n = nm then { f with b := f.b ++ x, r := r } else f, List.mem_map.2 ⟨f, hf, rfl⟩, ?_, ?_⟩
      · split <;> exact h1.symm
      · have h3 := sum_drop (fun f : Fil => sect f.b.length + 1) h.names hf ef
        have h4 := h.room1
        unfold Dsk.used at hx
        omega
theorem Dsk.Ok.rename (h : D.Ok) (nm tn : ByteArray) (hz : tn.size ≤ 40) : (D.rename nm tn).Ok := by
  unfold Dsk.rename
  split
  · exact h
  · rename_i hne
    cases hg : D.get nm with
    | none => exact h
    | some f =>
      obtain ⟨hf, ef⟩ := get_mem hg
      obtain ⟨hE, m1, m2⟩ := h.unlink tn
      have hfE : f ∈ (D.unlink tn).l := m2 f hf (by rw [ef]; exact hne)
      have mem : ∀ y ∈ ((D.unlink tn).l ++ [{ f with n := tn }]).filter (fun g : Fil => !decide (g.n = nm)), y.n ≠ nm ∧ (y ∈ (D.unlink tn).l ∨ y = { f with n := tn }) := fun y hy => by
        obtain ⟨h1, h2⟩ := List.mem_filter.1 hy
        refine ⟨by simpa using h2, ?_⟩
        rcases List.mem_append.1 h1 with h3 | h3
        · exact .inl h3
        · exact .inr (List.mem_singleton.1 h3)
      refine { hE with names := ?_, pages := ?_, rows := ?_, wr := ?_, nil := ?_, few := ?_, used := ?_, size := ?_, line := ?_ }
      · refine List.Pairwise.sublist (List.Sublist.map _ List.filter_sublist) ?_
        show (((D.unlink tn).l ++ [{ f with n := tn }]).map Fil.n).Nodup
        rw [List.map_append, List.nodup_append]
        refine ⟨hE.names, by simp, fun x hx y hy => ?_⟩
        obtain ⟨g, hg2, rfl⟩ := List.mem_map.1 hx
        simp at hy; subst hy
        exact (m1 g hg2).2
      · intro y hy z hz hyz
        obtain ⟨hyn, h1⟩ := mem y hy
        obtain ⟨hzn, h2⟩ := mem z hz
        rcases h1 with h1 | rfl <;> rcases h2 with h2 | rfl
        · exact hE.pages y h1 z h2 hyz
        · exact hE.pages y h1 f hfE (by rw [ef]; exact hyn)
        · exact hE.pages f hfE z h2 (by rw [ef]; exact fun e => hzn e.symm)
        · exact absurd rfl hyz
      · intro y hy z hz hyz
        obtain ⟨hyn, h1⟩ := mem y hy
        obtain ⟨hzn, h2⟩ := mem z hz
        rcases h1 with h1 | rfl <;> rcases h2 with h2 | rfl
        · exact hE.rows y h1 z h2 hyz
        · exact hE.rows y h1 f hfE (by rw [ef]; exact hyn)
        · exact hE.rows f hfE z h2 (by rw [ef]; exact fun e => hzn e.symm)
        · exact absurd rfl hyz
      · intro y hy
        rcases (mem y hy).2 with h1 | rfl
        · exact hE.wr y h1
        · exact hE.wr f hfE
      · intro y hy
        rcases (mem y hy).2 with h1 | rfl
        · exact hE.nil y h1
        · exact hE.nil f hfE
      · show (((D.unlink tn).l ++ [{ f with n := tn }]).filter (fun g : Fil => !decide (g.n = nm))).length ≤ 48
        have h1 := len_drop hE.names hfE ef
        have h2 := hE.few
        rw [List.filter_append, List.length_append]
        have h3 : ([{ f with n := tn }].filter (fun g : Fil => !decide (g.n = nm))).length ≤ 1 := List.length_filter_le _ _
        omega
      · have h1 := sum_drop (fun f : Fil => sect f.b.length + 1) hE.names hfE ef
        have h2 := hE.used
        unfold Dsk.used at h2
        show (((((D.unlink tn).l ++ [{ f with n := tn }]).filter (fun g : Fil => !decide (g.n = nm))).map fun f : Fil => sect f.b.length + 1).sum : Int) ≤ (D.unlink tn).room
        rw [List.filter_append, List.map_append, List.sum_append]
        have h3 : ((([{ f with n := tn }] : List Fil).filter (fun g : Fil => !decide (g.n = nm))).map fun f : Fil => sect f.b.length + 1).sum ≤ sect f.b.length + 1 := by
          rw [List.filter_cons]; split <;> simp
        omega
      · intro y hy
        rcases (mem y hy).2 with h1 | rfl
        · exact hE.size y h1
        · exact hz
      · intro p hp
        obtain ⟨g, hg2, e1, e2⟩ := hE.line p hp
        by_cases e : g.n = nm
        · have : g = f := fil_uniq hE.names hg2 hfE (e.trans ef.symm)
          subst this
          exact ⟨{ g with n := tn }, List.mem_filter.2 ⟨List.mem_append_right _ (List.mem_singleton.2 rfl), by simpa using fun e3 => hne e3.symm⟩, e1, e2⟩
        · exact ⟨g, List.mem_filter.2 ⟨List.mem_append_left _ hg2, by simpa using e⟩, e1, e2⟩
end
end Go.Proofs.Ytefndmjimmbhnaa
end

section
set_option linter.unusedVariables false
set_option linter.unusedSimpArgs false
namespace Go.Proofs.Ytefndmjimmbhnaa

section
variable {l : List Fil} {D : Dsk} {f : Fil} {nm x : ByteArray}
theorem find_filter_ne (l : List Fil) (h : x ≠ nm) : (l.filter fun g : Fil => !decide (g.n = nm)).find? (fun g : Fil => decide (g.n = x)) = l.find? fun g : Fil => decide (g.n = x) := by
  induction l with
  | nil => rfl
  | cons y l ih =>
    by_cases e : y.n = nm
    · rw [List.filter_cons_of_neg (by simp [e]), ih, List.find?_cons_of_neg (by rw [e]; simpa using fun e2 : nm = x => h e2.symm)]
    · rw [List.filter_cons_of_pos (by simpa using e)]
      by_cases e2 : y.n = x
      · rw [List.find?_cons_of_pos (by simpa using e2), List.find?_cons_of_pos (by simpa using e2)]
      · rw [List.find?_cons_of_neg (by simpa using e2), List.find?_cons_of_neg (by simpa using e2), ih]
theorem find_filter_eq (l : List Fil) : (l.filter fun g : Fil => !decide (g.n = nm)).find? (fun g : Fil => decide (g.n = nm)) = none :=
  List.find?_eq_none.2 fun g hg => by have := (List.mem_filter.1 hg).2; simpa using this
theorem get_unlink (h : x ≠ nm) : (D.unlink nm).get x = D.get x := by
  unfold Dsk.unlink
  cases hg : D.get nm with
  | none => rfl
  | some f => exact find_filter_ne D.l h
theorem get_unlink_same : (D.unlink nm).get nm = none := by
  unfold Dsk.unlink
  cases hg : D.get nm with
  | none => exact hg
  | some f => exact find_filter_eq D.l
theorem get_create (a : Nat) (h : x ≠ nm) : (D.create nm a).get x = D.get x := by
  have e := get_unlink (D := D) h
  unfold Dsk.get at e ⊢
  show ((D.unlink nm).l ++ _).find? _ = _
  rw [List.find?_append, e]
  rw [List.find?_cons_of_neg (by simpa using fun e2 : nm = x => h e2.symm), List.find?_nil, Option.or_none]
theorem get_create_same (a : Nat) : (D.create nm a).get nm = some ⟨nm, a, none, [], 0⟩ := by
  have e := get_unlink_same (D := D) (nm := nm)
  unfold Dsk.get at e ⊢
  show ((D.unlink nm).l ++ _).find? _ = _
  rw [List.find?_append, e, List.find?_cons_of_pos (by simp)]; rfl
theorem find_setF (l : List Fil) (h : Fil → Fil) (hn : ∀ f, (h f).n = f.n) : (l.map fun g : Fil => if g.n = nm then h g else g).find? (fun g : Fil => decide (g.n = x)) = (l.find? fun g : Fil => decide (g.n = x)).map fun g : Fil => if g.n = nm then h g else g := by
  induction l with
  | nil => rfl
  | cons y l ih =>
    rw [List.map_cons]
    have e0 : (if y.n = nm then h y else y).n = y.n := by split <;> simp [hn]
    by_cases e : y.n = x
    · rw [List.find?_cons_of_pos (by rw [e0]; simpa using e), List.find?_cons_of_pos (by simpa using e)]; rfl
    · rw [List.find?_cons_of_neg (by rw [e0]; simpa using e), List.find?_cons_of_neg (by simpa using e), ih]
theorem get_setF (h : Fil → Fil) (hn : ∀ f, (h f).n = f.n) : (D.setF nm h).get x = (D.get x).map fun g : Fil => if g.n = nm then h g else g := find_setF D.l h hn
theorem get_n (h : D.get nm = some f) : f.n = nm := (get_mem h).2
theorem get_sync (h : x ≠ nm) : (D.sync nm).get x = D.get x := by
  unfold Dsk.sync
  cases hg : D.get nm with
  | none => rfl
  | some f =>
    show (D.setF nm _).get x = _
    rw [get_setF (fun f : Fil => { f with wr := f.b.length }) (fun _ => rfl)]
    cases hx : D.get x with
    | none => rfl
    | some g => rw [Option.map_some, if_neg (by rw [get_n hx]; exact h)]
theorem get_sync_same (hg : D.get nm = some f) : (D.sync nm).get nm = some { f with wr := f.b.length } := by
  unfold Dsk.sync
  rw [hg]
  show (D.setF nm _).get nm = _
  rw [get_setF (fun f : Fil => { f with wr := f.b.length }) (fun _ => rfl), hg, Option.map_some, if_pos (get_n hg)]
theorem get_append (b : List UInt8) (r lr : Option Nat) (h : x ≠ nm) : (D.append nm b r lr).get x = D.get x := by
  unfold Dsk.append
  cases hg : D.get nm with
  | none => rfl
  | some f =>
    show (D.setF nm _).get x = _
    rw [get_setF (fun f : Fil => { f with b := f.b ++ b, r := r }) (fun _ => rfl)]
    cases hx : D.get x with
    | none => rfl
    | some g => rw [Option.map_some, if_neg (by rw [get_n hx]; exact h)]
theorem get_append_same (b : List UInt8) (r lr : Option Nat) (hg : D.get nm = some f) : (D.append nm b r lr).get nm = some { f with b := f.b ++ b, r := r } := by
  unfold Dsk.append
  rw [hg]
  show (D.setF nm _).get nm = _
  rw [get_setF (fun f : Fil => { f with b := f.b ++ b, r := r }) (fun _ => rfl), hg, Option.map_some, if_pos (get_n hg)]
theorem get_rename {tn : ByteArray} (hne : nm ≠ tn) (hg : D.get nm = some f) (h1 : x ≠ nm) (h2 : x ≠ tn) : (D.rename nm tn).get x = D.get x := by
  unfold Dsk.rename
  rw [if_neg hne, hg]
  have e := get_unlink (D := D) h2
  unfold Dsk.get at e ⊢
  show (((D.unlink tn).l ++ [{ f with n := tn }]).filter _).find? _ = _
  rw [find_filter_ne _ h1, List.find?_append, e, List.find?_cons_of_neg (by simpa using fun e2 : tn = x => h2 e2.symm), List.find?_nil, Option.or_none]
theorem get_rename_to {tn : ByteArray} (hne : nm ≠ tn) (hg : D.get nm = some f) : (D.rename nm tn).get tn = some { f with n := tn } := by
  unfold Dsk.rename
  rw [if_neg hne, hg]
  have e := get_unlink_same (D := D) (nm := tn)
  unfold Dsk.get at e ⊢
  show (((D.unlink tn).l ++ [{ f with n := tn }]).filter _).find? _ = _
  rw [find_filter_ne _ (fun e2 : tn = nm => hne e2.symm), List.find?_append, e, List.find?_cons_of_pos (by simp)]; rfl
theorem get_rename_from {tn : ByteArray} (hne : nm ≠ tn) (hg : D.get nm = some f) : (D.rename nm tn).get nm = none := by
  unfold Dsk.rename
  rw [if_neg hne, hg]
  exact find_filter_eq _
theorem find_map (l : List Fil) (h : Fil → Fil) (hn : ∀ f, (h f).n = f.n) : (l.map h).find? (fun g : Fil => decide (g.n = x)) = (l.find? fun g : Fil => decide (g.n = x)).map h := by
  induction l with
  | nil => rfl
  | cons y l ih =>
    rw [List.map_cons]
    by_cases e : y.n = x
    · rw [List.find?_cons_of_pos (by rw [hn]; simpa using e), List.find?_cons_of_pos (by simpa using e)]; rfl
    · rw [List.find?_cons_of_neg (by rw [hn]; simpa using e), List.find?_cons_of_neg (by simpa using e), ih]
theorem get_crash (keep : Int) : (D.crash keep).get x = (D.get x).map (crashF (takeLine D.line keep)) := find_map D.l _ (fun _ => rfl)
theorem takeLine_mem {line : List (Nat × Nat)} {keep : Int} {p : Nat × Nat} (h : p ∈ takeLine line keep) : p ∈ line := List.mem_of_mem_take h
/-- a file that is written whole, with no mark -/
structure Clean (D : Dsk) (f : Fil) : Prop where
  wr : f.wr = f.b.length
  no : ∀ p ∈ D.line, p.1 ≠ f.a
theorem get_crash_clean (keep : Int) (hg : D.get nm = some f) (hc : Clean D f) : (D.crash keep).get nm = some f := by
  rw [get_crash, hg, Option.map_some, crashF_clean _ _ hc.wr (fun p hp => hc.no p (takeLine_mem hp))]
end
end Go.Proofs.Ytefndmjimmbhnaa
end

section
set_option linter.unusedVariables false
namespace Go.Proofs.Ytefndmjimmbhnaa
section
variable {D D' : Dsk} {f g : Fil} {nm : ByteArray}
theorem Clean.sub (h : Clean D f) (hs : ∀ p ∈ D'.line, p ∈ D.line) : Clean D' f := ⟨h.wr, fun p hp => h.no p (hs p hp)⟩
theorem unlink_line (nm : ByteArray) : ∀ p ∈ (D.unlink nm).line, p ∈ D.line := by
  intro p hp
  unfold Dsk.unlink at hp
  cases hg : D.get nm with
  | none => rw [hg] at hp; exact hp
  | some f => rw [hg] at hp; exact (forgetL_mem.1 hp).1
theorem Clean.create (h : Clean D f) (nm : ByteArray) (a : Nat) : Clean (D.create nm a) f := h.sub (fun p hp => unlink_line nm p hp)
theorem Clean.sync (h : Clean D f) (nm : ByteArray) : Clean (D.sync nm) f := h.sub (fun p hp => by
  unfold Dsk.sync at hp
  cases hg : D.get nm with
  | none => rw [hg] at hp; exact hp
  | some f => rw [hg] at hp; exact (forgetL_mem.1 hp).1)
theorem Clean.append (h : Clean D f) (ok : D.Ok) (hg : D.get nm = some g) (hne : f.a ≠ g.a) (x : List UInt8) (r lr : Option Nat) : Clean (D.append nm x r lr) f := by
  refine ⟨h.wr, fun p hp => ?_⟩
  unfold Dsk.append at hp
  rw [hg] at hp
  have hp : p ∈ if x = [] then D.line else soilL D.line g.a (g.b.length / 16) (sect (g.b.length + x.length)) := hp
  split at hp
  · exact h.no p hp
  · rcases (soilL_to _ _ _ _ ok.nodup).2.1 p hp with h1 | ⟨h1, _⟩
    · exact h.no p h1
    · rw [h1]; exact fun e => hne e.symm
theorem sync_clean (hg : D.get nm = some f) : Clean (D.sync nm) { f with wr := f.b.length } := by
  refine ⟨rfl, fun p hp => ?_⟩
  unfold Dsk.sync at hp
  rw [hg] at hp
  exact (forgetL_mem.1 hp).2
theorem Clean.rename (h : Clean D f) (nm tn : ByteArray) : Clean (D.rename nm tn) f := h.sub (fun p hp => by
  unfold Dsk.rename at hp
  split at hp
  · exact hp
  · cases hg : D.get nm with
    | none => rw [hg] at hp; exact hp
    | some f => rw [hg] at hp; exact unlink_line tn p hp)
theorem Clean.tick (h : Clean D f) : Clean D.tick f := h.sub (fun p hp => hp)
theorem Clean.named (h : Clean D f) (tn : ByteArray) : Clean D { f with n := tn } := ⟨h.wr, h.no⟩
end
end Go.Proofs.Ytefndmjimmbhnaa
end

section
set_option linter.unusedVariables false
namespace Go.Proofs.Ytefndmjimmbhnaa
section
variable {D : Dsk} {f g : Fil} {nm fr : ByteArray} {o : Option (List UInt8)}
/-- these bytes are under this name, whole; or none -/
structure Holds (D : Dsk) (nm : ByteArray) (o : Option (List UInt8)) : Prop where
  b : (D.get nm).map Fil.b = o
  c : ∀ f, D.get nm = some f → Clean D f
theorem Holds.crash (h : Holds D nm o) (keep : Int) : Holds (D.crash keep) nm o := by
  cases hg : D.get nm with
  | none =>
    have e : (D.crash keep).get nm = none := by rw [get_crash, hg]; rfl
    refine ⟨by rw [e, ← h.b, hg], fun f hf => by rw [e] at hf; cases hf⟩
  | some g =>
    have e := get_crash_clean keep hg (h.c g hg)
    refine ⟨by rw [e, ← h.b, hg], fun f hf => ?_⟩
    rw [e] at hf
    injection hf with hf
    subst hf
    exact ⟨(h.c _ hg).wr, fun p hp => by cases hp⟩
theorem Holds.create (h : Holds D nm o) (hne : nm ≠ fr) (a : Nat) : Holds (D.create fr a) nm o :=
  ⟨by rw [get_create a hne]; exact h.b, fun f hf => (h.c f (by rw [get_create a hne] at hf; exact hf)).create fr a⟩
theorem Holds.sync (h : Holds D nm o) (hne : nm ≠ fr) : Holds (D.sync fr) nm o :=
  ⟨by rw [get_sync hne]; exact h.b, fun f hf => (h.c f (by rw [get_sync hne] at hf; exact hf)).sync fr⟩
theorem Holds.append (h : Holds D nm o) (ok : D.Ok) (hne : nm ≠ fr) (hg : D.get fr = some g) (x : List UInt8) (r lr : Option Nat) : Holds (D.append fr x r lr) nm o :=
  ⟨by rw [get_append x r lr hne]; exact h.b, fun f hf => by
    rw [get_append x r lr hne] at hf
    obtain ⟨h1, h2⟩ := get_mem hf
    obtain ⟨h3, h4⟩ := get_mem hg
    exact (h.c f hf).append ok hg (ok.pages f h1 g h3 (by rw [h2, h4]; exact hne)) x r lr⟩
theorem Holds.tick (h : Holds D nm o) : Holds D.tick nm o := ⟨h.b, fun f hf => (h.c f hf).tick⟩
theorem Holds.synced (hg : D.get fr = some g) : Holds (D.sync fr) fr (some g.b) :=
  ⟨by rw [get_sync_same hg]; rfl, fun f hf => by rw [get_sync_same hg] at hf; injection hf with hf; subst hf; exact sync_clean hg⟩
theorem Holds.renamed {x : List UInt8} (h : Holds D fr (some x)) (hne : fr ≠ nm) : Holds (D.rename fr nm) nm (some x) := by
  cases hg : D.get fr with
  | none => have := h.b; rw [hg] at this; cases this
  | some g =>
    have e := get_rename_to hne hg
    have hb := h.b
    rw [hg] at hb
    refine ⟨by rw [e]; exact hb, fun f hf => ?_⟩
    rw [e] at hf
    injection hf with hf
    subst hf
    exact ((h.c g hg).rename fr nm).named nm
end
end Go.Proofs.Ytefndmjimmbhnaa
end

section
set_option linter.unusedVariables false
namespace Go.Proofs.Ytefndmjimmbhnaa
section
variable {D : Dsk} {f g : Fil} {tn fr : ByteArray} {o : Option (List UInt8)} {x : List UInt8} {K : Nat} {R p k : Int} {dk : Bool}
/-- two files at most, of at most so many bytes -/
structure Pair (D : Dsk) (tn fr : ByteArray) (K : Nat) : Prop where
  names : ∀ f ∈ D.l, f.n = tn ∨ f.n = fr
  len : ∀ f ∈ D.l, f.b.length ≤ K
theorem Pair.count (ok : D.Ok) (h : Pair D tn fr K) : D.l.length ≤ 2 ∧ D.used ≤ 2 * (sect K + 1) := by
  have hn := ok.names
  have hs : ∀ f ∈ D.l, sect f.b.length ≤ sect K := fun f hf => sect_mono (h.len f hf)
  have hh := h.names
  unfold Dsk.used
  generalize D.l = l at *
  match l, hn, hs, hh with
  | [], _, _, _ => exact ⟨by simp, by simp⟩
  | [a], _, hs, _ =>
    have := hs a (by simp)
    exact ⟨by simp, by simp; omega⟩
  | [a, b], _, hs, _ =>
    have := hs a (by simp)
    have := hs b (by simp)
    exact ⟨by simp, by simp; omega⟩
  | a :: b :: c :: l, hn, _, hh =>
    exfalso
    have ha := hh a (by simp)
    have hb := hh b (by simp)
    have hc := hh c (by simp)
    simp only [List.map_cons, List.nodup_cons, List.mem_cons, not_or] at hn
    obtain ⟨⟨h1, h2, _⟩, ⟨h3, _⟩, _⟩ := hn
    rcases ha with ha | ha <;> rcases hb with hb | hb <;> rcases hc with hc | hc <;> simp_all
theorem Pair.crash (h : Pair D tn fr K) (kk : Int) : Pair (D.crash kk) tn fr K := by
  refine ⟨fun f hf => ?_, fun f hf => ?_⟩ <;> obtain ⟨g, hg, rfl⟩ := List.mem_map.1 hf
  · exact h.names g hg
  · have := h.len g hg
    show (g.b.take _).length ≤ K
    rw [List.length_take]; omega
theorem Pair.create (ok : D.Ok) (h : Pair D tn fr K) (a : Nat) : Pair (D.create fr a) tn fr K := by
  have m := (ok.unlink fr).2.1
  refine ⟨fun f hf => ?_, fun f hf => ?_⟩ <;> rcases List.mem_append.1 hf with h1 | h1
  · exact h.names f (m f h1).1
  · rw [List.mem_singleton.1 h1]; exact .inr rfl
  · exact h.len f (m f h1).1
  · rw [List.mem_singleton.1 h1]; exact Nat.zero_le _
theorem Pair.append (h : Pair D tn fr K) (hg : D.get fr = some g) (hx : g.b.length + x.length ≤ K) (r lr : Option Nat) (hk : (D.l.map Fil.n).Nodup) : Pair (D.append fr x r lr) tn fr K := by
  obtain ⟨hgm, hgn⟩ := get_mem hg
  have e : (D.append fr x r lr).l = D.l.map fun f : Fil => if f.n = fr then { f with b := f.b ++ x, r := r } else f := by unfold Dsk.append; rw [hg]; rfl
  refine ⟨fun f hf => ?_, fun f hf => ?_⟩ <;> rw [e] at hf <;> obtain ⟨f', hf', rfl⟩ := List.mem_map.1 hf
  · have := h.names f' hf'
    split <;> exact this
  · split
    · rename_i hn
      obtain rfl := fil_uniq hk hf' hgm (hn.trans hgn.symm)
      show (f'.b ++ x).length ≤ K
      rw [List.length_append]; exact hx
    · exact h.len f' hf'
theorem Pair.sync (h : Pair D tn fr K) (nm : ByteArray) : Pair (D.sync nm) tn fr K := by
  unfold Dsk.sync
  cases hg : D.get nm with
  | none => exact h
  | some g =>
    refine ⟨fun f hf => ?_, fun f hf => ?_⟩ <;> obtain ⟨f', hf', rfl⟩ := List.mem_map.1 hf
    · have := h.names f' hf'
      split <;> exact this
    · have := h.len f' hf'
      split <;> exact this
theorem Pair.rename (ok : D.Ok) (h : Pair D tn fr K) : Pair (D.rename fr tn) tn fr K := by
  unfold Dsk.rename
  split
  · exact h
  · cases hg : D.get fr with
    | none => exact h
    | some g =>
      have m := (ok.unlink tn).2.1
      have hl := h.len g (get_mem hg).1
      refine ⟨fun f hf => ?_, fun f hf => ?_⟩ <;> have hf := (List.mem_filter.1 hf).1 <;> rcases List.mem_append.1 hf with h1 | h1
      · exact h.names f (m f h1).1
      · rw [List.mem_singleton.1 h1]; exact .inl rfl
      · exact h.len f (m f h1).1
      · rw [List.mem_singleton.1 h1]; exact hl
/-- such a disk: its room, plan and keep, whether it is dark, and what stands under the name -/
structure Stg (D : Dsk) (tn fr : ByteArray) (K : Nat) (R p k : Int) (dk : Bool) (o : Option (List UInt8)) : Prop where
  pair : Pair D tn fr K
  room : D.room = R
  plan : D.plan = p
  keep : D.keep = k
  dark : D.dark = dk
  h : Holds D tn o
def less (p : Int) : Int := if 0 < p then p - 1 else p
theorem Stg.tick (h : Stg D tn fr K R p k dk o) : Stg D.tick tn fr K R (less p) k dk o :=
  ⟨⟨h.pair.names, h.pair.len⟩, h.room, by rw [← h.plan]; rfl, h.keep, h.dark, h.h.tick⟩
theorem Stg.crash (h : Stg D tn fr K R p k dk o) (kk : Int) : Stg (D.crash kk) tn fr K R p k true o :=
  ⟨h.pair.crash kk, h.room, h.plan, h.keep, rfl, h.h.crash kk⟩
theorem unlink_same (D : Dsk) (nm : ByteArray) : (D.unlink nm).room = D.room ∧ (D.unlink nm).plan = D.plan ∧ (D.unlink nm).keep = D.keep ∧ (D.unlink nm).dark = D.dark := by
  unfold Dsk.unlink; split <;> exact ⟨rfl, rfl, rfl, rfl⟩
theorem Stg.create (ok : D.Ok) (hne : tn ≠ fr) (h : Stg D tn fr K R p k dk o) (a : Nat) : Stg (D.create fr a) tn fr K R p k dk o := by
  obtain ⟨e1, e2, e3, e4⟩ := unlink_same D fr
  exact ⟨h.pair.create ok a, e1.trans h.room, e2.trans h.plan, e3.trans h.keep, e4.trans h.dark, h.h.create hne a⟩
theorem Stg.append (ok : D.Ok) (hne : tn ≠ fr) (h : Stg D tn fr K R p k dk o) (hg : D.get fr = some g) (hx : g.b.length + x.length ≤ K) (r lr : Option Nat) : Stg (D.append fr x r lr) tn fr K R p k dk o := by
  have e : (D.append fr x r lr).room = D.room ∧ (D.append fr x r lr).plan = D.plan ∧ (D.append fr x r lr).keep = D.keep ∧ (D.append fr x r lr).dark = D.dark := by unfold Dsk.append; rw [hg]; exact ⟨rfl, rfl, rfl, rfl⟩
  obtain ⟨e1, e2, e3, e4⟩ := e
  exact ⟨h.pair.append hg hx r lr ok.names, e1.trans h.room, e2.trans h.plan, e3.trans h.keep, e4.trans h.dark, h.h.append ok hne hg x r lr⟩
theorem Stg.sync (hne : tn ≠ fr) (h : Stg D tn fr K R p k dk o) : Stg (D.sync fr) tn fr K R p k dk o := by
  have e : (D.sync fr).room = D.room ∧ (D.sync fr).plan = D.plan ∧ (D.sync fr).keep = D.keep ∧ (D.sync fr).dark = D.dark := by unfold Dsk.sync; split <;> exact ⟨rfl, rfl, rfl, rfl⟩
  obtain ⟨e1, e2, e3, e4⟩ := e
  exact ⟨h.pair.sync fr, e1.trans h.room, e2.trans h.plan, e3.trans h.keep, e4.trans h.dark, h.h.sync hne⟩
theorem Stg.rename (ok : D.Ok) (hne : tn ≠ fr) (h : Stg D tn fr K R p k dk o) (hx : Holds D fr (some x)) : Stg (D.rename fr tn) tn fr K R p k dk (some x) := by
  have e : (D.rename fr tn).room = D.room ∧ (D.rename fr tn).plan = D.plan ∧ (D.rename fr tn).keep = D.keep ∧ (D.rename fr tn).dark = D.dark := by
    unfold Dsk.rename
    obtain ⟨e1, e2, e3, e4⟩ := unlink_same D tn
    split
    · exact ⟨rfl, rfl, rfl, rfl⟩
    · split
      · exact ⟨rfl, rfl, rfl, rfl⟩
      · exact ⟨e1, e2, e3, e4⟩
  obtain ⟨e1, e2, e3, e4⟩ := e
  exact ⟨h.pair.rename ok, e1.trans h.room, e2.trans h.plan, e3.trans h.keep, e4.trans h.dark, hx.renamed (fun e => hne e.symm)⟩
theorem Stg.start (h : Stg D tn fr K R p k dk o) : Stg { D with dark := false, plan := 0 } tn fr K R 0 k false o :=
  ⟨⟨h.pair.names, h.pair.len⟩, h.room, rfl, h.keep, rfl, ⟨h.h.b, fun f hf => ⟨(h.h.c f hf).wr, (h.h.c f hf).no⟩⟩⟩
theorem Stg.arm (h : Stg D tn fr K R p k dk o) (n kk : Int) : Stg { D with plan := n, keep := kk } tn fr K R n kk dk o :=
  ⟨⟨h.pair.names, h.pair.len⟩, h.room, rfl, rfl, h.dark, ⟨h.h.b, fun f hf => ⟨(h.h.c f hf).wr, (h.h.c f hf).no⟩⟩⟩
end
end Go.Proofs.Ytefndmjimmbhnaa
end
