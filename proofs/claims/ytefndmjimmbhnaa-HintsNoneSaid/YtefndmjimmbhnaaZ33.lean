/- Contract of the disk's Crash. No condition but what a disk is. Contract of the disk's Crash: the walk. No condition but what a disk is. Contract of the disk's perform over any two closures. No condition but what a disk is. -/
import Derived.Test.YtefndmjimmbhnaaZ32
section
set_option linter.unusedVariables false
set_option linter.unusedSimpArgs false
set_option maxRecDepth 50000
namespace Go.Proofs.Ytefndmjimmbhnaa
open Go.RowKit Go.Shelf

def Dsk.mapl (D : Dsk) (h : Fil → Fil) : Dsk := { D with l := D.l.map h }
structure KeepsN (h : Fil → Fil) : Prop where
  n : ∀ f, (h f).n = f.n
  a : ∀ f, (h f).a = f.a
  r : ∀ f, (h f).r = f.r
theorem mapl_mem {D : Dsk} {h : Fil → Fil} {g : Fil} (hg : g ∈ (D.mapl h).l) : ∃ f ∈ D.l, g = h f := by
  obtain ⟨f, hf, e⟩ := List.mem_map.1 hg; exact ⟨f, hf, e.symm⟩
theorem mapl_ok {D : Dsk} (o : D.Ok) {h : Fil → Fil} (hk : KeepsN h) (hwr : ∀ f ∈ D.l, (h f).wr ≤ (h f).b.length) (hb : ∀ f ∈ D.l, ∃ k, (h f).b = f.b.take k) : (D.mapl h).Ok := by
  have hlen : ∀ f ∈ D.l, (h f).b.length ≤ f.b.length := fun f hf => by obtain ⟨k, e⟩ := hb f hf; rw [e, List.length_take]; omega
  refine { o with names := ?_, pages := ?_, rows := ?_, wr := ?_, nil := ?_, few := ?_, used := ?_, size := ?_, line := ?_ }
  · show ((D.l.map h).map Fil.n).Nodup
    rw [List.map_map, show (Fil.n ∘ h) = Fil.n from funext hk.n]; exact o.names
  · intro f hf g hg hne
    obtain ⟨f', hf', rfl⟩ := mapl_mem hf
    obtain ⟨g', hg', rfl⟩ := mapl_mem hg
    rw [hk.a, hk.a]; exact o.pages f' hf' g' hg' (by rwa [hk.n, hk.n] at hne)
  · intro f hf g hg hne
    obtain ⟨f', hf', rfl⟩ := mapl_mem hf
    obtain ⟨g', hg', rfl⟩ := mapl_mem hg
    rw [hk.r, hk.r]; exact o.rows f' hf' g' hg' (by rwa [hk.n, hk.n] at hne)
  · intro f hf
    obtain ⟨f', hf', rfl⟩ := mapl_mem hf
    exact hwr f' hf'
  · intro f hf e
    obtain ⟨f', hf', rfl⟩ := mapl_mem hf
    obtain ⟨k, e2⟩ := hb f' hf'
    rw [e2, o.nil f' hf' (by rwa [hk.r] at e)]; simp
  · show (D.l.map h).length ≤ 48
    rw [List.length_map]; exact o.few
  · exact Int.le_trans (Int.ofNat_le.2 (sum_le (fun f : Fil => sect f.b.length + 1) h fun f hf => Nat.add_le_add_right (sect_mono (hlen f hf)) 1)) o.used
  · intro f hf
    obtain ⟨f', hf', rfl⟩ := mapl_mem hf
    rw [hk.n]; exact o.size f' hf'
  · intro p hp
    obtain ⟨f, hf, e1, e2⟩ := o.line p hp
    exact ⟨h f, List.mem_map.2 ⟨f, hf, rfl⟩, by rw [hk.a]; exact e1, e2⟩
/-- one page is written -/
theorem Mv.page {D : Dsk} {h h' : Fil → Fil} {w W1 : World} (hd : DiskW w (D.mapl h)) (hk : KeepsN h) (hk' : KeepsN h') {f : Fil} (hf : f ∈ D.l) (hB : But (· = f.a) w W1) (hne : ∀ g ∈ D.l, g.n ≠ f.n → h' g = h g) (hpg : PgW W1 (h' f)) (ok : (D.mapl h').Ok) (ok0 : D.Ok) : Mv w (D.mapl h) W1 (D.mapl h') := by
  have dd := hd.dist
  have hfm : h f ∈ (D.mapl h).l := List.mem_map.2 ⟨f, hf, rfl⟩
  have ha : (h f).a = f.a := hk.a f
  refine Mv.mk' hB (fun k hk2 => .inr (.inr (.inr ⟨h f, hfm, .inl (by rw [ha]; exact hk2)⟩))) rfl ?_ ?_ (fun g hg => ?_) ok (fun k hk2 => .inl ?_)
  · exact MainW.but (D := D.mapl h) hd.main hB (fun e => dd.da (h f) hfm (by rw [ha]; exact e.symm)) (fun k e e2 => dd.la (h f) hfm (by rw [e, ha]; congr 1))
  · have e : ((D.mapl h').l.map fun f => (f.n, f.a)) = (D.mapl h).l.map fun f => (f.n, f.a) := by
      show ((D.l.map h').map _) = ((D.l.map h).map _)
      rw [List.map_map, List.map_map]
      refine List.map_congr_left fun g _ => ?_
      show ((h' g).n, (h' g).a) = ((h g).n, (h g).a)
      rw [hk.n, hk.a, hk'.n, hk'.a]
    rw [e]
    exact hd.mp.but hB (fun e => dd.ma (h f) hfm (by rw [ha]; exact e.symm))
  · obtain ⟨g', hg', rfl⟩ := mapl_mem hg
    by_cases e : g'.n = f.n
    · rw [fil_uniq ok0.names hg' hf e]; exact hpg
    · rw [hne g' hg' e]
      have hgm : h g' ∈ (D.mapl h).l := List.mem_map.2 ⟨g', hg', rfl⟩
      exact (hd.pg (h g') hgm).but hB (by rw [hk.a]; exact ok0.pages g' hg' f hf e) (fun k e2 e3 => dd.ar (h g') hgm (h f) hfm (by rw [e2, ha]; congr 1))
  · rcases hk2 with hk2 | hk2 | hk2 | ⟨g, hg, hk2⟩
    · exact .inl hk2
    · exact .inr (.inl hk2)
    · exact .inr (.inr (.inl hk2))
    · obtain ⟨g', hg', rfl⟩ := mapl_mem hg
      refine .inr (.inr (.inr ⟨h g', List.mem_map.2 ⟨g', hg', rfl⟩, ?_⟩))
      rw [hk.a, hk.r]
      rwa [hk'.a, hk'.r] at hk2
theorem El.sizeY {α : Type} (E : El α) (w : World) : (Go.sizeOf (Try.prog.elem E.st)).run Try.prog w = .ok E.size w := by
  obtain ⟨i0, hi, hz0, hz1, hz2⟩ := info_parts E.info
  rw [E.elem]
  simp [Go.sizeOf, typeInfo, hi, hz1]
theorem head_run {α : Type} (E : El α) (a : Option Addr) (n c k : Nat) (hk : k ≤ c) (W : World) (h0 : ∀ ad, a = some ad → ad.add 0 = ad) :
    (Instr.slice E.st (.slice a n c) none (some (.int .i64 (k : Int))) none).run Try.prog W = .ok (.slice a k c) W := by
  rw [run_slice_h W _ _ _ _ (by rw [E.elem]; exact E.und) .i64 _ (by omega) (by omega), El.sizeY]
  simp only [Result.andThen, sliced, Int.toNat_natCast, Nat.zero_mul, Nat.sub_zero]
  split
  · rfl
  · cases a with
    | none => rfl
    | some ad => simp [h0 ad rfl]
theorem row_head_run {α : Type} (E : El α) (r : Option Nat) (n c k : Nat) (hk : k ≤ c) (W : World) : (Instr.slice E.st (rowV r n c) none (some (.int .i64 (k : Int))) none).run Try.prog W = .ok (rowV r k c) W :=
  head_run E _ n c k hk W (fun ad e => by
    cases r with
    | none => cases e
    | some g => injection e with e; subst e; rw [add0])
def h1F (line : List (Nat × Nat)) (i : Nat) (f : Fil) : Fil := { f with wr := wrOf (line.take i) f.a f.b.length f.wr }
theorem h1F_keeps (line : List (Nat × Nat)) (i : Nat) : KeepsN (h1F line i) := ⟨fun _ => rfl, fun _ => rfl, fun _ => rfl⟩
theorem h1F_zero (D : Dsk) : D.mapl (h1F D.line 0) = D := by
  have : D.l.map (h1F D.line 0) = D.l := by
    conv => rhs; rw [← List.map_id D.l]
    refine List.map_congr_left fun f _ => ?_
    unfold h1F; rw [List.take_zero]; rfl
  unfold Dsk.mapl; rw [this]
theorem h1F_succ (line : List (Nat × Nat)) (i : Nat) (hi : i < line.length) (f : Fil) : h1F line (i + 1) f = if line[i].1 = f.a then { f with wr := min ((line[i].2 + 1) * 16) f.b.length } else h1F line i f := by
  unfold h1F wrOf
  rw [List.take_succ_eq_append_getElem hi, List.foldl_append]
  simp only [List.foldl_cons, List.foldl_nil]
  split <;> rfl
theorem h1F_ok {D : Dsk} (o : D.Ok) (i : Nat) : (D.mapl (h1F D.line i)).Ok :=
  mapl_ok o (h1F_keeps _ _) (fun f hf => wrOf_le _ _ _ _ (o.wr f hf)) (fun f hf => ⟨f.b.length, List.take_length.symm⟩)
def h2F (ms : List (Nat × Nat)) (left : List (ByteArray × Nat)) (f : Fil) : Fil := if (left.any fun p => decide (p.1 = f.n)) = true then { f with wr := wrOf ms f.a f.b.length f.wr } else crashF ms f
theorem h2F_keeps (ms : List (Nat × Nat)) (left : List (ByteArray × Nat)) : KeepsN (h2F ms left) := by
  refine ⟨fun f => ?_, fun f => ?_, fun f => ?_⟩ <;> (unfold h2F; split <;> rfl)
theorem h2F_ok {D : Dsk} (o : D.Ok) (ms : List (Nat × Nat)) (left : List (ByteArray × Nat)) : (D.mapl (h2F ms left)).Ok := by
  refine mapl_ok o (h2F_keeps _ _) (fun f hf => ?_) (fun f hf => ?_)
  · unfold h2F; split
    · exact wrOf_le _ _ _ _ (o.wr f hf)
    · rw [(crashF_len ms f (o.wr f hf)).1]; exact Nat.le_refl _
  · unfold h2F; split
    · exact ⟨f.b.length, List.take_length.symm⟩
    · exact ⟨_, rfl⟩
end Go.Proofs.Ytefndmjimmbhnaa
end

section
set_option linter.unusedVariables false
set_option linter.unusedSimpArgs false
set_option maxRecDepth 50000
namespace Go.Proofs.Ytefndmjimmbhnaa
open Go.RowKit Go.Shelf

theorem takeLine_min (line : List (Nat × Nat)) (k : Int) : takeLine line k = line.take (min k.toNat line.length) := by
  unfold takeLine
  rcases Nat.le_total k.toNat line.length with h | h
  · rw [Nat.min_eq_left h]
  · rw [Nat.min_eq_right h, List.take_of_length_le h, List.take_length]
theorem mapl_foot {D : Dsk} {h : Fil → Fil} (hk : KeepsN h) {k : Nat} (hf : (D.mapl h).foot k) : D.foot k := by
  rcases hf with hf | hf | hf | ⟨g, hg, hf⟩
  · exact .inl hf
  · exact .inr (.inl hf)
  · exact .inr (.inr (.inl hf))
  · obtain ⟨g', hg', rfl⟩ := mapl_mem hg
    rw [hk.a, hk.r] at hf
    exact .inr (.inr (.inr ⟨g', hg', hf⟩))
theorem mapl_ent {D : Dsk} {h : Fil → Fil} (hk : KeepsN h) : ((D.mapl h).l.map fun f => (f.n, f.a)) = D.l.map fun f => (f.n, f.a) := by
  show ((D.l.map h).map _) = _
  rw [List.map_map]
  refine List.map_congr_left fun g _ => ?_
  show ((h g).n, (h g).a) = (g.n, g.a)
  rw [hk.n, hk.a]
theorem DiskW.but {S : Nat → Prop} {w W1 : World} {D : Dsk} (h : DiskW w D) (hb : But S w W1) (hS : ∀ k, D.foot k → ¬ S k) : DiskW W1 D :=
  ⟨MainW.but (D := D) h.main hb (hS _ (.inl rfl)) (fun k e => hS k (.inr (.inr (.inl e)))), h.mp.but hb (hS _ (.inr (.inl rfl))), fun f hf => (h.pg f hf).but hb (hS _ (.inr (.inr (.inr ⟨f, hf, .inl rfl⟩)))) (fun k e => hS k (.inr (.inr (.inr ⟨f, hf, .inr e⟩)))), h.ok⟩
/-- something aside is turned -/
theorem Mv.aside {S : Nat → Prop} {w W W1 : World} {D D' : Dsk} (h : Mv w D W D') (hb : But S W W1) (hn : ∀ k, S k → w.heap.size ≤ k) (hS : ∀ k, D'.foot k → ¬ S k) : Mv w D W1 D' :=
  ⟨h.dw.but hb hS, ⟨hb.os.trans h.but.os, hb.tape.trans h.but.tape, hb.output.trans h.but.output, Nat.le_trans h.but.size hb.size, fun k hk hf => (hb.block k (Nat.lt_of_lt_of_le hk h.but.size) (fun e => by have := hn k e; omega)).trans (h.but.block k hk hf)⟩, h.foot, h.d⟩
/-- one mark is written -/
theorem Mv.mark {w W W1 : World} {D : Dsk} {i : Nat} (hi : i < D.line.length) (ok : D.Ok) (h : Mv w D W (D.mapl (h1F D.line i))) {f : Fil} (hf : f ∈ D.l) (ha : f.a = D.line[i].1) (hB : But (· = f.a) W W1)
    (hp : ∃ c, Blk W1 f.a 86 #[rowV f.r f.b.length c, .int .i64 ((min ((D.line[i].2 + 1) * 16) f.b.length : Nat) : Int)] ∧ OwnB W 0 (rowV f.r f.b.length c) f.b) : Mv w D W1 (D.mapl (h1F D.line (i + 1))) := by
  refine h.trans (Mv.page h.dw (h1F_keeps _ _) (h1F_keeps _ _) hf hB (fun g hg hne => ?_) ?_ (h1F_ok ok _) ok)
  · rw [h1F_succ _ _ hi, if_neg]
    rw [← ha]; exact fun e => ok.pages g hg f hf hne e.symm
  · obtain ⟨c, hb, ho⟩ := hp
    have hfm : h1F D.line i f ∈ (D.mapl (h1F D.line i)).l := List.mem_map.2 ⟨f, hf, rfl⟩
    have hr := h.dw.dist.ar _ hfm _ hfm
    rw [h1F_succ _ _ hi, if_pos ha.symm]
    exact ⟨c, hb, ownB_but ho hB (by rw [rowV_own]; exact fun k e e2 => hr (by show f.r = some f.a; rw [e, e2]))⟩
theorem own_cut {w : World} {r : Option Nat} {b : List UInt8} {c n : Nat} (ho : OwnB w 0 (rowV r b.length c) b) (hn : n ≤ b.length) : OwnB w 0 (rowV r n c) (b.take n) := by
  cases r with
  | some g => exact own_eB.1 (OwnX.cut (own_eB.2 ho) hn)
  | none =>
    rcases (own_eB.2 ho).2 with ⟨h, h0⟩ | ⟨g, cap, cur, h, _⟩
    · have hb : b = [] := List.eq_nil_of_length_eq_zero h0
      subst hb
      obtain rfl : n = 0 := by simpa using hn
      exact ho
    · cases h
theorem PgW.cutTo {w : World} {f : Fil} {c n : Nat} (hb : Blk w f.a 86 #[rowV f.r f.b.length c, .int .i64 (n : Int)]) (ho : OwnB w 0 (rowV f.r f.b.length c) f.b) (hn : n ≤ f.b.length) (hne : f.r ≠ some f.a) : PgW ((w.drew).setCell ⟨f.a, 0, none⟩ (rowV f.r n c)) { f with b := f.b.take n, wr := n } := by
  have e : (f.b.take n).length = n := by rw [List.length_take]; omega
  refine ⟨c, ?_, ?_⟩
  · show Blk _ f.a _ #[rowV f.r (f.b.take n).length c, .int .i64 (n : Int)]
    rw [e]; exact hb.drew.put 0 _
  · show OwnB _ 0 (rowV f.r (f.b.take n).length c) (f.b.take n)
    rw [e]
    exact ownB_but (own_cut ho hn) ((But.refl (· = f.a) w).drew.trans (But.put _ f.a 0 _)) (by rw [rowV_own]; exact fun k e e2 => hne (by rw [e, e2]))
theorem h2F_in {ms : List (Nat × Nat)} {left : List (ByteArray × Nat)} {f : Fil} (h : (f.n, f.a) ∈ left) : h2F ms left f = { f with wr := wrOf ms f.a f.b.length f.wr } := by
  unfold h2F; rw [if_pos (List.any_eq_true.2 ⟨(f.n, f.a), h, by simp⟩)]
theorem ownB_cap {w : World} {base : Nat} {r : Option Nat} {b : List UInt8} {n c : Nat} (ho : OwnB w base (rowV r n c) b) : n ≤ c := by
  rcases (own_eB.2 ho).2 with ⟨e, h0⟩ | ⟨g, cap, cur, e, _, _, h3, _⟩
  · unfold rowV at e; simp only [Value.slice.injEq] at e; omega
  · unfold rowV at e; simp only [Value.slice.injEq] at e; omega
theorem h2F_start (D : Dsk) (ms : List (Nat × Nat)) (i : Nat) (h : D.line.take i = ms) : D.mapl (h2F ms (D.l.map fun f => (f.n, f.a))) = D.mapl (h1F D.line i) := by
  have : D.l.map (h2F ms (D.l.map fun f => (f.n, f.a))) = D.l.map (h1F D.line i) := by
    refine List.map_congr_left fun f hf => ?_
    unfold h2F h1F
    rw [if_pos (List.any_eq_true.2 ⟨(f.n, f.a), List.mem_map.2 ⟨f, hf, rfl⟩, by simp⟩), h]
  unfold Dsk.mapl; rw [this]
theorem h2F_end (D : Dsk) (k : Int) : ({ D.mapl (h2F (takeLine D.line k) []) with line := [], lr := none, dark := true } : Dsk) = D.crash k := by
  have : D.l.map (h2F (takeLine D.line k) []) = D.l.map (crashF (takeLine D.line k)) := List.map_congr_left fun f hf => by
    unfold h2F; rw [if_neg (by simp)]
  unfold Dsk.mapl Dsk.crash; rw [this]
/-- one page is cut -/
theorem Mv.cutP {w W W1 : World} {D : Dsk} {ms : List (Nat × Nat)} {left : List (ByteArray × Nat)} (ok : D.Ok) (h : Mv w D W (D.mapl (h2F ms left))) {f : Fil} (hf : f ∈ D.l) (hB : But (· = f.a) W W1)
    (hp : PgW W1 (crashF ms f)) : Mv w D W1 (D.mapl (h2F ms (left.filter fun q => !decide (q.1 = f.n)))) := by
  refine h.trans (Mv.page h.dw (h2F_keeps _ _) (h2F_keeps _ _) hf hB (fun g hg hne => ?_) ?_ (h2F_ok ok _ _) ok)
  · unfold h2F
    have e : ((left.filter fun q => !decide (q.1 = f.n)).any fun p => decide (p.1 = g.n)) = left.any fun p => decide (p.1 = g.n) := by
      rw [Bool.eq_iff_iff, List.any_eq_true, List.any_eq_true]
      constructor
      · rintro ⟨p, hp, e⟩; exact ⟨p, (List.mem_filter.1 hp).1, e⟩
      · rintro ⟨p, hp, e⟩
        refine ⟨p, List.mem_filter.2 ⟨hp, ?_⟩, e⟩
        have e := of_decide_eq_true e
        simp [e, hne]
    rw [e]
  · have e : h2F ms (left.filter fun q => !decide (q.1 = f.n)) f = crashF ms f := by
      unfold h2F
      rw [if_neg]
      rw [List.any_eq_true]
      rintro ⟨p, hp, e⟩
      have h1 := (List.mem_filter.1 hp).2
      rw [e] at h1; cases h1
    rw [e]; exact hp
set_option maxHeartbeats 4000000 in
theorem crash_any (D : Dsk) (k : Int) (w : World) (h : DiskW w D) (hd : D.dark = false) :
    Calls Try.prog 14 #[ptrV D.d, .int .i64 k] w fun e w' => e = .returned (.tuple #[]) ∧ Mv w D w' (D.crash k) := by
  have ON := Lib.hid (on_any D w h)
  rw [hd] at ON
  obtain ⟨K, hK⟩ : ∃ K, min k.toNat D.line.length = K := ⟨_, rfl⟩
  have TL := Lib.hid (show takeLine D.line k = D.line.take K by rw [takeLine_min, hK])
  have HKL := Lib.hid (show K ≤ D.line.length by omega)
  have HH := Lib.hid h
  have OK := Lib.hid h.ok
  obtain ⟨kk, m1⟩ : ∃ x : Int, (if k < 0 then 0 else k) = x := ⟨_, rfl⟩
  have m2 : (if (D.line.length : Int) < kk then (D.line.length : Int) else kk) = (K : Int) := by
    rw [← m1, ← hK]
    repeat (first | omega | split)
  have M1 := Lib.hid m1
  have M2 := Lib.hid m2
  clear h hd m1 m2 hK
  simp only [ptrV] at *
  go_enter Try.func14, Try.ntmps14
  go_wp2_with fail
  refine ON.out.mono ?_
  rintro e w1 ⟨rfl, hb1⟩
  have HB1 := Lib.hid hb1
  have D1 := HH.out.below (Below.drew hb1)
  have D1b := HH.out.below hb1
  obtain ⟨ops, lc, hm, hrow⟩ := D1b.main
  have c2 := hm.cell 2 rfl
  have hcap : D.line.length ≤ lc := by
    rcases hrow.2 with ⟨e, h0⟩ | ⟨g, cap, cur, e, _, _, h3, _⟩
    · omega
    · unfold rowV at e; simp only [Value.slice.injEq] at e; omega
  have SR := fun W => row_head_run eM D.lr D.line.length lc K (by have := HKL.out; omega) W
  have SR2 : ∀ W, (Instr.slice 66 (rowV D.lr D.line.length lc) none (some (.int .i64 (K : Int))) none).run Try.prog W = .ok (rowV D.lr K lc) W := SR
  have m1 := M1.out; have m2 := M2.out
  have ST := Lib.hid (show Mv w D w1.drew (D.mapl (h1F D.line 0)) by rw [h1F_zero]; exact Mv.refl HH.out (Below.drew hb1))
  clear hm hrow SR D1 D1b hb1 ON hcap
  simp only [rowV] at *
  go_wp2_with fail
  go_region
  clear SR2 m1 m2 c2 M1 M2
  go_wp2_with fail
  generalize w1.drew = W0 at *
  go_loopw [5, 25] (fun _ v25 wr => ∃ i : Nat, v25 = .int .i64 (i : Int) ∧ Hid (i ≤ K) ∧ Hid (Mv w D wr (D.mapl (h1F D.line i)))) (fun _ v25 _ => K - (intOf v25).toNat)
  case atStart => exact ⟨0, rfl, Lib.hid (Nat.zero_le _), ST⟩
  case round =>
    obtain ⟨i, rfl, HI, HM⟩ := hrel
    by_cases hlt : i < K
    · have hz : (i : Int) < (K : Int) := by omega
      have hil : i < D.line.length := Nat.lt_of_lt_of_le hlt HKL.out
      obtain ⟨gl, hgl⟩ : ∃ g, D.lr = some g := by
        cases e : D.lr with
        | none => have := OK.out.lnil e; rw [this] at hil; simp at hil
        | some g => exact ⟨g, rfl⟩
      obtain ⟨opsr, lcr, _, hrr⟩ := HM.out.dw.main
      have hrr2 : OwnX eM wr 0 (rowV (some gl) D.line.length lcr) D.line := by rw [← hgl]; exact hrr
      have duo := OwnX.duo hrr2 i hil
      obtain ⟨f, hf, hfa, hfn⟩ := OK.out.line D.line[i] (List.getElem_mem hil)
      obtain ⟨pn, hpn⟩ : ∃ n, D.line[i].2 = n := ⟨_, rfl⟩
      have hfm : h1F D.line i f ∈ (D.mapl (h1F D.line i)).l := List.mem_map.2 ⟨f, hf, rfl⟩
      obtain ⟨c, hpb, hpo⟩ := (HM.out.dw.pg _ hfm).ex
      have c0 := duo.c0; have c1 := duo.c1
      rw [← hfa] at c0
      rw [hpn] at c1
      have kb := Blk.new wr 84 #[ptrV f.a, .int .i64 (pn : Int)]
      have B1 := below_alloc (Below.refl _ wr) (.cells #[ptrV f.a, .int .i64 (pn : Int)] 84)
      have k0 := kb.cell 0 rfl; have k1 := kb.cell 1 rfl
      have pgB := (show Blk wr f.a 86 #[rowV f.r f.b.length c, .int .i64 (wrOf (D.line.take i) f.a f.b.length f.wr : Int)] from hpb).below B1
      have p0 := pgB.cell 0 rfl; have p1 := pgB.cell 1 rfl; have fz := pgB.frozen 1
      have hlen := size_len OK.out hf
      rw [hpn] at hfn
      have q1 : wrap64 ((pn : Int) + 1) = (pn : Int) + 1 := by unfold wrap64; omega
      have q2 : wrap64 (((pn : Int) + 1) * 16) = ((pn : Int) + 1) * 16 := by unfold wrap64; omega
      have q3 : (if (f.b.length : Int) < ((pn : Int) + 1) * 16 then (f.b.length : Int) else ((pn : Int) + 1) * 16) = ((min ((pn + 1) * 16) f.b.length : Nat) : Int) := by split <;> omega
      have Q4 := Lib.hid (show wrap64 ((i : Int) + 1) = (i : Int) + 1 by have : D.line.length ≤ 9223372036854775807 := own_len hrr; have := HKL.out; unfold wrap64; omega)
      have FIN := Lib.hid (Mv.mark hil OK.out HM.out hf hfa ((But.of_below (· = f.a) B1).drew.trans (But.put _ f.a 1 (.int .i64 ((min ((pn + 1) * 16) f.b.length : Nat) : Int)))) ⟨c, by rw [hpn]; exact pgB.drew.put 1 _, hpo⟩)
      rw [hgl]
      simp only [ptrV, rowV] at *
      clear duo hrr hrr2 hf hfa hfn hpb hpo kb pgB hlen hpn hfm hgl B1
      go_wp2_with fail
      generalize wr.alloc (.cells #[.pointer (some ⟨f.a, 0, none⟩), .int .i64 (pn : Int)] 84) = W2 at *
      go_region
      clear c0 c1 k0 k1 p0 p1 fz q1 q2 q3
      go_wp2_with fail
      rw [Q4.out]
      exact ⟨⟨i + 1, rfl, Lib.hid hlt, FIN⟩, by show K - ((i : Int) + 1).toNat < K - ((i : Int)).toNat; omega⟩
    · obtain rfl : i = K := Nat.le_antisymm HI.out (Nat.le_of_not_lt hlt)
      have hz : ¬ (i : Int) < (i : Int) := by omega
      obtain ⟨ops2, lc2, hm2, _⟩ := HM.out.dw.main
      have e1 : wr.cell? ⟨D.d, 1, none⟩ = some (.map (some D.m)) := hm2.cell 1 rfl
      have hmp : MapS wr D.m (D.l.map fun f => (f.n, f.a)) := by rw [← mapl_ent (h1F_keeps D.line i)]; exact HM.out.dw.mp
      obtain ⟨w0, hrange, hR0, hB0⟩ := Rng.start hmp
      have HR0 := Lib.hid hR0
      have SZ := Lib.hid HM.out.but.size
      obtain ⟨r0, hr0⟩ : ∃ r, wr.heap.size = r := ⟨_, rfl⟩
      rw [hr0] at hrange HR0 SZ
      have M0 := Lib.hid (show Mv w D w0 (D.mapl (h2F (D.line.take i) (D.l.map fun f => (f.n, f.a)))) by
        rw [h2F_start D _ i rfl]; exact HM.out.tail hB0)
      obtain ⟨ms, hms⟩ : ∃ x, D.line.take i = x := ⟨_, rfl⟩
      rw [hms] at TL M0
      clear hm2 hmp hR0 hB0 hr0 HM hms HKL HI hlt
      simp only [ptrV, rowV] at *
      go_wp2_with fail
      clear e1 hrange
      go_loopw [7] (fun _ wr => ∃ left : List (ByteArray × Nat), Hid (Rng wr D.m r0 (D.l.map fun f => (f.n, f.a)) left) ∧ Hid (Mv w D wr (D.mapl (h2F ms left)))) (fun _ wr => leftN wr D.m r0)
      case atStart => exact ⟨_, HR0, M0⟩
      case round =>
        obtain ⟨left, HRG, HM⟩ := hrel
        rcases HRG.out.next 0 with ⟨e0, hnext⟩ | ⟨p, hp, hpl, w1, hnext, hR1, hB1, hent⟩
        · subst e0
          obtain ⟨ops3, lc3, hm3, _⟩ := HM.out.dw.main
          have d2 : wr.cell? ⟨D.d, 2, none⟩ = some (rowV D.lr D.line.length lc3) := hm3.cell 2 rfl
          have d3 : wr.cell? ⟨D.d, 3, none⟩ = some (.bool D.dark) := hm3.cell 3 rfl
          have f2 : wr.frozen? ⟨D.d, 2, none⟩ = false := hm3.frozen 2
          have f3 : wr.frozen? ⟨D.d, 3, none⟩ = false := hm3.frozen 3
          have FIN := Lib.hid (show Mv w D ((wr.setCell ⟨D.d, 2, none⟩ (.slice none 0 0)).setCell ⟨D.d, 3, none⟩ (.bool true)) (D.crash k) by
            rw [← h2F_end, TL.out]
            refine HM.out.trans (Mv.main HM.out.dw ((But.put wr D.d 2 (.slice none 0 0)).trans (But.put _ D.d 3 (.bool true))) { D.mapl (h2F ms []) with line := [], lr := none, dark := true } rfl rfl rfl (.inr rfl) ⟨ops3, 0, (hm3.put 2 (.slice none 0 0)).put 3 (.bool true), OwnX.nil _ _⟩ ?_)
            rw [← TL.out, h2F_end]; exact OK.out.crash k)
          clear hm3 HM HRG
          simp only [rowV] at *
          go_wp2_with fail
          go_end0
          exact ⟨rfl, FIN.out⟩
        · obtain ⟨f, hf, rfl⟩ : ∃ f ∈ D.l, p = (f.n, f.a) := by
            obtain ⟨f, hf, e⟩ := List.mem_map.1 hpl; exact ⟨f, hf, e.symm⟩
          have hlt0 : ∀ k, D.foot k → k < r0 := fun k hk => Nat.lt_of_lt_of_le (HH.out.foot_lt k hk) SZ.out
          have hM1 := HM.out.aside hB1 (fun k e => by rw [e]; exact SZ.out) (fun k hk e => by have := hlt0 k (mapl_foot (h2F_keeps _ _) hk); omega)
          have hfm : h2F ms left f ∈ (D.mapl (h2F ms left)).l := List.mem_map.2 ⟨f, hf, rfl⟩
          have hpg := hM1.dw.pg _ hfm
          have har := hM1.dw.dist.ar _ hfm _ hfm
          have hr0m := hlt0 f.a (.inr (.inr (.inr ⟨f, hf, .inl rfl⟩)))
          rw [h2F_in hp] at hpg har
          have har2 : f.r ≠ some f.a := har
          obtain ⟨n, hn⟩ : ∃ n, wrOf ms f.a f.b.length f.wr = n := ⟨_, rfl⟩
          have hnl : n ≤ f.b.length := by rw [← hn]; exact wrOf_le _ _ _ _ (OK.out.wr f hf)
          rw [hn] at hpg
          obtain ⟨c, hpb, hpo⟩ := hpg.ex
          have hpb2 : Blk w1 f.a 86 #[rowV f.r f.b.length c, .int .i64 (n : Int)] := hpb
          have hcap : f.b.length ≤ c := ownB_cap hpo
          have c0 := hpb2.cell 0 rfl; have c1 := hpb2.cell 1 rfl; have fz := hpb2.frozen 0
          have SR : ∀ W, (Instr.slice 69 (rowV f.r f.b.length c) none (some (.int .i64 (n : Int))) none).run Try.prog W = .ok (rowV f.r n c) W := fun W => row_head_run eB f.r f.b.length c n (by omega) W
          have hBu := (But.refl (· = f.a) w1).drew.trans (But.put w1.drew f.a 0 (rowV f.r n c))
          have FIN := Lib.hid (Mv.cutP OK.out hM1 hf hBu (by
            have e : crashF ms f = { f with b := f.b.take n, wr := n } := by unfold crashF; rw [hn]
            rw [e]; exact PgW.cutTo hpb2 hpo hnl har2))
          have RGF := Lib.hid (hR1.but hBu (fun e => hM1.dw.dist.ma _ hfm (by rw [h2F_in hp]; exact e.symm)) (by omega))
          have MSR := Lib.hid (HRG.out.leftN_eq)
          have LL := Lib.hid (left_less hp)
          clear hlt0 hM1 hfm hpg har har2 hr0m hn hnl hpb hpo hpb2 hcap hBu hp hpl hR1 hB1 hf HRG HM
          simp only [ptrV, rowV] at *
          go_wp2_with fail
          go_region
          clear c0 c1 fz SR hnext hent
          go_wp2_with fail
          refine ⟨⟨_, RGF, FIN⟩, ?_⟩
          exact Nat.lt_of_le_of_lt (Nat.le_of_eq RGF.out.leftN_eq) (by rw [MSR.out]; exact LL.out)
end Go.Proofs.Ytefndmjimmbhnaa
end

section
set_option linter.unusedVariables false
set_option linter.unusedSimpArgs false
set_option maxRecDepth 50000
namespace Go.Proofs.Ytefndmjimmbhnaa
open Go.RowKit Go.Shelf

theorem none_any (w : World) : Calls Try.prog 81 #[] w fun e w' => e = .returned (.tuple #[]) ∧ Below w.heap.size w w' := by
  go_enter Try.func81, Try.ntmps81
  go_wp2_with fail
  go_end0
  exact ⟨rfl, Below.refl _ _⟩
set_option maxHeartbeats 1000000 in
theorem perform_any (D : Dsk) (fh fr : Nat) (ch cr : Array Value) (egh : ∀ args w, (callFunc fh args).run Try.prog w = .ok (.enter fh args) w) (egr : ∀ args w, (callFunc fr args).run Try.prog w = .ok (.enter fr args) w)
    (H : Dsk → Prop) (R : Dsk → Dsk → Prop) (w : World) (h : DiskW w D) (hH : ∀ E, H E → E.dark = false ∧ E.keep = D.keep)
    (CH : ∀ W, Mv w D W D.tick → Calls Try.prog fh ch W fun e w' => e = .returned (.tuple #[]) ∧ ∃ E, H E ∧ Mv W D.tick w' E)
    (CR : ∀ W E, H E → Mv w D W E → D.plan ≠ 1 → Calls Try.prog fr cr W fun e w' => e = .returned (.tuple #[]) ∧ ∃ F, R E F ∧ Mv W E w' F) :
    Calls Try.prog 80 #[ptrV D.d, .func (.func fh) #[] ch, .func (.func fr) #[] cr] w fun e w' =>
      (D.plan = 1 ∧ e = .returned (.int .i64 9) ∧ ∃ E, H E ∧ Mv w D w' (E.crash D.keep)) ∨ (D.plan ≠ 1 ∧ e = .returned (.int .i64 0) ∧ ∃ E F, H E ∧ R E F ∧ Mv w D w' F) := by
  obtain ⟨ops, lc, hm, hrow⟩ := h.main
  have c4 : w.cell? ⟨D.d, 4, none⟩ = some (.int .i64 ops) := hm.cell 4 rfl
  have c5 : w.cell? ⟨D.d, 5, none⟩ = some (.int .i64 D.plan) := hm.cell 5 rfl
  have f4 := hm.frozen 4; have f5 := hm.frozen 5
  have hp0 := h.ok.plan0; have hp1 := h.ok.plan1
  have HHH := Lib.hid hH; have CHH := Lib.hid CH; have CRR := Lib.hid CR
  have HH := Lib.hid h
  obtain ⟨o2, ho2⟩ : ∃ o, wrap64 (ops + 1) = o := ⟨_, rfl⟩
  by_cases hpl : D.plan ≤ 0
  · have hz : D.plan = 0 := by omega
    have MT : Mv w D (w.setCell ⟨D.d, 4, none⟩ (.int .i64 o2)) D.tick := by
      have e : D.tick = { D with dark := D.dark, plan := D.plan, keep := D.keep } := by unfold Dsk.tick; rw [if_neg (by omega)]
      rw [e]
      exact Mv.cells h (But.put w D.d 4 (.int .i64 o2)) D.dark D.plan D.keep o2 lc h.ok hrow (hm.put 4 (.int .i64 o2))
    have MTH := Lib.hid MT
    have NE := Lib.hid (show D.plan ≠ 1 by omega)
    have CALL := Lib.hid (CH _ MT)
    rw [hz] at c5
    clear hH CH CR h hm hrow hp0 hp1 hpl MT hz
    simp only [ptrV] at *
    go_enter Try.func80, Try.ntmps80
    go_wp2_with fail
    refine CALL.out.mono ?_
    rintro e w1 ⟨rfl, E, hE, hmv⟩
    have ME := Lib.hid (MTH.out.trans hmv); have HE := Lib.hid hE
    have CALL2 := Lib.hid (CRR.out w1 E hE ME.out NE.out)
    clear hmv hE CALL c4 c5 f4 f5 ho2
    go_wp2_with fail
    refine CALL2.out.mono ?_
    rintro e w2 ⟨rfl, F, hF, hmv⟩
    have MF := Lib.hid (ME.out.trans hmv); have HF := Lib.hid hF
    clear hmv hF CALL2
    go_wp2_with fail
    go_ret
    exact .inr ⟨NE.out, rfl, E, F, HE.out, HF.out, MF.out⟩
  · have MT : Mv w D ((w.setCell ⟨D.d, 4, none⟩ (.int .i64 o2)).setCell ⟨D.d, 5, none⟩ (.int .i64 (D.plan - 1))) D.tick := by
      have e : D.tick = { D with dark := D.dark, plan := D.plan - 1, keep := D.keep } := by unfold Dsk.tick; rw [if_pos (by omega)]
      rw [e]
      exact Mv.cells h ((But.put w D.d 4 (.int .i64 o2)).trans (But.put _ D.d 5 (.int .i64 (D.plan - 1)))) D.dark (D.plan - 1) D.keep o2 lc { h.ok with plan0 := (by show 0 ≤ D.plan - 1; omega), plan1 := (by show D.plan - 1 ≤ 9223372036854775807; omega) } hrow ((hm.put 4 (.int .i64 o2)).put 5 (.int .i64 (D.plan - 1)))
    have MTH := Lib.hid MT
    have CALL := Lib.hid (CH _ MT)
    have q1 : wrap64 (D.plan - 1) = D.plan - 1 := by unfold wrap64; omega
    have hpos : 0 < D.plan := by omega
    by_cases h1 : D.plan = 1
    · have H1 := Lib.hid h1
      rw [h1] at c5 q1 CALL MTH
      obtain ⟨p1, hp1⟩ : ∃ x : Int, x = 1 - 1 := ⟨_, rfl⟩
      clear hH CH CR h hm hrow hp0 hp1 hpl MT hpos q1 h1
      simp only [ptrV] at *
      go_enter Try.func80, Try.ntmps80
      go_wp2_with fail
      refine CALL.out.mono ?_
      rintro e w1 ⟨rfl, E, hE, hmv⟩
      have ME := Lib.hid (MTH.out.trans hmv); have HE := Lib.hid hE
      obtain ⟨hdk, hkp⟩ := HHH.out E hE
      obtain ⟨opsE, lcE, hmE, _⟩ := ME.out.dw.main
      have hd := ME.out.d
      rw [hkp, hd] at hmE
      have e6 : w1.cell? ⟨D.d, 6, none⟩ = some (.int .i64 D.keep) := hmE.cell 6 rfl
      have CR2 := crash_any E D.keep w1 ME.out.dw hdk
      rw [hd] at CR2
      have CR3 := Lib.hid CR2
      clear hmv hE CALL c4 c5 f4 f5 ho2 hmE CR2 hdk hkp hd
      simp only [ptrV] at *
      go_wp2_with fail
      refine CR3.out.mono ?_
      rintro e w2 ⟨rfl, hmv⟩
      have MF := Lib.hid (ME.out.trans hmv)
      clear hmv CR3 e6
      go_wp2_with fail
      go_ret
      exact .inl ⟨H1.out, rfl, E, HE.out, MF.out⟩
    · have NE := Lib.hid h1
      have h1b : ¬ (D.plan = 1) := h1
      clear hH CH CR h hm hrow hp0 hp1 MT
      simp only [ptrV] at *
      go_enter Try.func80, Try.ntmps80
      go_wp2_with fail
      refine CALL.out.mono ?_
      rintro e w1 ⟨rfl, E, hE, hmv⟩
      have ME := Lib.hid (MTH.out.trans hmv); have HE := Lib.hid hE
      have CALL2 := Lib.hid (CRR.out w1 E hE ME.out NE.out)
      clear hmv hE CALL c4 c5 f4 f5 ho2 q1 hpos hpl
      go_wp2_with fail
      refine CALL2.out.mono ?_
      rintro e w2 ⟨rfl, F, hF, hmv⟩
      have MF := Lib.hid (ME.out.trans hmv); have HF := Lib.hid hF
      clear hmv hF CALL2
      go_wp2_with fail
      go_ret
      exact .inr ⟨NE.out, rfl, E, F, HE.out, HF.out, MF.out⟩
end Go.Proofs.Ytefndmjimmbhnaa
end
