/- Words on byte slices that a call builds (owned rows), and on the package-level variables that the library reads. No condition. -/
import Derived.Test.YtmjeifbadjdnfaaDoorProg
import Derived.Test.YtmjeifbadjdnfaaDoorLib
import Derived.Test.YtmjeifbadjdnfaaDoorPr
import Derived.Lib.AppendStr
import Derived.Maps.AppendAt
import Derived.Lib.ItoaMem
import Derived.Lib.SmallJoins
set_option linter.unusedVariables false
set_option linter.unusedSimpArgs false
namespace Go.Proofs.YtmjeifbadjdnfaaDoor
open Go.RowKit

def bcells (l : List UInt8) : List Value := l.map fun b => Value.int .u8 b.toNat
theorem bcells_length (l : List UInt8) : (bcells l).length = l.length := by simp [bcells]
theorem bcells_append (a b : List UInt8) : bcells (a ++ b) = bcells a ++ bcells b := by simp [bcells]
theorem bcells_str (s : ByteArray) : Lib.strCells s = bcells s.toList := by rw [Lib.strCells, bcells, ByteArray.toList_eq]
theorem bcells_get (l : List UInt8) (j : Nat) : (bcells l)[j]? = (l[j]?).map fun b => Value.int .u8 b.toNat := by simp [bcells]
theorem bcells_one (l : List UInt8) : ∀ u ∈ bcells l, u.oneCell' = true := by
  intro u hu; simp only [bcells, List.mem_map] at hu; obtain ⟨b, _, rfl⟩ := hu; rfl
theorem str_len (s : ByteArray) : s.toList.length = s.size := by rw [ByteArray.toList_eq, Array.length_toList]; rfl

/-- The slice value v owns the bytes l, in a block from base on. -/
def OwnB (w : World) (base : Nat) (v : Value) (l : List UInt8) : Prop := w.ownsRow base 5 1 v l.length (bcells l)
/-- What a call that builds bytes leaves: a slice that owns them, in a block from base on. -/
def RetB (base : Nat) (w : World) (l : List UInt8) (e : Ending) (w' : World) : Prop := ∃ v, e = .returned v ∧ OwnB w' base v l ∧ Below base w w'
theorem OwnB.nil (w : World) (base : Nat) : OwnB w base (.slice none 0 0) [] := World.ownsRow_nil w base _ _
theorem OwnB.below {w w1 : World} {base : Nat} {v : Value} {l : List UInt8} (h : OwnB w base v l) (hb : Below w.heap.size w w1) : OwnB w1 base v l :=
  h.kept (row := none) ⟨hb.os, hb.tape, hb.output, hb.size, fun k hk _ => hb.block k hk⟩ (by cases v.ownBlock <;> simp)
theorem OwnB.drew {w : World} {base : Nat} {v : Value} {l : List UInt8} (h : OwnB w base v l) : OwnB w.drew base v l := World.ownsRow.drew h
theorem OwnB.drewN {w : World} {base n : Nat} {v : Value} {l : List UInt8} (h : OwnB w base v l) : OwnB (w.drewN n) base v l := h.below (below_drewN (Below.refl _ _) n)
theorem OwnB.alloc {w : World} {base : Nat} {v : Value} {l : List UInt8} (h : OwnB w base v l) (o : Obj) : OwnB (w.alloc o) base v l := World.ownsRow.alloc h o
theorem OwnB.base {w : World} {base : Nat} {v : Value} {l : List UInt8} (h : OwnB w base v l) : ∀ k, v.ownBlock = some k → base ≤ k := fun k hk => (World.ownsRow.lt h k hk).1
theorem OwnB.weaken {w : World} {base base' : Nat} {v : Value} {l : List UInt8} (h : OwnB w base v l) (hb : base' ≤ base) : OwnB w base' v l := by
  obtain ⟨h1, h2⟩ := h
  refine ⟨h1, ?_⟩
  rcases h2 with h2 | ⟨g, cap, cur, e, hg, r⟩
  · exact .inl h2
  · exact .inr ⟨g, cap, cur, e, Nat.le_trans hb hg, r⟩
theorem OwnB.len {w : World} {base : Nat} {v : Value} {l : List UInt8} (h : OwnB w base v l) : l.length ≤ 9223372036854775807 := by
  rcases h.2 with ⟨_, h0⟩ | ⟨g, cap, cur, _, _, _, h1, h2, _⟩
  · omega
  · unfold maxLen at h2; omega

theorem bcells_one_byte {n : Int} (h0 : 0 ≤ n) (h1 : n < 256) : [Value.int .u8 n] = bcells [byteOf n] := by
  simp [bcells, byteOf_val h0 h1]
theorem take_snoc {α : Type} (l : List α) (k : Nat) (x : α) (h : l[k]? = some x) : l.take (k + 1) = l.take k ++ [x] := by
  rw [List.take_add_one, h]; rfl

theorem infoByte : (Tryd.prog.info? 5).map (fun i => (i.zero, i.size, i.bytes)) = some (some (.int .u8 0), 1, 1) := by kernel_rfl

section
variable {ops : Array Oper} {rest : List Oper} {o : Oper} {a : Act} {Q : Exit → Act → World → Prop} {W w0 : World}
/-- append(s, t...), t a text. -/
theorem ap_str (hgd : o.guard = none) (s x : Operand) (ho : o.op = .call { callee := .builtin .append, args := #[s, x], argTypes := #[105, 9] })
    (base : Nat) (v : Value) (l : List UInt8) (y : ByteArray) (hs : a.eval s = v) (hx : a.eval x = .string y) (HO : OwnB W base v l) (HB : Below base w0 W) (hbase : base ≤ W.heap.size) (hl : l.length + y.size ≤ 140737488355328)
    (h : ∀ v1 w1, OwnB w1 base v1 (l ++ y.toList) → Below base w0 w1 → base ≤ w1.heap.size → W.grownBy w1 v.ownBlock → wpList Tryd.prog ops Q rest (a.put o.dst v1) w1) : wpList Tryd.prog ops Q (o :: rest) a W := by
  obtain ⟨i0, hi, hz0, hz1, hz2⟩ := info_parts infoByte
  refine Lib.wpList_append_own_string W hgd s x _ _ ho base 5 i0 Tryd.underlying105 Tryd.underlying9 hi hz0 hz1 hz2 v l.length (bcells l) hs HO y hx (by simp only [maxLen]; omega) hl hbase ?_
  intro v1 w1 hown hg _
  refine h v1 w1 ?_ (HB.grown hg hbase HO.base) (Nat.le_trans hbase hg.size) hg
  unfold OwnB
  rw [List.length_append, str_len, bcells_append, ← bcells_str]
  exact hown
/-- append(s, t...), t bytes that lie in memory. -/
theorem ap_bytes (hgd : o.guard = none) (s x : Operand) (ho : o.op = .call { callee := .builtin .append, args := #[s, x], argTypes := #[105, 105] })
    (base : Nat) (v : Value) (l : List UInt8) (news : List UInt8) (ad : Addr) (m c : Nat) (hs : a.eval s = v) (hx : a.eval x = .slice (some ad) m c) (hm : m = news.length)
    (hn : ∀ j u, (bcells news)[j]? = some u → W.cell? (ad.add j) = some u) (HO : OwnB W base v l) (HB : Below base w0 W) (hbase : base ≤ W.heap.size) (hl : l.length + news.length ≤ 140737488355328)
    (h : ∀ v1 w1, OwnB w1 base v1 (l ++ news) → Below base w0 w1 → base ≤ w1.heap.size → W.grownBy w1 v.ownBlock → wpList Tryd.prog ops Q rest (a.put o.dst v1) w1) : wpList Tryd.prog ops Q (o :: rest) a W := by
  subst hm
  obtain ⟨i0, hi, hz0, hz1, hz2⟩ := info_parts infoByte
  refine wpList_append_own _ hgd s x _ ho base 5 i0 _ 1 1 Tryd.underlying105 hi hz0 hz1 hz2 rfl (by decide) v l.length (bcells l) hs HO ad news.length c (bcells news) hx (by rw [bcells_length]; omega) hn (bcells_one news) (by simp only [maxLen]; omega) (by omega) hbase ?_
  intro v1 w1 hown hg _
  refine h v1 w1 ?_ (HB.grown hg hbase HO.base) (Nat.le_trans hbase hg.size) hg
  unfold OwnB
  rw [List.length_append, bcells_append]
  exact hown
/-- append(s, a) .. append(s, a, b): the few new bytes lie in a block of their own. -/
theorem lit_cells {w : World} {g : Nat} {news : List UInt8} {cs : Array Value} {t : TypeId} (h : w.heap[g]? = some (.cells cs t (0, 0))) (hc : cs.toList = bcells news) : ∀ j u, (bcells news)[j]? = some u → w.cell? ((⟨g, 0, none⟩ : Addr).add j) = some u := by
  intro j u hj
  have e : (⟨g, 0, none⟩ : Addr).add j = ⟨g, j, none⟩ := by unfold Addr.add; split <;> simp_all
  rw [e]
  have : cs[j]? = some u := by rw [← Array.getElem?_toList, hc]; exact hj
  simp [World.cell?, h, this]
/-- .. the bytes lie in the block that was made last. -/
theorem ap_lit (hgd : o.guard = none) (s x : Operand) (ho : o.op = .call { callee := .builtin .append, args := #[s, x], argTypes := #[105, 105] })
    (base : Nat) (v : Value) (l : List UInt8) (news : List UInt8) (cs : Array Value) (m c : Nat) (hs : a.eval s = v) (hx : a.eval x = .slice (some ⟨W.heap.size, 0, none⟩) m c) (hm : m = news.length)
    (hcs : cs.toList = bcells news) (HO : OwnB W base v l) (HB : Below base w0 W) (hbase : base ≤ W.heap.size) (hl : l.length + news.length ≤ 140737488355328)
    (h : ∀ v1 w1, OwnB w1 base v1 (l ++ news) → Below base w0 w1 → base ≤ w1.heap.size → wpList Tryd.prog ops Q rest (a.put o.dst v1) w1) : wpList Tryd.prog ops Q (o :: rest) a (W.alloc (.cells cs 5)) :=
  ap_bytes hgd s x ho base v l news ⟨W.heap.size, 0, none⟩ m c hs hx hm (lit_cells (heap_last _ _) hcs) (HO.alloc _) (below_al HB _ hbase) (by simp; omega) hl (fun v1 w1 h1 h2 h3 _ => h v1 w1 h1 h2 h3)
end

/-- a text's value out of a list of bytes -/
abbrev sv (l : List UInt8) : Value := .string ⟨l.toArray⟩
theorem size_mk (l : List UInt8) : (⟨l.toArray⟩ : ByteArray).size = l.length := List.size_toArray
theorem toList_mk (l : List UInt8) : (⟨l.toArray⟩ : ByteArray).toList = l := ByteArray.toList_mk l
theorem sv_toList (s : ByteArray) : sv s.toList = .string s := by rw [ByteArray.toList_eq]
/-- string(b): bytes that lie in memory, as a text -/
theorem conv_at (W : World) (b off c n : Nat) (l : List UInt8) (hn : n = l.length) (hc : ∀ j u, (bcells l)[j]? = some u → W.cell? ⟨b, off + j, none⟩ = some u) :
    (convert 105 9 (.slice (some ⟨b, off, none⟩) n c)).run Tryd.prog W = .ok (sv l) W := by
  subst hn
  have h := run_convert_bytes_arg (P := Tryd.prog) W 105 5 Tryd.underlying105 Tryd.underlying5 b off l.length c (l.map fun x => (x.toNat : Int)) (by simp) (fun i hi => by
    have hx : (bcells l)[i]? = some (.int .u8 (l[i].toNat : Int)) := by rw [bcells_get, List.getElem?_eq_getElem hi]; rfl
    rw [hc i _ hx]; simp [List.getD_eq_getElem?_getD, List.getElem?_eq_getElem hi]) 9 Tryd.underlying9
  have e : strOfNums (l.map fun x => (x.toNat : Int)) = ⟨l.toArray⟩ := by
    unfold strOfNums
    rw [List.map_map, show ((fun n : Int => UInt8.ofNat n.toNat) ∘ fun x : UInt8 => (x.toNat : Int)) = id by funext x; simp, List.map_id]
  rw [h, e]
theorem conv_own {W : World} {base : Nat} {v : Value} {l : List UInt8} (h : OwnB W base v l) : (convert 105 9 v).run Tryd.prog W = .ok (sv l) W := by
  rcases h.2 with ⟨rfl, h0⟩ | ⟨g, cap, cur, rfl, hg, _⟩
  · obtain rfl : l = [] := List.eq_nil_of_length_eq_zero h0
    exact run_convert_bytes_nil W 105 5 Tryd.underlying105 Tryd.underlying5 0 0 9 Tryd.underlying9
  · refine conv_at W g 0 cap l.length l rfl (fun j u hj => ?_)
    have := World.ownsRow.cells h (g := g) rfl j u hj
    rwa [show (⟨g, 0, none⟩ : Addr).add j = ⟨g, 0 + j, none⟩ by unfold Addr.add; split <;> simp_all] at this
theorem conv_lit (W : World) (n : Int) (h0 : 0 ≤ n) (h1 : n < 256) : (convert 105 9 (.slice (some ⟨W.heap.size, 0, none⟩) 1 1)).run Tryd.prog (W.alloc (.cells #[.int .u8 n] 5)) = .ok (sv [byteOf n]) (W.alloc (.cells #[.int .u8 n] 5)) := by
  refine conv_at _ _ 0 1 1 [byteOf n] rfl (fun j u hj => ?_)
  have := lit_cells (heap_last W (.cells #[.int .u8 n] 5)) (bcells_one_byte h0 h1) j u hj
  rwa [show (⟨W.heap.size, 0, none⟩ : Addr).add j = ⟨W.heap.size, 0 + j, none⟩ by unfold Addr.add; split <;> simp_all] at this

/-- The slice value v reads as the bytes l (as a text). -/
def ReadsB (W : World) (v : Value) (l : List UInt8) : Prop := (convert 105 9 v).run Tryd.prog W = .ok (sv l) W
theorem ReadsB.out {W : World} {v : Value} {l : List UInt8} (h : ReadsB W v l) : (convert 105 9 v).run Tryd.prog W = .ok (sv l) W := h

theorem OwnB.reads {W : World} {base : Nat} {v : Value} {l : List UInt8} (h : OwnB W base v l) : ReadsB W v l := conv_own h
theorem add0 (g j : Nat) : (⟨g, 0, none⟩ : Addr).add j = ⟨g, 0 + j, none⟩ := by unfold Addr.add; split <;> simp_all
theorem reads_lit (W : World) (cs : Array Value) (l : List UInt8) (n c : Nat) (hn : n = l.length) (hcs : cs.toList = bcells l) : ReadsB (W.alloc (.cells cs 5)) (.slice (some ⟨W.heap.size, 0, none⟩) n c) l := by
  refine conv_at _ _ 0 c n _ hn (fun j u hj => ?_)
  have := lit_cells (heap_last W (.cells cs 5)) hcs j u hj
  rwa [add0] at this

/-- What the library's variables hold. -/
structure Env (w : World) : Prop where
 maxLen : ∃ m, w.cell? ⟨3, 0, none⟩ = some (.int .i64 m)
 tab : Lib.TabIs Tryd.prog w "internal/strconv.uint64pow10" .u64 Lib.pow10Tab
theorem tab_here : Tryd.prog.globalNamed "internal/strconv.uint64pow10" = some 0 := by kernel_rfl
theorem Env.below {w w1 : World} (h : Env w) (hb : Below w.heap.size w w1) : Env w1 where
 maxLen := let ⟨m, hm⟩ := h.maxLen; ⟨m, cell_keep hb hm⟩
 tab := by
   have h1 := h.tab
   unfold Lib.TabIs World.var? at *
   rw [tab_here] at *
   simp only [Option.bind_some] at *
   by_cases hlt : 0 < w.heap.size
   · rw [hb.block _ hlt]; exact h1
   · rw [Array.getElem?_eq_none (by omega)] at h1; simp at h1
end Go.Proofs.YtmjeifbadjdnfaaDoor
