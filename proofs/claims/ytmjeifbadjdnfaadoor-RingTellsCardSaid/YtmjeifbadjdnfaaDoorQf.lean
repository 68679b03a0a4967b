/- Contracts of Token, the program's and the reference's. Condition: a text of at most a million bytes. -/
import Derived.Test.YtmjeifbadjdnfaaDoorQc
import Derived.Test.YtmjeifbadjdnfaaDoorQe
import Derived.Laws.IdiomStrings
set_option linter.unusedVariables false
set_option linter.unusedSimpArgs false
set_option maxRecDepth 20000
namespace Go.Proofs.YtmjeifbadjdnfaaDoor
open Go.RowKit

def tokI (l : List UInt8) : Int := wrap64 (mmSum l 0).1
theorem tokI_range (l : List UInt8) : -9223372036854775808 ≤ tokI l ∧ tokI l ≤ 9223372036854775807 := by
  unfold tokI wrap64
  omega
/-- []byte(s) -/
theorem conv_bytes (s : ByteArray) (w : World) : ∃ c w1, (convert 9 105 (.string s)).run Tryd.prog w = .ok (.slice (some ⟨w.heap.size, 0, none⟩) s.size c) w1 ∧ SlB w1.heap.size w1 (.slice (some ⟨w.heap.size, 0, none⟩) s.size c) s.toList ∧ Below w.heap.size w w1 := by
  refine ⟨_, _, run_bytes_of_string w 9 105 5 s Tryd.underlying9 Tryd.underlying105 Tryd.underlying5, ?_, (Below.drew (Below.refl _ w)).alloc (Nat.le_refl _) _⟩
  have hg := grownCap_ge w s.size 0 5
  have hc : ∀ o, (World.alloc w.drew o).heap[w.heap.size]? = some o := fun o => heap_last w.drew o
  generalize grownCap w s.size 0 5 = c at *
  refine ⟨some ⟨w.heap.size, 0, none⟩, c, by rw [str_len], by rw [str_len]; exact hg, fun _ => ⟨w.heap.size, 0, rfl, by show w.heap.size < (w.heap.push _).size; simp, fun j hj => ?_⟩⟩
  rw [Nat.zero_add, cell_of_row _ w.heap.size j _ _ _ (hc _)]
  have hj' : j < s.data.size := by rw [str_len] at hj; exact hj
  rw [bytesRow_at s c j hj']
  congr 3
  simp only [ByteArray.toList_eq, Array.getElem_toList]
set_option maxHeartbeats 1000000 in
theorem Token_any (s : ByteArray) (w : World) (hl : s.size ≤ 1000000) :
    Calls Tryd.prog 45 #[.string s] w fun e w' => e = .returned (.int .i64 (tokI s.toList)) ∧ Below w.heap.size w w' := by
  unfold tokI
  obtain ⟨c, w1, hcv, HS, HB⟩ := conv_bytes s w
  have HC := Lib.hid (Sum_any _ s.toList 0 w1 HS (by rw [str_len]; exact hl) (by decide) (by decide))
  have HB' := Lib.hid HB
  clear HS HB
  go_enter Tryd.func45, Tryd.ntmps45
  go_wp2_with fail
  refine HC.out.mono ?_
  rintro e w2 ⟨rfl, hb⟩
  go_wp2_with fail
  go_ret
  exact ⟨rfl, HB'.out.trans (hb.mono HB'.out.size)⟩
set_option maxHeartbeats 1000000 in
theorem rToken_any (s : ByteArray) (w : World) (hl : s.size ≤ 1000000) :
    Calls Tryd.prog 50 #[.string s] w fun e w' => e = .returned (.int .i64 (tokI s.toList)) ∧ Below w.heap.size w w' := by
  unfold tokI
  obtain ⟨c, w1, hcv, HS, HB⟩ := conv_bytes s w
  have HC := Lib.hid (rSum_any _ s.toList 0 w1.heap.size w1 HS (by rw [str_len]; exact hl) (by decide) (by decide))
  have HB' := Lib.hid HB
  clear HS HB
  go_enter Tryd.func50, Tryd.ntmps50
  go_wp2_with fail
  refine HC.out.mono ?_
  rintro e w2 ⟨rfl, rfl⟩
  go_wp2_with fail
  go_ret
  exact ⟨rfl, HB'.out⟩
end Go.Proofs.YtmjeifbadjdnfaaDoor
