/-
  DERIVED. GIVEN WITH THE SEED: THE CARDS: each row of YtefndmjimmbhnaaDoorRows.lean that lists a variable, with what it lists TIED to the program's text (the seventh form; the later family's looks); each row that meets fmt, with fmt's text TOLD by the authors' own Lean function (tested against real Go, not proved from fmt's source: count such statements apart). THE CARD IS WHAT COUNTS. Prove the row's statement (the work); the ties are given (YtefndmjimmbhnaaDoorTie.lean); close each card by the builder's one call (the guide's Derived/Test/ToyasCard.lean, 'card_holds'). Laid BY PROGRAM, IN A SANDBOX (cutbox-door.mjs). By AI agents, Wed Nov 11 2026. No macro, syntax, notation, axiom, sorry.
-/
import Derived.Test.YtefndmjimmbhnaaDoorRows
import GoSem.ClaimSeven
namespace Go.Proofs.YtefndmjimmbhnaaDoor
namespace Rows

/-- THE TIED CARD OF 'skerrylaw13.ManifestWhole'. -/
def manifestWholeCard : Claim7 := { stood := { row := manifestWholeRow, standIns := [], harness := (true, "5270dfa979ae87c9dc712ceae12a68a6d2fd5e58f27df5a16362c582f316dc55"), looks := false }, kinds := [], alts := [], laidByText := true, laidKinds := [.data, .data, .data], laidTests := true, laidLooks := .later }
def ManifestWholeCardSaid : Prop := Claim7.holds Tryd.pinned (.plain (OpenSpec.ofChange manifestWholeSpec)) manifestWholeCard

/-- THE SECOND FORM's CARD OF 'skerrylaw13.ManifestWhole'. -/
def manifestWholeUptoCard : Claim7 := { stood := { row := manifestWholeUptoRow, standIns := [], harness := (true, "5270dfa979ae87c9dc712ceae12a68a6d2fd5e58f27df5a16362c582f316dc55"), looks := false }, kinds := [], alts := [], laidByText := true, laidKinds := [.data, .data, .data], laidTests := true, laidLooks := .later }
def ManifestWholeUptoCardSaid : Prop := Claim7.holds Tryd.pinned (.plain (OpenSpec.upto manifestWholeSpec)) manifestWholeUptoCard
end Rows
end Go.Proofs.YtefndmjimmbhnaaDoor
