/-
  DERIVED. GIVEN WITH THE SEED: THE CARDS: each row of YtmjeifbadjdnfaaDoorRows.lean that lists a variable, with what it lists TIED to the program's text (the seventh form; the later family's looks); each row that meets fmt, with fmt's text TOLD by the authors' own Lean function (tested against real Go, not proved from fmt's source: count such statements apart). THE CARD IS WHAT COUNTS. Prove the row's statement (the work); the ties are given (YtmjeifbadjdnfaaDoorTie.lean); close each card by the builder's one call (the guide's Derived/Test/ToyasCard.lean, 'card_holds'). Laid BY PROGRAM, IN A SANDBOX (cutbox-door.mjs). By AI agents, Wed Nov 11 2026. No macro, syntax, notation, axiom, sorry.
-/
import Derived.Test.YtmjeifbadjdnfaaDoorRows
import GoSem.ClaimSeven
namespace Go.Proofs.YtmjeifbadjdnfaaDoor
namespace Rows

/-- THE TIED CARD OF 'skerrylaw11.PurgeCells'. -/
def purgeCellsCard : Claim7 := { stood := { row := purgeCellsRow, standIns := [], harness := (true, "0d6976a47e8f7e82a29d2dc5473c1bcd82f3df4efa8c68deca0846d3d36422f0"), looks := false }, kinds := [], alts := [], laidByText := true, laidKinds := [.data, .pinned], laidTests := true, laidLooks := .later }
def PurgeCellsCardSaid : Prop := Claim7.holds Tryd.pinned (.plain (OpenSpec.ofChange purgeCellsSpec)) purgeCellsCard

/-- THE TIED CARD OF 'skerrylaw11.PurgeNever'. -/
def purgeNeverCard : Claim7 := { stood := { row := purgeNeverRow, standIns := [], harness := (true, "0d6976a47e8f7e82a29d2dc5473c1bcd82f3df4efa8c68deca0846d3d36422f0"), looks := false }, kinds := [], alts := [], laidByText := true, laidKinds := [.data, .pinned], laidTests := true, laidLooks := .later }
def PurgeNeverCardSaid : Prop := Claim7.holds Tryd.pinned (.plain (OpenSpec.ofChange purgeNeverSpec)) purgeNeverCard

/-- THE TIED CARD OF 'skerrylaw11.PurgeLater'. -/
def purgeLaterCard : Claim7 := { stood := { row := purgeLaterRow, standIns := [], harness := (true, "0d6976a47e8f7e82a29d2dc5473c1bcd82f3df4efa8c68deca0846d3d36422f0"), looks := false }, kinds := [], alts := [], laidByText := true, laidKinds := [.data, .pinned], laidTests := true, laidLooks := .later }
def PurgeLaterCardSaid : Prop := Claim7.holds Tryd.pinned (.plain (OpenSpec.ofChange purgeLaterSpec)) purgeLaterCard

/-- THE TIED CARD OF 'skerrylaw15.RingOf'. -/
def ringOfCard : Claim7 := { stood := { row := ringOfRow, standIns := [], harness := (true, "0d6976a47e8f7e82a29d2dc5473c1bcd82f3df4efa8c68deca0846d3d36422f0"), looks := false }, kinds := [], alts := [], laidByText := true, laidKinds := [.data, .data, .data], laidTests := true, laidLooks := .later }
def RingOfCardSaid : Prop := Claim7.holds Tryd.pinned (.plain (OpenSpec.ofChange ringOfSpec)) ringOfCard

/-- THE TIED CARD OF 'skerrylaw15.RingTells'. -/
def ringTellsCard : Claim7 := { stood := { row := ringTellsRow, standIns := [], harness := (true, "0d6976a47e8f7e82a29d2dc5473c1bcd82f3df4efa8c68deca0846d3d36422f0"), looks := false }, kinds := [], alts := [], laidByText := true, laidKinds := [.data, .data, .data], laidTests := true, laidLooks := .later }
def RingTellsCardSaid : Prop := Claim7.holds Tryd.pinned (.plain (OpenSpec.ofChange ringTellsSpec)) ringTellsCard

/-- THE TIED CARD OF 'skerrylaw15.RingWhole'. -/
def ringWholeCard : Claim7 := { stood := { row := ringWholeRow, standIns := [], harness := (true, "0d6976a47e8f7e82a29d2dc5473c1bcd82f3df4efa8c68deca0846d3d36422f0"), looks := false }, kinds := [], alts := [], laidByText := true, laidKinds := [.data, .data, .data], laidTests := true, laidLooks := .later }
def RingWholeCardSaid : Prop := Claim7.holds Tryd.pinned (.plain (OpenSpec.ofChange ringWholeSpec)) ringWholeCard

/-- THE TIED CARD OF 'skerrylaw15.RingNone'. -/
def ringNoneCard : Claim7 := { stood := { row := ringNoneRow, standIns := [], harness := (true, "0d6976a47e8f7e82a29d2dc5473c1bcd82f3df4efa8c68deca0846d3d36422f0"), looks := false }, kinds := [], alts := [], laidByText := true, laidKinds := [.data, .data, .data], laidTests := true, laidLooks := .later }
def RingNoneCardSaid : Prop := Claim7.holds Tryd.pinned (.plain (OpenSpec.ofChange ringNoneSpec)) ringNoneCard

/-- THE TIED CARD OF 'skerrylaw15.RingAll'. -/
def ringAllCard : Claim7 := { stood := { row := ringAllRow, standIns := [], harness := (true, "0d6976a47e8f7e82a29d2dc5473c1bcd82f3df4efa8c68deca0846d3d36422f0"), looks := false }, kinds := [], alts := [], laidByText := true, laidKinds := [.data, .data, .data], laidTests := true, laidLooks := .later }
def RingAllCardSaid : Prop := Claim7.holds Tryd.pinned (.plain (OpenSpec.ofChange ringAllSpec)) ringAllCard

/-- THE SECOND FORM's CARD OF 'skerrylaw11.PurgeCells'. -/
def purgeCellsUptoCard : Claim7 := { stood := { row := purgeCellsUptoRow, standIns := [], harness := (true, "0d6976a47e8f7e82a29d2dc5473c1bcd82f3df4efa8c68deca0846d3d36422f0"), looks := false }, kinds := [], alts := [], laidByText := true, laidKinds := [.data, .pinned], laidTests := true, laidLooks := .later }
def PurgeCellsUptoCardSaid : Prop := Claim7.holds Tryd.pinned (.plain (OpenSpec.upto purgeCellsSpec)) purgeCellsUptoCard

/-- THE SECOND FORM's CARD OF 'skerrylaw11.PurgeNever'. -/
def purgeNeverUptoCard : Claim7 := { stood := { row := purgeNeverUptoRow, standIns := [], harness := (true, "0d6976a47e8f7e82a29d2dc5473c1bcd82f3df4efa8c68deca0846d3d36422f0"), looks := false }, kinds := [], alts := [], laidByText := true, laidKinds := [.data, .pinned], laidTests := true, laidLooks := .later }
def PurgeNeverUptoCardSaid : Prop := Claim7.holds Tryd.pinned (.plain (OpenSpec.upto purgeNeverSpec)) purgeNeverUptoCard

/-- THE SECOND FORM's CARD OF 'skerrylaw11.PurgeLater'. -/
def purgeLaterUptoCard : Claim7 := { stood := { row := purgeLaterUptoRow, standIns := [], harness := (true, "0d6976a47e8f7e82a29d2dc5473c1bcd82f3df4efa8c68deca0846d3d36422f0"), looks := false }, kinds := [], alts := [], laidByText := true, laidKinds := [.data, .pinned], laidTests := true, laidLooks := .later }
def PurgeLaterUptoCardSaid : Prop := Claim7.holds Tryd.pinned (.plain (OpenSpec.upto purgeLaterSpec)) purgeLaterUptoCard

/-- THE SECOND FORM's CARD OF 'skerrylaw15.RingOf'. -/
def ringOfUptoCard : Claim7 := { stood := { row := ringOfUptoRow, standIns := [], harness := (true, "0d6976a47e8f7e82a29d2dc5473c1bcd82f3df4efa8c68deca0846d3d36422f0"), looks := false }, kinds := [], alts := [], laidByText := true, laidKinds := [.data, .data, .data], laidTests := true, laidLooks := .later }
def RingOfUptoCardSaid : Prop := Claim7.holds Tryd.pinned (.plain (OpenSpec.upto ringOfSpec)) ringOfUptoCard

/-- THE SECOND FORM's CARD OF 'skerrylaw15.RingTells'. -/
def ringTellsUptoCard : Claim7 := { stood := { row := ringTellsUptoRow, standIns := [], harness := (true, "0d6976a47e8f7e82a29d2dc5473c1bcd82f3df4efa8c68deca0846d3d36422f0"), looks := false }, kinds := [], alts := [], laidByText := true, laidKinds := [.data, .data, .data], laidTests := true, laidLooks := .later }
def RingTellsUptoCardSaid : Prop := Claim7.holds Tryd.pinned (.plain (OpenSpec.upto ringTellsSpec)) ringTellsUptoCard

/-- THE SECOND FORM's CARD OF 'skerrylaw15.RingWhole'. -/
def ringWholeUptoCard : Claim7 := { stood := { row := ringWholeUptoRow, standIns := [], harness := (true, "0d6976a47e8f7e82a29d2dc5473c1bcd82f3df4efa8c68deca0846d3d36422f0"), looks := false }, kinds := [], alts := [], laidByText := true, laidKinds := [.data, .data, .data], laidTests := true, laidLooks := .later }
def RingWholeUptoCardSaid : Prop := Claim7.holds Tryd.pinned (.plain (OpenSpec.upto ringWholeSpec)) ringWholeUptoCard

/-- THE SECOND FORM's CARD OF 'skerrylaw15.RingNone'. -/
def ringNoneUptoCard : Claim7 := { stood := { row := ringNoneUptoRow, standIns := [], harness := (true, "0d6976a47e8f7e82a29d2dc5473c1bcd82f3df4efa8c68deca0846d3d36422f0"), looks := false }, kinds := [], alts := [], laidByText := true, laidKinds := [.data, .data, .data], laidTests := true, laidLooks := .later }
def RingNoneUptoCardSaid : Prop := Claim7.holds Tryd.pinned (.plain (OpenSpec.upto ringNoneSpec)) ringNoneUptoCard

/-- THE SECOND FORM's CARD OF 'skerrylaw15.RingAll'. -/
def ringAllUptoCard : Claim7 := { stood := { row := ringAllUptoRow, standIns := [], harness := (true, "0d6976a47e8f7e82a29d2dc5473c1bcd82f3df4efa8c68deca0846d3d36422f0"), looks := false }, kinds := [], alts := [], laidByText := true, laidKinds := [.data, .data, .data], laidTests := true, laidLooks := .later }
def RingAllUptoCardSaid : Prop := Claim7.holds Tryd.pinned (.plain (OpenSpec.upto ringAllSpec)) ringAllUptoCard
end Rows
end Go.Proofs.YtmjeifbadjdnfaaDoor
