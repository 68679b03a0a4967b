/-
  DERIVED. GIVEN WITH THE SEED: THE CARDS: each row of YtkmcjainbhmbdaaDoorRows.lean that lists a variable, with what it lists TIED to the program's text (the seventh form; the later family's looks); each row that meets fmt, with fmt's text TOLD by the authors' own Lean function (tested against real Go, not proved from fmt's source: count such statements apart). THE CARD IS WHAT COUNTS. Prove the row's statement (the work); the ties are given (YtkmcjainbhmbdaaDoorTie.lean); close each card by the builder's one call (the guide's Derived/Test/ToyasCard.lean, 'card_holds'). Laid BY PROGRAM, IN A SANDBOX (cutbox-door.mjs). By AI agents, Wed Nov 11 2026. No macro, syntax, notation, axiom, sorry.
-/
import Derived.Test.YtkmcjainbhmbdaaDoorRows
import GoSem.ClaimSeven
namespace Go.Proofs.YtkmcjainbhmbdaaDoor
namespace Rows

/-- THE TIED CARD OF 'skerrylaw13.ManifestBytes'. -/
def manifestBytesCard : Claim7 := { stood := { row := manifestBytesRow, standIns := [], harness := (true, "d4ad154ddbc46c900a3471a5c04393ba8c9f768aeba149b367f4be441a5a2e3e"), looks := false }, kinds := [], alts := [], laidByText := true, laidKinds := [.data, .data, .data], laidTests := true, laidLooks := .later }
def ManifestBytesCardSaid : Prop := Claim7.holds Tryd.pinned (.plain (OpenSpec.ofChange manifestBytesSpec)) manifestBytesCard

/-- THE TIED CARD OF 'skerrylaw13.ManifestBack'. -/
def manifestBackCard : Claim7 := { stood := { row := manifestBackRow, standIns := [], harness := (true, "d4ad154ddbc46c900a3471a5c04393ba8c9f768aeba149b367f4be441a5a2e3e"), looks := false }, kinds := [], alts := [], laidByText := true, laidKinds := [.data, .data, .data], laidTests := true, laidLooks := .later }
def ManifestBackCardSaid : Prop := Claim7.holds Tryd.pinned (.plain (OpenSpec.ofChange manifestBackSpec)) manifestBackCard

/-- THE TIED CARD OF 'skerrylaw13.ManifestFiles'. -/
def manifestFilesCard : Claim7 := { stood := { row := manifestFilesRow, standIns := [], harness := (true, "d4ad154ddbc46c900a3471a5c04393ba8c9f768aeba149b367f4be441a5a2e3e"), looks := false }, kinds := [], alts := [], laidByText := true, laidKinds := [.data, .data, .data], laidTests := true, laidLooks := .later }
def ManifestFilesCardSaid : Prop := Claim7.holds Tryd.pinned (.plain (OpenSpec.ofChange manifestFilesSpec)) manifestFilesCard

/-- THE TIED CARD OF 'skerrylaw13.ManifestWhole'. -/
def manifestWholeCard : Claim7 := { stood := { row := manifestWholeRow, standIns := [], harness := (true, "d4ad154ddbc46c900a3471a5c04393ba8c9f768aeba149b367f4be441a5a2e3e"), looks := false }, kinds := [], alts := [], laidByText := true, laidKinds := [.data, .data, .data], laidTests := true, laidLooks := .later }
def ManifestWholeCardSaid : Prop := Claim7.holds Tryd.pinned (.plain (OpenSpec.ofChange manifestWholeSpec)) manifestWholeCard

/-- THE TIED CARD OF 'skerrylaw04.KeyCmps'. -/
def keyCmpsCard : Claim7 := { stood := { row := keyCmpsRow, standIns := [], harness := (true, "d4ad154ddbc46c900a3471a5c04393ba8c9f768aeba149b367f4be441a5a2e3e"), looks := false }, kinds := [], alts := [], laidByText := true, laidKinds := [.data, .data, .data, .data, .pinned], laidTests := true, laidLooks := .later }
def KeyCmpsCardSaid : Prop := Claim7.holds Tryd.pinned (.plain (OpenSpec.ofChange keyCmpsSpec)) keyCmpsCard

/-- THE TIED CARD OF 'skerrylaw04.KeyPrints'. -/
def keyPrintsCard : Claim7 := { stood := { row := keyPrintsRow, standIns := [], harness := (true, "d4ad154ddbc46c900a3471a5c04393ba8c9f768aeba149b367f4be441a5a2e3e"), looks := false }, kinds := [], alts := [], laidByText := true, laidKinds := [.data, .data, .data, .data, .pinned], laidTests := true, laidLooks := .later }
def KeyPrintsCardSaid : Prop := Claim7.holds Tryd.pinned (.plain (OpenSpec.ofChange keyPrintsSpec)) keyPrintsCard

/-- THE TIED CARD OF 'skerrylaw04.KeyTogether'. -/
def keyTogetherCard : Claim7 := { stood := { row := keyTogetherRow, standIns := [], harness := (true, "d4ad154ddbc46c900a3471a5c04393ba8c9f768aeba149b367f4be441a5a2e3e"), looks := false }, kinds := [], alts := [], laidByText := true, laidKinds := [.data, .data, .data, .data, .pinned], laidTests := true, laidLooks := .later }
def KeyTogetherCardSaid : Prop := Claim7.holds Tryd.pinned (.plain (OpenSpec.ofChange keyTogetherSpec)) keyTogetherCard

/-- THE TIED CARD OF 'skerrylaw04.KeyTells'. -/
def keyTellsCard : Claim7 := { stood := { row := keyTellsRow, standIns := [], harness := (true, "d4ad154ddbc46c900a3471a5c04393ba8c9f768aeba149b367f4be441a5a2e3e"), looks := false }, kinds := [], alts := [], laidByText := true, laidKinds := [.data, .data, .data, .data, .pinned], laidTests := true, laidLooks := .later }
def KeyTellsCardSaid : Prop := Claim7.holds Tryd.pinned (.plain (OpenSpec.ofChange keyTellsSpec)) keyTellsCard

/-- THE TIED CARD OF 'skerrylaw04.KeyRows'. -/
def keyRowsCard : Claim7 := { stood := { row := keyRowsRow, standIns := [], harness := (true, "d4ad154ddbc46c900a3471a5c04393ba8c9f768aeba149b367f4be441a5a2e3e"), looks := false }, kinds := [], alts := [], laidByText := true, laidKinds := [.data, .data, .data, .data, .pinned], laidTests := true, laidLooks := .later }
def KeyRowsCardSaid : Prop := Claim7.holds Tryd.pinned (.plain (OpenSpec.ofChange keyRowsSpec)) keyRowsCard

/-- THE TIED CARD OF 'skerrylaw04.KeyBytes'. -/
def keyBytesCard : Claim7 := { stood := { row := keyBytesRow, standIns := [], harness := (true, "d4ad154ddbc46c900a3471a5c04393ba8c9f768aeba149b367f4be441a5a2e3e"), looks := false }, kinds := [], alts := [], laidByText := true, laidKinds := [.data, .data, .data, .data, .pinned], laidTests := true, laidLooks := .later }
def KeyBytesCardSaid : Prop := Claim7.holds Tryd.pinned (.plain (OpenSpec.ofChange keyBytesSpec)) keyBytesCard

/-- THE TIED CARD OF 'skerrylaw04.KeyOrder'. -/
def keyOrderCard : Claim7 := { stood := { row := keyOrderRow, standIns := [], harness := (true, "d4ad154ddbc46c900a3471a5c04393ba8c9f768aeba149b367f4be441a5a2e3e"), looks := false }, kinds := [], alts := [], laidByText := true, laidKinds := [.data, .data, .data, .data, .pinned], laidTests := true, laidLooks := .later }
def KeyOrderCardSaid : Prop := Claim7.holds Tryd.pinned (.plain (OpenSpec.ofChange keyOrderSpec)) keyOrderCard

/-- THE SECOND FORM's CARD OF 'skerrylaw13.ManifestBytes'. -/
def manifestBytesUptoCard : Claim7 := { stood := { row := manifestBytesUptoRow, standIns := [], harness := (true, "d4ad154ddbc46c900a3471a5c04393ba8c9f768aeba149b367f4be441a5a2e3e"), looks := false }, kinds := [], alts := [], laidByText := true, laidKinds := [.data, .data, .data], laidTests := true, laidLooks := .later }
def ManifestBytesUptoCardSaid : Prop := Claim7.holds Tryd.pinned (.plain (OpenSpec.upto manifestBytesSpec)) manifestBytesUptoCard

/-- THE SECOND FORM's CARD OF 'skerrylaw13.ManifestBack'. -/
def manifestBackUptoCard : Claim7 := { stood := { row := manifestBackUptoRow, standIns := [], harness := (true, "d4ad154ddbc46c900a3471a5c04393ba8c9f768aeba149b367f4be441a5a2e3e"), looks := false }, kinds := [], alts := [], laidByText := true, laidKinds := [.data, .data, .data], laidTests := true, laidLooks := .later }
def ManifestBackUptoCardSaid : Prop := Claim7.holds Tryd.pinned (.plain (OpenSpec.upto manifestBackSpec)) manifestBackUptoCard

/-- THE SECOND FORM's CARD OF 'skerrylaw13.ManifestFiles'. -/
def manifestFilesUptoCard : Claim7 := { stood := { row := manifestFilesUptoRow, standIns := [], harness := (true, "d4ad154ddbc46c900a3471a5c04393ba8c9f768aeba149b367f4be441a5a2e3e"), looks := false }, kinds := [], alts := [], laidByText := true, laidKinds := [.data, .data, .data], laidTests := true, laidLooks := .later }
def ManifestFilesUptoCardSaid : Prop := Claim7.holds Tryd.pinned (.plain (OpenSpec.upto manifestFilesSpec)) manifestFilesUptoCard

/-- THE SECOND FORM's CARD OF 'skerrylaw13.ManifestWhole'. -/
def manifestWholeUptoCard : Claim7 := { stood := { row := manifestWholeUptoRow, standIns := [], harness := (true, "d4ad154ddbc46c900a3471a5c04393ba8c9f768aeba149b367f4be441a5a2e3e"), looks := false }, kinds := [], alts := [], laidByText := true, laidKinds := [.data, .data, .data], laidTests := true, laidLooks := .later }
def ManifestWholeUptoCardSaid : Prop := Claim7.holds Tryd.pinned (.plain (OpenSpec.upto manifestWholeSpec)) manifestWholeUptoCard

/-- THE SECOND FORM's CARD OF 'skerrylaw04.KeyCmps'. -/
def keyCmpsUptoCard : Claim7 := { stood := { row := keyCmpsUptoRow, standIns := [], harness := (true, "d4ad154ddbc46c900a3471a5c04393ba8c9f768aeba149b367f4be441a5a2e3e"), looks := false }, kinds := [], alts := [], laidByText := true, laidKinds := [.data, .data, .data, .data, .pinned], laidTests := true, laidLooks := .later }
def KeyCmpsUptoCardSaid : Prop := Claim7.holds Tryd.pinned (.plain (OpenSpec.upto keyCmpsSpec)) keyCmpsUptoCard

/-- THE SECOND FORM's CARD OF 'skerrylaw04.KeyPrints'. -/
def keyPrintsUptoCard : Claim7 := { stood := { row := keyPrintsUptoRow, standIns := [], harness := (true, "d4ad154ddbc46c900a3471a5c04393ba8c9f768aeba149b367f4be441a5a2e3e"), looks := false }, kinds := [], alts := [], laidByText := true, laidKinds := [.data, .data, .data, .data, .pinned], laidTests := true, laidLooks := .later }
def KeyPrintsUptoCardSaid : Prop := Claim7.holds Tryd.pinned (.plain (OpenSpec.upto keyPrintsSpec)) keyPrintsUptoCard

/-- THE SECOND FORM's CARD OF 'skerrylaw04.KeyTogether'. -/
def keyTogetherUptoCard : Claim7 := { stood := { row := keyTogetherUptoRow, standIns := [], harness := (true, "d4ad154ddbc46c900a3471a5c04393ba8c9f768aeba149b367f4be441a5a2e3e"), looks := false }, kinds := [], alts := [], laidByText := true, laidKinds := [.data, .data, .data, .data, .pinned], laidTests := true, laidLooks := .later }
def KeyTogetherUptoCardSaid : Prop := Claim7.holds Tryd.pinned (.plain (OpenSpec.upto keyTogetherSpec)) keyTogetherUptoCard

/-- THE SECOND FORM's CARD OF 'skerrylaw04.KeyTells'. -/
def keyTellsUptoCard : Claim7 := { stood := { row := keyTellsUptoRow, standIns := [], harness := (true, "d4ad154ddbc46c900a3471a5c04393ba8c9f768aeba149b367f4be441a5a2e3e"), looks := false }, kinds := [], alts := [], laidByText := true, laidKinds := [.data, .data, .data, .data, .pinned], laidTests := true, laidLooks := .later }
def KeyTellsUptoCardSaid : Prop := Claim7.holds Tryd.pinned (.plain (OpenSpec.upto keyTellsSpec)) keyTellsUptoCard

/-- THE SECOND FORM's CARD OF 'skerrylaw04.KeyRows'. -/
def keyRowsUptoCard : Claim7 := { stood := { row := keyRowsUptoRow, standIns := [], harness := (true, "d4ad154ddbc46c900a3471a5c04393ba8c9f768aeba149b367f4be441a5a2e3e"), looks := false }, kinds := [], alts := [], laidByText := true, laidKinds := [.data, .data, .data, .data, .pinned], laidTests := true, laidLooks := .later }
def KeyRowsUptoCardSaid : Prop := Claim7.holds Tryd.pinned (.plain (OpenSpec.upto keyRowsSpec)) keyRowsUptoCard

/-- THE SECOND FORM's CARD OF 'skerrylaw04.KeyBytes'. -/
def keyBytesUptoCard : Claim7 := { stood := { row := keyBytesUptoRow, standIns := [], harness := (true, "d4ad154ddbc46c900a3471a5c04393ba8c9f768aeba149b367f4be441a5a2e3e"), looks := false }, kinds := [], alts := [], laidByText := true, laidKinds := [.data, .data, .data, .data, .pinned], laidTests := true, laidLooks := .later }
def KeyBytesUptoCardSaid : Prop := Claim7.holds Tryd.pinned (.plain (OpenSpec.upto keyBytesSpec)) keyBytesUptoCard

/-- THE SECOND FORM's CARD OF 'skerrylaw04.KeyOrder'. -/
def keyOrderUptoCard : Claim7 := { stood := { row := keyOrderUptoRow, standIns := [], harness := (true, "d4ad154ddbc46c900a3471a5c04393ba8c9f768aeba149b367f4be441a5a2e3e"), looks := false }, kinds := [], alts := [], laidByText := true, laidKinds := [.data, .data, .data, .data, .pinned], laidTests := true, laidLooks := .later }
def KeyOrderUptoCardSaid : Prop := Claim7.holds Tryd.pinned (.plain (OpenSpec.upto keyOrderSpec)) keyOrderUptoCard
end Rows
end Go.Proofs.YtkmcjainbhmbdaaDoor
