/-
  DERIVED. GIVEN WITH THE SEED: THE CARDS: each row of YtplghaoflmaadaaGreatDoorRows.lean that lists a variable, with what it lists TIED to the program's text (the seventh form; the later family's looks); each row that meets fmt, with fmt's text TOLD by the authors' own Lean function (tested against real Go, not proved from fmt's source: count such statements apart). THE CARD IS WHAT COUNTS. Prove the row's statement (the work); the ties are given (YtplghaoflmaadaaGreatDoorTie.lean); close each card by the builder's one call (the guide's Derived/Test/ToyasCard.lean, 'card_holds'). Laid BY PROGRAM, IN A SANDBOX (cutbox-door.mjs). By AI agents, Wed Nov 11 2026. No macro, syntax, notation, axiom, sorry.
-/
import Derived.Test.YtplghaoflmaadaaGreatDoorRows
import GoSem.ClaimSeven
namespace Go.Proofs.YtplghaoflmaadaaGreatDoor
namespace Rows

/-- THE TIED CARD OF 'skerrylaw09.TableWrites'. -/
def tableWritesCard : Claim7 := { stood := { row := tableWritesRow, standIns := [], harness := (true, "5228bf3c1d55428877102ec8bd77ab48e4f8306ddc6cfc994faa64755891979e"), looks := true }, kinds := [], alts := [], laidByText := true, laidKinds := [.data, .pinned], laidTests := true, laidLooks := .later }
def TableWritesCardSaid : Prop := Claim7.holds Tryz.pinned (.plain (OpenSpec.ofChange tableWritesSpec)) tableWritesCard

/-- THE TIED CARD OF 'skerrylaw09.TableOpens'. -/
def tableOpensCard : Claim7 := { stood := { row := tableOpensRow, standIns := [], harness := (true, "5228bf3c1d55428877102ec8bd77ab48e4f8306ddc6cfc994faa64755891979e"), looks := true }, kinds := [], alts := [], laidByText := true, laidKinds := [.data, .pinned], laidTests := true, laidLooks := .later }
def TableOpensCardSaid : Prop := Claim7.holds Tryz.pinned (.plain (OpenSpec.ofChange tableOpensSpec)) tableOpensCard

/-- THE TIED CARD OF 'skerrylaw09.TableNone'. -/
def tableNoneCard : Claim7 := { stood := { row := tableNoneRow, standIns := [], harness := (true, "5228bf3c1d55428877102ec8bd77ab48e4f8306ddc6cfc994faa64755891979e"), looks := true }, kinds := [], alts := [], laidByText := true, laidKinds := [.data, .pinned], laidTests := true, laidLooks := .later }
def TableNoneCardSaid : Prop := Claim7.holds Tryz.pinned (.plain (OpenSpec.ofChange tableNoneSpec)) tableNoneCard

/-- THE TIED CARD OF 'skerrylaw09.TableTells'. -/
def tableTellsCard : Claim7 := { stood := { row := tableTellsRow, standIns := [], harness := (true, "5228bf3c1d55428877102ec8bd77ab48e4f8306ddc6cfc994faa64755891979e"), looks := true }, kinds := [], alts := [], laidByText := true, laidKinds := [.data, .pinned], laidTests := true, laidLooks := .later }
def TableTellsCardSaid : Prop := Claim7.holds Tryz.pinned (.plain (OpenSpec.ofChange tableTellsSpec)) tableTellsCard

/-- THE TIED CARD OF 'skerrylaw09.TableScans'. -/
def tableScansCard : Claim7 := { stood := { row := tableScansRow, standIns := [], harness := (true, "5228bf3c1d55428877102ec8bd77ab48e4f8306ddc6cfc994faa64755891979e"), looks := true }, kinds := [], alts := [], laidByText := true, laidKinds := [.data, .pinned], laidTests := true, laidLooks := .later }
def TableScansCardSaid : Prop := Claim7.holds Tryz.pinned (.plain (OpenSpec.ofChange tableScansSpec)) tableScansCard

/-- THE TIED CARD OF 'skerrylaw09.TableEnds'. -/
def tableEndsCard : Claim7 := { stood := { row := tableEndsRow, standIns := [], harness := (true, "5228bf3c1d55428877102ec8bd77ab48e4f8306ddc6cfc994faa64755891979e"), looks := true }, kinds := [], alts := [], laidByText := true, laidKinds := [.data, .pinned], laidTests := true, laidLooks := .later }
def TableEndsCardSaid : Prop := Claim7.holds Tryz.pinned (.plain (OpenSpec.ofChange tableEndsSpec)) tableEndsCard

/-- THE TIED CARD OF 'skerrylaw09.TableBack'. -/
def tableBackCard : Claim7 := { stood := { row := tableBackRow, standIns := [], harness := (true, "5228bf3c1d55428877102ec8bd77ab48e4f8306ddc6cfc994faa64755891979e"), looks := true }, kinds := [], alts := [], laidByText := true, laidKinds := [.data, .pinned], laidTests := true, laidLooks := .later }
def TableBackCardSaid : Prop := Claim7.holds Tryz.pinned (.plain (OpenSpec.ofChange tableBackSpec)) tableBackCard

/-- THE SECOND FORM's CARD OF 'skerrylaw09.TableWrites'. -/
def tableWritesUptoCard : Claim7 := { stood := { row := tableWritesUptoRow, standIns := [], harness := (true, "5228bf3c1d55428877102ec8bd77ab48e4f8306ddc6cfc994faa64755891979e"), looks := true }, kinds := [], alts := [], laidByText := true, laidKinds := [.data, .pinned], laidTests := true, laidLooks := .later }
def TableWritesUptoCardSaid : Prop := Claim7.holds Tryz.pinned (.plain (OpenSpec.upto tableWritesSpec)) tableWritesUptoCard

/-- THE SECOND FORM's CARD OF 'skerrylaw09.TableOpens'. -/
def tableOpensUptoCard : Claim7 := { stood := { row := tableOpensUptoRow, standIns := [], harness := (true, "5228bf3c1d55428877102ec8bd77ab48e4f8306ddc6cfc994faa64755891979e"), looks := true }, kinds := [], alts := [], laidByText := true, laidKinds := [.data, .pinned], laidTests := true, laidLooks := .later }
def TableOpensUptoCardSaid : Prop := Claim7.holds Tryz.pinned (.plain (OpenSpec.upto tableOpensSpec)) tableOpensUptoCard

/-- THE SECOND FORM's CARD OF 'skerrylaw09.TableNone'. -/
def tableNoneUptoCard : Claim7 := { stood := { row := tableNoneUptoRow, standIns := [], harness := (true, "5228bf3c1d55428877102ec8bd77ab48e4f8306ddc6cfc994faa64755891979e"), looks := true }, kinds := [], alts := [], laidByText := true, laidKinds := [.data, .pinned], laidTests := true, laidLooks := .later }
def TableNoneUptoCardSaid : Prop := Claim7.holds Tryz.pinned (.plain (OpenSpec.upto tableNoneSpec)) tableNoneUptoCard

/-- THE SECOND FORM's CARD OF 'skerrylaw09.TableTells'. -/
def tableTellsUptoCard : Claim7 := { stood := { row := tableTellsUptoRow, standIns := [], harness := (true, "5228bf3c1d55428877102ec8bd77ab48e4f8306ddc6cfc994faa64755891979e"), looks := true }, kinds := [], alts := [], laidByText := true, laidKinds := [.data, .pinned], laidTests := true, laidLooks := .later }
def TableTellsUptoCardSaid : Prop := Claim7.holds Tryz.pinned (.plain (OpenSpec.upto tableTellsSpec)) tableTellsUptoCard

/-- THE SECOND FORM's CARD OF 'skerrylaw09.TableScans'. -/
def tableScansUptoCard : Claim7 := { stood := { row := tableScansUptoRow, standIns := [], harness := (true, "5228bf3c1d55428877102ec8bd77ab48e4f8306ddc6cfc994faa64755891979e"), looks := true }, kinds := [], alts := [], laidByText := true, laidKinds := [.data, .pinned], laidTests := true, laidLooks := .later }
def TableScansUptoCardSaid : Prop := Claim7.holds Tryz.pinned (.plain (OpenSpec.upto tableScansSpec)) tableScansUptoCard

/-- THE SECOND FORM's CARD OF 'skerrylaw09.TableEnds'. -/
def tableEndsUptoCard : Claim7 := { stood := { row := tableEndsUptoRow, standIns := [], harness := (true, "5228bf3c1d55428877102ec8bd77ab48e4f8306ddc6cfc994faa64755891979e"), looks := true }, kinds := [], alts := [], laidByText := true, laidKinds := [.data, .pinned], laidTests := true, laidLooks := .later }
def TableEndsUptoCardSaid : Prop := Claim7.holds Tryz.pinned (.plain (OpenSpec.upto tableEndsSpec)) tableEndsUptoCard

/-- THE SECOND FORM's CARD OF 'skerrylaw09.TableBack'. -/
def tableBackUptoCard : Claim7 := { stood := { row := tableBackUptoRow, standIns := [], harness := (true, "5228bf3c1d55428877102ec8bd77ab48e4f8306ddc6cfc994faa64755891979e"), looks := true }, kinds := [], alts := [], laidByText := true, laidKinds := [.data, .pinned], laidTests := true, laidLooks := .later }
def TableBackUptoCardSaid : Prop := Claim7.holds Tryz.pinned (.plain (OpenSpec.upto tableBackSpec)) tableBackUptoCard
end Rows
end Go.Proofs.YtplghaoflmaadaaGreatDoor
