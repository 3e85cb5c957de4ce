/-
  DERIVED. GIVEN WITH THE SEED: THE CARDS: each row of YtlklpdifcpjlpaaDoorRows.lean that lists a variable, with what it lists TIED to the program's text (the seventh form; the later family's looks); each row that meets fmt, with fmt's text TOLD by the authors' own Lean function (tested against real Go, not proved from fmt's source: count such statements apart). THE CARD IS WHAT COUNTS. Prove the row's statement (the work); the ties are given (YtlklpdifcpjlpaaDoorTie.lean); close each card by the builder's one call (the guide's Derived/Test/ToyasCard.lean, 'card_holds'). Laid BY PROGRAM, IN A SANDBOX (cutbox-door.mjs). By AI agents, Wed Nov 11 2026. No macro, syntax, notation, axiom, sorry.
-/
import Derived.Test.YtlklpdifcpjlpaaDoorRows
import GoSem.ClaimSeven
namespace Go.Proofs.YtlklpdifcpjlpaaDoor
namespace Rows

/-- THE TIED CARD OF 'understudylaw1.UnitsPoints'. -/
def unitsPointsCard : Claim7 := { stood := { row := unitsPointsRow, standIns := [], harness := (true, "2c7ab87b3aa89e1eda36c233f56fc827a7cf4e375ebdfe7d638fdd588b1edc00"), looks := true }, kinds := [], alts := [], laidByText := true, laidKinds := [.data, .pinned], laidTests := true, laidLooks := .later }
def UnitsPointsCardSaid : Prop := Claim7.holds Tryd.pinned (.plain (OpenSpec.ofChange unitsPointsSpec)) unitsPointsCard

/-- THE TIED CARD OF 'understudylaw1.UnitsOf'. -/
def unitsOfCard : Claim7 := { stood := { row := unitsOfRow, standIns := [], harness := (true, "2c7ab87b3aa89e1eda36c233f56fc827a7cf4e375ebdfe7d638fdd588b1edc00"), looks := true }, kinds := [], alts := [], laidByText := true, laidKinds := [.data, .pinned], laidTests := true, laidLooks := .later }
def UnitsOfCardSaid : Prop := Claim7.holds Tryd.pinned (.plain (OpenSpec.ofChange unitsOfSpec)) unitsOfCard

/-- THE TIED CARD OF 'understudylaw1.UnitsText'. -/
def unitsTextCard : Claim7 := { stood := { row := unitsTextRow, standIns := [], harness := (true, "2c7ab87b3aa89e1eda36c233f56fc827a7cf4e375ebdfe7d638fdd588b1edc00"), looks := true }, kinds := [], alts := [], laidByText := true, laidKinds := [.data, .pinned], laidTests := true, laidLooks := .later }
def UnitsTextCardSaid : Prop := Claim7.holds Tryd.pinned (.plain (OpenSpec.ofChange unitsTextSpec)) unitsTextCard

/-- THE TIED CARD OF 'understudylaw1.UnitsJoin'. -/
def unitsJoinCard : Claim7 := { stood := { row := unitsJoinRow, standIns := [], harness := (true, "2c7ab87b3aa89e1eda36c233f56fc827a7cf4e375ebdfe7d638fdd588b1edc00"), looks := true }, kinds := [], alts := [], laidByText := true, laidKinds := [.data, .pinned], laidTests := true, laidLooks := .later }
def UnitsJoinCardSaid : Prop := Claim7.holds Tryd.pinned (.plain (OpenSpec.ofChange unitsJoinSpec)) unitsJoinCard

/-- THE TIED CARD OF 'understudylaw1.UnitsCut'. -/
def unitsCutCard : Claim7 := { stood := { row := unitsCutRow, standIns := [], harness := (true, "2c7ab87b3aa89e1eda36c233f56fc827a7cf4e375ebdfe7d638fdd588b1edc00"), looks := true }, kinds := [], alts := [], laidByText := true, laidKinds := [.data, .pinned], laidTests := true, laidLooks := .later }
def UnitsCutCardSaid : Prop := Claim7.holds Tryd.pinned (.plain (OpenSpec.ofChange unitsCutSpec)) unitsCutCard

/-- THE TIED CARD OF 'understudylaw2.NumbersDo'. -/
def numbersDoCard : Claim7 := { stood := { row := numbersDoRow, standIns := [], harness := (true, "2c7ab87b3aa89e1eda36c233f56fc827a7cf4e375ebdfe7d638fdd588b1edc00"), looks := true }, kinds := [], alts := [], laidByText := true, laidKinds := [.data, .data, .data], laidTests := true, laidLooks := .later }
def NumbersDoCardSaid : Prop := Claim7.holds Tryd.pinned (.plain (OpenSpec.ofChange numbersDoSpec)) numbersDoCard

/-- THE TIED CARD OF 'understudylaw2.NumbersLaws'. -/
def numbersLawsCard : Claim7 := { stood := { row := numbersLawsRow, standIns := [], harness := (true, "2c7ab87b3aa89e1eda36c233f56fc827a7cf4e375ebdfe7d638fdd588b1edc00"), looks := true }, kinds := [], alts := [], laidByText := true, laidKinds := [.data, .data, .data], laidTests := true, laidLooks := .later }
def NumbersLawsCardSaid : Prop := Claim7.holds Tryd.pinned (.plain (OpenSpec.ofChange numbersLawsSpec)) numbersLawsCard

/-- THE TIED CARD OF 'understudylaw2.NumbersBack'. -/
def numbersBackCard : Claim7 := { stood := { row := numbersBackRow, standIns := [], harness := (true, "2c7ab87b3aa89e1eda36c233f56fc827a7cf4e375ebdfe7d638fdd588b1edc00"), looks := true }, kinds := [], alts := [], laidByText := true, laidKinds := [.data, .data, .data], laidTests := true, laidLooks := .later }
def NumbersBackCardSaid : Prop := Claim7.holds Tryd.pinned (.plain (OpenSpec.ofChange numbersBackSpec)) numbersBackCard

/-- THE TIED CARD OF 'understudylaw2.NumbersTexts'. -/
def numbersTextsCard : Claim7 := { stood := { row := numbersTextsRow, standIns := [], harness := (true, "2c7ab87b3aa89e1eda36c233f56fc827a7cf4e375ebdfe7d638fdd588b1edc00"), looks := true }, kinds := [], alts := [], laidByText := true, laidKinds := [.data, .data, .data, .sentinel, .sentinel], laidTests := true, laidLooks := .later }
def NumbersTextsCardSaid : Prop := Claim7.holds Tryd.pinned (.plain (OpenSpec.ofChange numbersTextsSpec)) numbersTextsCard

/-- THE TIED CARD OF 'understudylaw23.GenLots'. -/
def genLotsCard : Claim7 := { stood := { row := genLotsRow, standIns := [], harness := (true, "2c7ab87b3aa89e1eda36c233f56fc827a7cf4e375ebdfe7d638fdd588b1edc00"), looks := true }, kinds := [], alts := [], laidByText := true, laidKinds := [.data, .data, .data, .data, .pinned], laidTests := true, laidLooks := .later }
def GenLotsCardSaid : Prop := Claim7.holds Tryd.pinned (.plain (OpenSpec.ofChange genLotsSpec)) genLotsCard

/-- THE SECOND FORM's CARD OF 'understudylaw1.UnitsPoints'. -/
def unitsPointsUptoCard : Claim7 := { stood := { row := unitsPointsUptoRow, standIns := [], harness := (true, "2c7ab87b3aa89e1eda36c233f56fc827a7cf4e375ebdfe7d638fdd588b1edc00"), looks := true }, kinds := [], alts := [], laidByText := true, laidKinds := [.data, .pinned], laidTests := true, laidLooks := .later }
def UnitsPointsUptoCardSaid : Prop := Claim7.holds Tryd.pinned (.plain (OpenSpec.upto unitsPointsSpec)) unitsPointsUptoCard

/-- THE SECOND FORM's CARD OF 'understudylaw1.UnitsOf'. -/
def unitsOfUptoCard : Claim7 := { stood := { row := unitsOfUptoRow, standIns := [], harness := (true, "2c7ab87b3aa89e1eda36c233f56fc827a7cf4e375ebdfe7d638fdd588b1edc00"), looks := true }, kinds := [], alts := [], laidByText := true, laidKinds := [.data, .pinned], laidTests := true, laidLooks := .later }
def UnitsOfUptoCardSaid : Prop := Claim7.holds Tryd.pinned (.plain (OpenSpec.upto unitsOfSpec)) unitsOfUptoCard

/-- THE SECOND FORM's CARD OF 'understudylaw1.UnitsText'. -/
def unitsTextUptoCard : Claim7 := { stood := { row := unitsTextUptoRow, standIns := [], harness := (true, "2c7ab87b3aa89e1eda36c233f56fc827a7cf4e375ebdfe7d638fdd588b1edc00"), looks := true }, kinds := [], alts := [], laidByText := true, laidKinds := [.data, .pinned], laidTests := true, laidLooks := .later }
def UnitsTextUptoCardSaid : Prop := Claim7.holds Tryd.pinned (.plain (OpenSpec.upto unitsTextSpec)) unitsTextUptoCard

/-- THE SECOND FORM's CARD OF 'understudylaw1.UnitsJoin'. -/
def unitsJoinUptoCard : Claim7 := { stood := { row := unitsJoinUptoRow, standIns := [], harness := (true, "2c7ab87b3aa89e1eda36c233f56fc827a7cf4e375ebdfe7d638fdd588b1edc00"), looks := true }, kinds := [], alts := [], laidByText := true, laidKinds := [.data, .pinned], laidTests := true, laidLooks := .later }
def UnitsJoinUptoCardSaid : Prop := Claim7.holds Tryd.pinned (.plain (OpenSpec.upto unitsJoinSpec)) unitsJoinUptoCard

/-- THE SECOND FORM's CARD OF 'understudylaw1.UnitsCut'. -/
def unitsCutUptoCard : Claim7 := { stood := { row := unitsCutUptoRow, standIns := [], harness := (true, "2c7ab87b3aa89e1eda36c233f56fc827a7cf4e375ebdfe7d638fdd588b1edc00"), looks := true }, kinds := [], alts := [], laidByText := true, laidKinds := [.data, .pinned], laidTests := true, laidLooks := .later }
def UnitsCutUptoCardSaid : Prop := Claim7.holds Tryd.pinned (.plain (OpenSpec.upto unitsCutSpec)) unitsCutUptoCard

/-- THE SECOND FORM's CARD OF 'understudylaw2.NumbersDo'. -/
def numbersDoUptoCard : Claim7 := { stood := { row := numbersDoUptoRow, standIns := [], harness := (true, "2c7ab87b3aa89e1eda36c233f56fc827a7cf4e375ebdfe7d638fdd588b1edc00"), looks := true }, kinds := [], alts := [], laidByText := true, laidKinds := [.data, .data, .data], laidTests := true, laidLooks := .later }
def NumbersDoUptoCardSaid : Prop := Claim7.holds Tryd.pinned (.plain (OpenSpec.upto numbersDoSpec)) numbersDoUptoCard

/-- THE SECOND FORM's CARD OF 'understudylaw2.NumbersLaws'. -/
def numbersLawsUptoCard : Claim7 := { stood := { row := numbersLawsUptoRow, standIns := [], harness := (true, "2c7ab87b3aa89e1eda36c233f56fc827a7cf4e375ebdfe7d638fdd588b1edc00"), looks := true }, kinds := [], alts := [], laidByText := true, laidKinds := [.data, .data, .data], laidTests := true, laidLooks := .later }
def NumbersLawsUptoCardSaid : Prop := Claim7.holds Tryd.pinned (.plain (OpenSpec.upto numbersLawsSpec)) numbersLawsUptoCard

/-- THE SECOND FORM's CARD OF 'understudylaw2.NumbersBack'. -/
def numbersBackUptoCard : Claim7 := { stood := { row := numbersBackUptoRow, standIns := [], harness := (true, "2c7ab87b3aa89e1eda36c233f56fc827a7cf4e375ebdfe7d638fdd588b1edc00"), looks := true }, kinds := [], alts := [], laidByText := true, laidKinds := [.data, .data, .data], laidTests := true, laidLooks := .later }
def NumbersBackUptoCardSaid : Prop := Claim7.holds Tryd.pinned (.plain (OpenSpec.upto numbersBackSpec)) numbersBackUptoCard

/-- THE SECOND FORM's CARD OF 'understudylaw2.NumbersTexts'. -/
def numbersTextsUptoCard : Claim7 := { stood := { row := numbersTextsUptoRow, standIns := [], harness := (true, "2c7ab87b3aa89e1eda36c233f56fc827a7cf4e375ebdfe7d638fdd588b1edc00"), looks := true }, kinds := [], alts := [], laidByText := true, laidKinds := [.data, .data, .data, .sentinel, .sentinel], laidTests := true, laidLooks := .later }
def NumbersTextsUptoCardSaid : Prop := Claim7.holds Tryd.pinned (.plain (OpenSpec.upto numbersTextsSpec)) numbersTextsUptoCard

/-- THE SECOND FORM's CARD OF 'understudylaw23.GenLots'. -/
def genLotsUptoCard : Claim7 := { stood := { row := genLotsUptoRow, standIns := [], harness := (true, "2c7ab87b3aa89e1eda36c233f56fc827a7cf4e375ebdfe7d638fdd588b1edc00"), looks := true }, kinds := [], alts := [], laidByText := true, laidKinds := [.data, .data, .data, .data, .pinned], laidTests := true, laidLooks := .later }
def GenLotsUptoCardSaid : Prop := Claim7.holds Tryd.pinned (.plain (OpenSpec.upto genLotsSpec)) genLotsUptoCard
end Rows
end Go.Proofs.YtlklpdifcpjlpaaDoor
