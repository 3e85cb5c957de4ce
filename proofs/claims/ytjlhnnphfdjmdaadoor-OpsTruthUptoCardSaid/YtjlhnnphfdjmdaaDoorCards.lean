/-
  DERIVED. GIVEN WITH THE SEED: THE CARDS: each row of YtjlhnnphfdjmdaaDoorRows.lean that lists a variable, with what it lists TIED to the program's text (the seventh form; the later family's looks); each row that meets fmt, with fmt's text TOLD by the authors' own Lean function (tested against real Go, not proved from fmt's source: count such statements apart). THE CARD IS WHAT COUNTS. Prove the row's statement (the work); the ties are given (YtjlhnnphfdjmdaaDoorTie.lean); close each card by the builder's one call (the guide's Derived/Test/ToyasCard.lean, 'card_holds'). Laid BY PROGRAM, IN A SANDBOX (cutbox-door.mjs). By AI agents, Wed Nov 11 2026. No macro, syntax, notation, axiom, sorry.
-/
import Derived.Test.YtjlhnnphfdjmdaaDoorRows
import GoSem.ClaimSeven
namespace Go.Proofs.YtjlhnnphfdjmdaaDoor
namespace Rows

/-- THE TIED CARD OF 'understudylaw4.ValuesShow'. -/
def valuesShowCard : Claim7 := { stood := { row := valuesShowRow, standIns := [], harness := (true, "4058c7b11f0d979c15d4c22aee828f5605b7fd6e8f5fddcc702de5354106847a"), looks := true }, kinds := [], alts := [], laidByText := true, laidKinds := [.data, .data, .data, .data, .pinned], laidTests := true, laidLooks := .later }
def ValuesShowCardSaid : Prop := Claim7.holds Tryd.pinned (.plain (OpenSpec.ofChange valuesShowSpec)) valuesShowCard

/-- THE TIED CARD OF 'understudylaw4.ValuesSame'. -/
def valuesSameCard : Claim7 := { stood := { row := valuesSameRow, standIns := [], harness := (true, "4058c7b11f0d979c15d4c22aee828f5605b7fd6e8f5fddcc702de5354106847a"), looks := true }, kinds := [], alts := [], laidByText := true, laidKinds := [.data, .data, .data, .data, .pinned], laidTests := true, laidLooks := .later }
def ValuesSameCardSaid : Prop := Claim7.holds Tryd.pinned (.plain (OpenSpec.ofChange valuesSameSpec)) valuesSameCard

/-- THE TIED CARD OF 'understudylaw4.ValuesTypes'. -/
def valuesTypesCard : Claim7 := { stood := { row := valuesTypesRow, standIns := [], harness := (true, "4058c7b11f0d979c15d4c22aee828f5605b7fd6e8f5fddcc702de5354106847a"), looks := true }, kinds := [], alts := [], laidByText := true, laidKinds := [.data, .data, .data, .data, .pinned], laidTests := true, laidLooks := .later }
def ValuesTypesCardSaid : Prop := Claim7.holds Tryd.pinned (.plain (OpenSpec.ofChange valuesTypesSpec)) valuesTypesCard

/-- THE TIED CARD OF 'understudylaw4.ValuesNumbers'. -/
def valuesNumbersCard : Claim7 := { stood := { row := valuesNumbersRow, standIns := [], harness := (true, "4058c7b11f0d979c15d4c22aee828f5605b7fd6e8f5fddcc702de5354106847a"), looks := true }, kinds := [], alts := [], laidByText := true, laidKinds := [.data, .data, .data, .data, .sentinel, .sentinel, .pinned], laidTests := true, laidLooks := .later }
def ValuesNumbersCardSaid : Prop := Claim7.holds Tryd.pinned (.plain (OpenSpec.ofChange valuesNumbersSpec)) valuesNumbersCard

/-- THE TIED CARD OF 'understudylaw4.ValuesTell'. -/
def valuesTellCard : Claim7 := { stood := { row := valuesTellRow, standIns := [], harness := (true, "4058c7b11f0d979c15d4c22aee828f5605b7fd6e8f5fddcc702de5354106847a"), looks := true }, kinds := [], alts := [], laidByText := true, laidKinds := [.data, .data, .data, .data, .sentinel, .sentinel, .pinned], laidTests := true, laidLooks := .later }
def ValuesTellCardSaid : Prop := Claim7.holds Tryd.pinned (.plain (OpenSpec.ofChange valuesTellSpec)) valuesTellCard

/-- THE TIED CARD OF 'understudylaw3.KeysIndex'. -/
def keysIndexCard : Claim7 := { stood := { row := keysIndexRow, standIns := [], harness := (true, "4058c7b11f0d979c15d4c22aee828f5605b7fd6e8f5fddcc702de5354106847a"), looks := true }, kinds := [], alts := [], laidByText := true, laidKinds := [.data, .data, .data, .sentinel, .sentinel], laidTests := true, laidLooks := .later }
def KeysIndexCardSaid : Prop := Claim7.holds Tryd.pinned (.plain (OpenSpec.ofChange keysIndexSpec)) keysIndexCard

/-- THE TIED CARD OF 'understudylaw3.KeysPlaces'. -/
def keysPlacesCard : Claim7 := { stood := { row := keysPlacesRow, standIns := [], harness := (true, "4058c7b11f0d979c15d4c22aee828f5605b7fd6e8f5fddcc702de5354106847a"), looks := true }, kinds := [], alts := [], laidByText := true, laidKinds := [.data, .data, .data, .sentinel, .sentinel], laidTests := true, laidLooks := .later }
def KeysPlacesCardSaid : Prop := Claim7.holds Tryd.pinned (.plain (OpenSpec.ofChange keysPlacesSpec)) keysPlacesCard

/-- THE TIED CARD OF 'understudylaw6.ArraysLength'. -/
def arraysLengthCard : Claim7 := { stood := { row := arraysLengthRow, standIns := [], harness := (true, "4058c7b11f0d979c15d4c22aee828f5605b7fd6e8f5fddcc702de5354106847a"), looks := true }, kinds := [], alts := [], laidByText := true, laidKinds := [.data, .data, .data, .sentinel, .sentinel], laidTests := true, laidLooks := .later }
def ArraysLengthCardSaid : Prop := Claim7.holds Tryd.pinned (.plain (OpenSpec.ofChange arraysLengthSpec)) arraysLengthCard

/-- THE TIED CARD OF 'understudylaw6.ArraysAgain'. -/
def arraysAgainCard : Claim7 := { stood := { row := arraysAgainRow, standIns := [], harness := (true, "4058c7b11f0d979c15d4c22aee828f5605b7fd6e8f5fddcc702de5354106847a"), looks := true }, kinds := [], alts := [], laidByText := true, laidKinds := [.data, .data, .data, .sentinel, .sentinel], laidTests := true, laidLooks := .later }
def ArraysAgainCardSaid : Prop := Claim7.holds Tryd.pinned (.plain (OpenSpec.ofChange arraysAgainSpec)) arraysAgainCard

/-- THE TIED CARD OF 'understudylaw16.OpsOrder'. -/
def opsOrderCard : Claim7 := { stood := { row := opsOrderRow, standIns := [], harness := (true, "4058c7b11f0d979c15d4c22aee828f5605b7fd6e8f5fddcc702de5354106847a"), looks := true }, kinds := [], alts := [], laidByText := true, laidKinds := [.data, .data, .data, .data, .sentinel, .sentinel, .pinned], laidTests := true, laidLooks := .later }
def OpsOrderCardSaid : Prop := Claim7.holds Tryd.pinned (.plain (OpenSpec.ofChange opsOrderSpec)) opsOrderCard

/-- THE TIED CARD OF 'understudylaw16.OpsJoin'. -/
def opsJoinCard : Claim7 := { stood := { row := opsJoinRow, standIns := [], harness := (true, "4058c7b11f0d979c15d4c22aee828f5605b7fd6e8f5fddcc702de5354106847a"), looks := true }, kinds := [], alts := [], laidByText := true, laidKinds := [.data, .data, .data, .data, .sentinel, .sentinel, .pinned], laidTests := true, laidLooks := .later }
def OpsJoinCardSaid : Prop := Claim7.holds Tryd.pinned (.plain (OpenSpec.ofChange opsJoinSpec)) opsJoinCard

/-- THE TIED CARD OF 'understudylaw16.OpsTruth'. -/
def opsTruthCard : Claim7 := { stood := { row := opsTruthRow, standIns := [], harness := (true, "4058c7b11f0d979c15d4c22aee828f5605b7fd6e8f5fddcc702de5354106847a"), looks := true }, kinds := [], alts := [], laidByText := true, laidKinds := [.data, .data, .data, .data, .sentinel, .sentinel, .pinned], laidTests := true, laidLooks := .later }
def OpsTruthCardSaid : Prop := Claim7.holds Tryd.pinned (.plain (OpenSpec.ofChange opsTruthSpec)) opsTruthCard

/-- THE SECOND FORM's CARD OF 'understudylaw4.ValuesShow'. -/
def valuesShowUptoCard : Claim7 := { stood := { row := valuesShowUptoRow, standIns := [], harness := (true, "4058c7b11f0d979c15d4c22aee828f5605b7fd6e8f5fddcc702de5354106847a"), looks := true }, kinds := [], alts := [], laidByText := true, laidKinds := [.data, .data, .data, .data, .pinned], laidTests := true, laidLooks := .later }
def ValuesShowUptoCardSaid : Prop := Claim7.holds Tryd.pinned (.plain (OpenSpec.upto valuesShowSpec)) valuesShowUptoCard

/-- THE SECOND FORM's CARD OF 'understudylaw4.ValuesSame'. -/
def valuesSameUptoCard : Claim7 := { stood := { row := valuesSameUptoRow, standIns := [], harness := (true, "4058c7b11f0d979c15d4c22aee828f5605b7fd6e8f5fddcc702de5354106847a"), looks := true }, kinds := [], alts := [], laidByText := true, laidKinds := [.data, .data, .data, .data, .pinned], laidTests := true, laidLooks := .later }
def ValuesSameUptoCardSaid : Prop := Claim7.holds Tryd.pinned (.plain (OpenSpec.upto valuesSameSpec)) valuesSameUptoCard

/-- THE SECOND FORM's CARD OF 'understudylaw4.ValuesTypes'. -/
def valuesTypesUptoCard : Claim7 := { stood := { row := valuesTypesUptoRow, standIns := [], harness := (true, "4058c7b11f0d979c15d4c22aee828f5605b7fd6e8f5fddcc702de5354106847a"), looks := true }, kinds := [], alts := [], laidByText := true, laidKinds := [.data, .data, .data, .data, .pinned], laidTests := true, laidLooks := .later }
def ValuesTypesUptoCardSaid : Prop := Claim7.holds Tryd.pinned (.plain (OpenSpec.upto valuesTypesSpec)) valuesTypesUptoCard

/-- THE SECOND FORM's CARD OF 'understudylaw4.ValuesNumbers'. -/
def valuesNumbersUptoCard : Claim7 := { stood := { row := valuesNumbersUptoRow, standIns := [], harness := (true, "4058c7b11f0d979c15d4c22aee828f5605b7fd6e8f5fddcc702de5354106847a"), looks := true }, kinds := [], alts := [], laidByText := true, laidKinds := [.data, .data, .data, .data, .sentinel, .sentinel, .pinned], laidTests := true, laidLooks := .later }
def ValuesNumbersUptoCardSaid : Prop := Claim7.holds Tryd.pinned (.plain (OpenSpec.upto valuesNumbersSpec)) valuesNumbersUptoCard

/-- THE SECOND FORM's CARD OF 'understudylaw4.ValuesTell'. -/
def valuesTellUptoCard : Claim7 := { stood := { row := valuesTellUptoRow, standIns := [], harness := (true, "4058c7b11f0d979c15d4c22aee828f5605b7fd6e8f5fddcc702de5354106847a"), looks := true }, kinds := [], alts := [], laidByText := true, laidKinds := [.data, .data, .data, .data, .sentinel, .sentinel, .pinned], laidTests := true, laidLooks := .later }
def ValuesTellUptoCardSaid : Prop := Claim7.holds Tryd.pinned (.plain (OpenSpec.upto valuesTellSpec)) valuesTellUptoCard

/-- THE SECOND FORM's CARD OF 'understudylaw3.KeysIndex'. -/
def keysIndexUptoCard : Claim7 := { stood := { row := keysIndexUptoRow, standIns := [], harness := (true, "4058c7b11f0d979c15d4c22aee828f5605b7fd6e8f5fddcc702de5354106847a"), looks := true }, kinds := [], alts := [], laidByText := true, laidKinds := [.data, .data, .data, .sentinel, .sentinel], laidTests := true, laidLooks := .later }
def KeysIndexUptoCardSaid : Prop := Claim7.holds Tryd.pinned (.plain (OpenSpec.upto keysIndexSpec)) keysIndexUptoCard

/-- THE SECOND FORM's CARD OF 'understudylaw3.KeysPlaces'. -/
def keysPlacesUptoCard : Claim7 := { stood := { row := keysPlacesUptoRow, standIns := [], harness := (true, "4058c7b11f0d979c15d4c22aee828f5605b7fd6e8f5fddcc702de5354106847a"), looks := true }, kinds := [], alts := [], laidByText := true, laidKinds := [.data, .data, .data, .sentinel, .sentinel], laidTests := true, laidLooks := .later }
def KeysPlacesUptoCardSaid : Prop := Claim7.holds Tryd.pinned (.plain (OpenSpec.upto keysPlacesSpec)) keysPlacesUptoCard

/-- THE SECOND FORM's CARD OF 'understudylaw6.ArraysLength'. -/
def arraysLengthUptoCard : Claim7 := { stood := { row := arraysLengthUptoRow, standIns := [], harness := (true, "4058c7b11f0d979c15d4c22aee828f5605b7fd6e8f5fddcc702de5354106847a"), looks := true }, kinds := [], alts := [], laidByText := true, laidKinds := [.data, .data, .data, .sentinel, .sentinel], laidTests := true, laidLooks := .later }
def ArraysLengthUptoCardSaid : Prop := Claim7.holds Tryd.pinned (.plain (OpenSpec.upto arraysLengthSpec)) arraysLengthUptoCard

/-- THE SECOND FORM's CARD OF 'understudylaw6.ArraysAgain'. -/
def arraysAgainUptoCard : Claim7 := { stood := { row := arraysAgainUptoRow, standIns := [], harness := (true, "4058c7b11f0d979c15d4c22aee828f5605b7fd6e8f5fddcc702de5354106847a"), looks := true }, kinds := [], alts := [], laidByText := true, laidKinds := [.data, .data, .data, .sentinel, .sentinel], laidTests := true, laidLooks := .later }
def ArraysAgainUptoCardSaid : Prop := Claim7.holds Tryd.pinned (.plain (OpenSpec.upto arraysAgainSpec)) arraysAgainUptoCard

/-- THE SECOND FORM's CARD OF 'understudylaw16.OpsOrder'. -/
def opsOrderUptoCard : Claim7 := { stood := { row := opsOrderUptoRow, standIns := [], harness := (true, "4058c7b11f0d979c15d4c22aee828f5605b7fd6e8f5fddcc702de5354106847a"), looks := true }, kinds := [], alts := [], laidByText := true, laidKinds := [.data, .data, .data, .data, .sentinel, .sentinel, .pinned], laidTests := true, laidLooks := .later }
def OpsOrderUptoCardSaid : Prop := Claim7.holds Tryd.pinned (.plain (OpenSpec.upto opsOrderSpec)) opsOrderUptoCard

/-- THE SECOND FORM's CARD OF 'understudylaw16.OpsJoin'. -/
def opsJoinUptoCard : Claim7 := { stood := { row := opsJoinUptoRow, standIns := [], harness := (true, "4058c7b11f0d979c15d4c22aee828f5605b7fd6e8f5fddcc702de5354106847a"), looks := true }, kinds := [], alts := [], laidByText := true, laidKinds := [.data, .data, .data, .data, .sentinel, .sentinel, .pinned], laidTests := true, laidLooks := .later }
def OpsJoinUptoCardSaid : Prop := Claim7.holds Tryd.pinned (.plain (OpenSpec.upto opsJoinSpec)) opsJoinUptoCard

/-- THE SECOND FORM's CARD OF 'understudylaw16.OpsTruth'. -/
def opsTruthUptoCard : Claim7 := { stood := { row := opsTruthUptoRow, standIns := [], harness := (true, "4058c7b11f0d979c15d4c22aee828f5605b7fd6e8f5fddcc702de5354106847a"), looks := true }, kinds := [], alts := [], laidByText := true, laidKinds := [.data, .data, .data, .data, .sentinel, .sentinel, .pinned], laidTests := true, laidLooks := .later }
def OpsTruthUptoCardSaid : Prop := Claim7.holds Tryd.pinned (.plain (OpenSpec.upto opsTruthSpec)) opsTruthUptoCard
end Rows
end Go.Proofs.YtjlhnnphfdjmdaaDoor
