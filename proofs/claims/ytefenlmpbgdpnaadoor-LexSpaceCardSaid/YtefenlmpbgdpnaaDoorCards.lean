/-
  DERIVED. GIVEN WITH THE SEED: THE CARDS: each row of YtefenlmpbgdpnaaDoorRows.lean that lists a variable, with what it lists TIED to the program's text (the seventh form; the later family's looks); each row that meets fmt, with fmt's text TOLD by the authors' own Lean function (tested against real Go, not proved from fmt's source: count such statements apart). THE CARD IS WHAT COUNTS. Prove the row's statement (the work); the ties are given (YtefenlmpbgdpnaaDoorTie.lean); close each card by the builder's one call (the guide's Derived/Test/ToyasCard.lean, 'card_holds'). Laid BY PROGRAM, IN A SANDBOX (cutbox-door.mjs). By AI agents, Wed Nov 11 2026. No macro, syntax, notation, axiom, sorry.
-/
import Derived.Test.YtefenlmpbgdpnaaDoorRows
import GoSem.ClaimSeven
namespace Go.Proofs.YtefenlmpbgdpnaaDoor
namespace Rows

/-- THE TIED CARD OF 'understudylaw12.LexWords'. -/
def lexWordsCard : Claim7 := { stood := { row := lexWordsRow, standIns := [], harness := (true, "5b2e82279a93df9ec3b2e27a540badabd1e83d8b84947507ac3aeaddcb36dbb9"), looks := true }, kinds := [], alts := [], laidByText := true, laidKinds := [.data, .listed, .data, .pinned, .pinned], laidTests := true, laidLooks := .later }
def LexWordsCardSaid : Prop := Claim7.holds Tryd.pinned (.plain (OpenSpec.ofChange lexWordsSpec)) lexWordsCard

/-- THE TIED CARD OF 'understudylaw12.LexSpace'. -/
def lexSpaceCard : Claim7 := { stood := { row := lexSpaceRow, standIns := [], harness := (true, "5b2e82279a93df9ec3b2e27a540badabd1e83d8b84947507ac3aeaddcb36dbb9"), looks := true }, kinds := [], alts := [], laidByText := true, laidKinds := [.data, .listed, .data, .pinned, .pinned], laidTests := true, laidLooks := .later }
def LexSpaceCardSaid : Prop := Claim7.holds Tryd.pinned (.plain (OpenSpec.ofChange lexSpaceSpec)) lexSpaceCard

/-- THE TIED CARD OF 'understudylaw12.LexLong'. -/
def lexLongCard : Claim7 := { stood := { row := lexLongRow, standIns := [], harness := (true, "5b2e82279a93df9ec3b2e27a540badabd1e83d8b84947507ac3aeaddcb36dbb9"), looks := true }, kinds := [], alts := [], laidByText := true, laidKinds := [.data, .listed, .data, .pinned, .pinned], laidTests := true, laidLooks := .later }
def LexLongCardSaid : Prop := Claim7.holds Tryd.pinned (.plain (OpenSpec.ofChange lexLongSpec)) lexLongCard

/-- THE TIED CARD OF 'understudylaw12.LexStrings'. -/
def lexStringsCard : Claim7 := { stood := { row := lexStringsRow, standIns := [], harness := (true, "5b2e82279a93df9ec3b2e27a540badabd1e83d8b84947507ac3aeaddcb36dbb9"), looks := true }, kinds := [], alts := [], laidByText := true, laidKinds := [.data, .listed, .data, .pinned, .pinned], laidTests := true, laidLooks := .later }
def LexStringsCardSaid : Prop := Claim7.holds Tryd.pinned (.plain (OpenSpec.ofChange lexStringsSpec)) lexStringsCard

/-- THE TIED CARD OF 'understudylaw12.LexNumbers'. -/
def lexNumbersCard : Claim7 := { stood := { row := lexNumbersRow, standIns := [], harness := (true, "5b2e82279a93df9ec3b2e27a540badabd1e83d8b84947507ac3aeaddcb36dbb9"), looks := true }, kinds := [], alts := [], laidByText := true, laidKinds := [.data, .listed, .data, .pinned, .pinned], laidTests := true, laidLooks := .later }
def LexNumbersCardSaid : Prop := Claim7.holds Tryd.pinned (.plain (OpenSpec.ofChange lexNumbersSpec)) lexNumbersCard

/-- THE TIED CARD OF 'understudylaw12.LexNames'. -/
def lexNamesCard : Claim7 := { stood := { row := lexNamesRow, standIns := [], harness := (true, "5b2e82279a93df9ec3b2e27a540badabd1e83d8b84947507ac3aeaddcb36dbb9"), looks := true }, kinds := [], alts := [], laidByText := true, laidKinds := [.data, .listed, .data, .pinned, .pinned], laidTests := true, laidLooks := .later }
def LexNamesCardSaid : Prop := Claim7.holds Tryd.pinned (.plain (OpenSpec.ofChange lexNamesSpec)) lexNamesCard

/-- THE TIED CARD OF 'understudylaw8.HeapOrder'. -/
def heapOrderCard : Claim7 := { stood := { row := heapOrderRow, standIns := [], harness := (true, "5b2e82279a93df9ec3b2e27a540badabd1e83d8b84947507ac3aeaddcb36dbb9"), looks := true }, kinds := [], alts := [], laidByText := true, laidKinds := [.data, .data, .data, .sentinel, .sentinel], laidTests := true, laidLooks := .later }
def HeapOrderCardSaid : Prop := Claim7.holds Tryd.pinned (.plain (OpenSpec.ofChange heapOrderSpec)) heapOrderCard

/-- THE SECOND FORM's CARD OF 'understudylaw12.LexWords'. -/
def lexWordsUptoCard : Claim7 := { stood := { row := lexWordsUptoRow, standIns := [], harness := (true, "5b2e82279a93df9ec3b2e27a540badabd1e83d8b84947507ac3aeaddcb36dbb9"), looks := true }, kinds := [], alts := [], laidByText := true, laidKinds := [.data, .listed, .data, .pinned, .pinned], laidTests := true, laidLooks := .later }
def LexWordsUptoCardSaid : Prop := Claim7.holds Tryd.pinned (.plain (OpenSpec.upto lexWordsSpec)) lexWordsUptoCard

/-- THE SECOND FORM's CARD OF 'understudylaw12.LexSpace'. -/
def lexSpaceUptoCard : Claim7 := { stood := { row := lexSpaceUptoRow, standIns := [], harness := (true, "5b2e82279a93df9ec3b2e27a540badabd1e83d8b84947507ac3aeaddcb36dbb9"), looks := true }, kinds := [], alts := [], laidByText := true, laidKinds := [.data, .listed, .data, .pinned, .pinned], laidTests := true, laidLooks := .later }
def LexSpaceUptoCardSaid : Prop := Claim7.holds Tryd.pinned (.plain (OpenSpec.upto lexSpaceSpec)) lexSpaceUptoCard

/-- THE SECOND FORM's CARD OF 'understudylaw12.LexLong'. -/
def lexLongUptoCard : Claim7 := { stood := { row := lexLongUptoRow, standIns := [], harness := (true, "5b2e82279a93df9ec3b2e27a540badabd1e83d8b84947507ac3aeaddcb36dbb9"), looks := true }, kinds := [], alts := [], laidByText := true, laidKinds := [.data, .listed, .data, .pinned, .pinned], laidTests := true, laidLooks := .later }
def LexLongUptoCardSaid : Prop := Claim7.holds Tryd.pinned (.plain (OpenSpec.upto lexLongSpec)) lexLongUptoCard

/-- THE SECOND FORM's CARD OF 'understudylaw12.LexStrings'. -/
def lexStringsUptoCard : Claim7 := { stood := { row := lexStringsUptoRow, standIns := [], harness := (true, "5b2e82279a93df9ec3b2e27a540badabd1e83d8b84947507ac3aeaddcb36dbb9"), looks := true }, kinds := [], alts := [], laidByText := true, laidKinds := [.data, .listed, .data, .pinned, .pinned], laidTests := true, laidLooks := .later }
def LexStringsUptoCardSaid : Prop := Claim7.holds Tryd.pinned (.plain (OpenSpec.upto lexStringsSpec)) lexStringsUptoCard

/-- THE SECOND FORM's CARD OF 'understudylaw12.LexNumbers'. -/
def lexNumbersUptoCard : Claim7 := { stood := { row := lexNumbersUptoRow, standIns := [], harness := (true, "5b2e82279a93df9ec3b2e27a540badabd1e83d8b84947507ac3aeaddcb36dbb9"), looks := true }, kinds := [], alts := [], laidByText := true, laidKinds := [.data, .listed, .data, .pinned, .pinned], laidTests := true, laidLooks := .later }
def LexNumbersUptoCardSaid : Prop := Claim7.holds Tryd.pinned (.plain (OpenSpec.upto lexNumbersSpec)) lexNumbersUptoCard

/-- THE SECOND FORM's CARD OF 'understudylaw12.LexNames'. -/
def lexNamesUptoCard : Claim7 := { stood := { row := lexNamesUptoRow, standIns := [], harness := (true, "5b2e82279a93df9ec3b2e27a540badabd1e83d8b84947507ac3aeaddcb36dbb9"), looks := true }, kinds := [], alts := [], laidByText := true, laidKinds := [.data, .listed, .data, .pinned, .pinned], laidTests := true, laidLooks := .later }
def LexNamesUptoCardSaid : Prop := Claim7.holds Tryd.pinned (.plain (OpenSpec.upto lexNamesSpec)) lexNamesUptoCard

/-- THE SECOND FORM's CARD OF 'understudylaw8.HeapOrder'. -/
def heapOrderUptoCard : Claim7 := { stood := { row := heapOrderUptoRow, standIns := [], harness := (true, "5b2e82279a93df9ec3b2e27a540badabd1e83d8b84947507ac3aeaddcb36dbb9"), looks := true }, kinds := [], alts := [], laidByText := true, laidKinds := [.data, .data, .data, .sentinel, .sentinel], laidTests := true, laidLooks := .later }
def HeapOrderUptoCardSaid : Prop := Claim7.holds Tryd.pinned (.plain (OpenSpec.upto heapOrderSpec)) heapOrderUptoCard
end Rows
end Go.Proofs.YtefenlmpbgdpnaaDoor
