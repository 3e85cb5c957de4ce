/-
  NARROWER THAN 'FOR EVERY INPUT', by the rows' own cells (each row's printed sentence says how): UnitsPoints: laid · UnitsOf: laid · UnitsText: laid · UnitsJoin: laid · UnitsCut: laid · NumbersDo: laid · NumbersLaws: laid · NumbersBack: laid · NumbersTexts: laid · GenLots: laid.
  DERIVED. THE GIVEN ROWS OF THIS SEAT. 10 by the template 'for every input the law returns true; each argument reads behind the call as it read before'; 0 by the template 'total and deterministic' (their statements: YtlklpdifcpjlpaaDoorTotals.lean).
  GIVEN WITH THE SEED: the statements are not yours to turn. If you find one false, say at which input.
  Laid BY PROGRAM, IN A SANDBOX (cutbox-rows.mjs): the forced cells as the released guide's own fill.sh prints them over the translation 8599a0aeed18d88a… (all of the seat's roots in one cut). By AI agents, Wed Nov 11 2026. No macro, syntax, notation, axiom, sorry.
-/
import Derived.Test.YtlklpdifcpjlpaaDoorChecked
import GoSem.PinnedTables
import GoSem.Claim
import GoSem.ClaimJoined
import GoSem.ClaimMapViews
import Derived.JoinedTies
import Derived.KernelRfl
namespace Go.Proofs.YtlklpdifcpjlpaaDoor
/- THE CELL 'sum', in the pinned program and in every row, IS THE sha256 OF THE DUMP (.gsa) THAT YtlklpdifcpjlpaaDoorProg.lean LOADS. Nothing in Lean hashes anything: it is a label: what it is worth is what the hold of that sum in a sandbox is worth. -/
noncomputable def Tryd.pinned : Pinned := { name := "ytlklpdifcpjlpaadoor", sum := "8599a0aeed18d88a0cf4024d402ac283334804594a3128037e963eaf32587680", checked := Tryd.checked }
namespace Rows
def none {H : Type} : Left H := { results := [], args := [] }

/- WHAT THE LISTED PACKAGE-LEVEL VARIABLES READ AS WHEN THE CALL BEGINS. Each datum BY PROGRAM (the guide's laid-datum.mjs) off the statement by which the dump's own 'gosem.cut.vars' lays the variable. In a bare row this is a premise. The card (YtlklpdifcpjlpaaDoorCards.lean) ties it to the program's text. -/
def laid_unicode_utf8_acceptRanges {H : Type} : DataW H := .agg [.agg [.lit (.int .u8 128), .lit (.int .u8 191)], .agg [.lit (.int .u8 160), .lit (.int .u8 191)], .agg [.lit (.int .u8 128), .lit (.int .u8 159)], .agg [.lit (.int .u8 144), .lit (.int .u8 191)], .agg [.lit (.int .u8 128), .lit (.int .u8 143)], .agg [.lit (.int .u8 0), .lit (.int .u8 0)], .agg [.lit (.int .u8 0), .lit (.int .u8 0)], .agg [.lit (.int .u8 0), .lit (.int .u8 0)], .agg [.lit (.int .u8 0), .lit (.int .u8 0)], .agg [.lit (.int .u8 0), .lit (.int .u8 0)], .agg [.lit (.int .u8 0), .lit (.int .u8 0)], .agg [.lit (.int .u8 0), .lit (.int .u8 0)], .agg [.lit (.int .u8 0), .lit (.int .u8 0)], .agg [.lit (.int .u8 0), .lit (.int .u8 0)], .agg [.lit (.int .u8 0), .lit (.int .u8 0)], .agg [.lit (.int .u8 0), .lit (.int .u8 0)]]
/-- One of Go's own tables, pinned by name: the form's constant. -/
def laid_unicode_utf8_first : DataW Unit := Go.Pinned.utf8First
def laid_math_bits_deBruijn32tab {H : Type} : DataW H := .agg [.lit (.int .u8 0), .lit (.int .u8 1), .lit (.int .u8 28), .lit (.int .u8 2), .lit (.int .u8 29), .lit (.int .u8 14), .lit (.int .u8 24), .lit (.int .u8 3), .lit (.int .u8 30), .lit (.int .u8 22), .lit (.int .u8 20), .lit (.int .u8 15), .lit (.int .u8 25), .lit (.int .u8 17), .lit (.int .u8 4), .lit (.int .u8 8), .lit (.int .u8 31), .lit (.int .u8 27), .lit (.int .u8 13), .lit (.int .u8 23), .lit (.int .u8 21), .lit (.int .u8 19), .lit (.int .u8 16), .lit (.int .u8 7), .lit (.int .u8 26), .lit (.int .u8 12), .lit (.int .u8 18), .lit (.int .u8 6), .lit (.int .u8 11), .lit (.int .u8 5), .lit (.int .u8 10), .lit (.int .u8 9)]
def laid_math_bits_deBruijn64tab {H : Type} : DataW H := .agg [.lit (.int .u8 0), .lit (.int .u8 1), .lit (.int .u8 56), .lit (.int .u8 2), .lit (.int .u8 57), .lit (.int .u8 49), .lit (.int .u8 28), .lit (.int .u8 3), .lit (.int .u8 61), .lit (.int .u8 58), .lit (.int .u8 42), .lit (.int .u8 50), .lit (.int .u8 38), .lit (.int .u8 29), .lit (.int .u8 17), .lit (.int .u8 4), .lit (.int .u8 62), .lit (.int .u8 47), .lit (.int .u8 59), .lit (.int .u8 36), .lit (.int .u8 45), .lit (.int .u8 43), .lit (.int .u8 51), .lit (.int .u8 22), .lit (.int .u8 53), .lit (.int .u8 39), .lit (.int .u8 33), .lit (.int .u8 30), .lit (.int .u8 24), .lit (.int .u8 18), .lit (.int .u8 12), .lit (.int .u8 5), .lit (.int .u8 63), .lit (.int .u8 55), .lit (.int .u8 48), .lit (.int .u8 27), .lit (.int .u8 60), .lit (.int .u8 41), .lit (.int .u8 37), .lit (.int .u8 16), .lit (.int .u8 46), .lit (.int .u8 35), .lit (.int .u8 44), .lit (.int .u8 21), .lit (.int .u8 52), .lit (.int .u8 32), .lit (.int .u8 23), .lit (.int .u8 11), .lit (.int .u8 54), .lit (.int .u8 26), .lit (.int .u8 40), .lit (.int .u8 15), .lit (.int .u8 34), .lit (.int .u8 20), .lit (.int .u8 31), .lit (.int .u8 10), .lit (.int .u8 25), .lit (.int .u8 14), .lit (.int .u8 19), .lit (.int .u8 9), .lit (.int .u8 13), .lit (.int .u8 8), .lit (.int .u8 7), .lit (.int .u8 6)]
def laid_internal_strconv_uint64pow10 {H : Type} : DataW H := .agg [.lit (.int .u64 1), .lit (.int .u64 10), .lit (.int .u64 100), .lit (.int .u64 1000), .lit (.int .u64 10000), .lit (.int .u64 100000), .lit (.int .u64 1000000), .lit (.int .u64 10000000), .lit (.int .u64 100000000), .lit (.int .u64 1000000000), .lit (.int .u64 10000000000), .lit (.int .u64 100000000000), .lit (.int .u64 1000000000000), .lit (.int .u64 10000000000000), .lit (.int .u64 100000000000000), .lit (.int .u64 1000000000000000), .lit (.int .u64 10000000000000000), .lit (.int .u64 100000000000000000), .lit (.int .u64 1000000000000000000), .lit (.int .u64 10000000000000000000)]
def laid_strconv_ErrRange {H : Type} : DataW H := .iface "*errors.errorString" (.ptr (.agg [.lit (.string [118, 97, 108, 117, 101, 32, 111, 117, 116, 32, 111, 102, 32, 114, 97, 110, 103, 101])]))
def laid_strconv_ErrSyntax {H : Type} : DataW H := .iface "*errors.errorString" (.ptr (.agg [.lit (.string [105, 110, 118, 97, 108, 105, 100, 32, 115, 121, 110, 116, 97, 120])]))

/-- 'understudylaw1.UnitsPoints': WHATEVER THE INPUT: true; the input reads as it did. -/
def unitsPointsSpec : ChangeSpec := { name := "unitsPoints", fn := fun _ => fun
  | [d] => { results := [.lit (.bool true)], args := [d] }
  | _ => none }
def unitsPointsRow : OpenClaim := { program := "ytlklpdifcpjlpaadoor", sum := "8599a0aeed18d88a0cf4024d402ac283334804594a3128037e963eaf32587680", func := "understudy/understudylaw1.UnitsPoints", spec := "unitsPoints", unfollowed := true, recurses := true, named := ["unicode/utf8.first", "unicode/utf8.acceptRanges"], apart := false, laid := [("unicode/utf8.acceptRanges", laid_unicode_utf8_acceptRanges), ("unicode/utf8.first", laid_unicode_utf8_first)] }
def UnitsPointsSaid : Prop := unitsPointsRow.holds Tryd.pinned (OpenSpec.ofChange unitsPointsSpec)

/-- ITS FALSE NEIGHBOUR: 'it returns false'. Refute it at one input. -/
def unitsPointsWrong : ChangeSpec := { name := "unitsPoints", fn := fun _ => fun
  | [d] => { results := [.lit (.bool false)], args := [d] }
  | _ => none }
def UnitsPointsWrongFalsely : Prop := unitsPointsRow.holds Tryd.pinned (OpenSpec.ofChange unitsPointsWrong)

/-- 'understudylaw1.UnitsOf': WHATEVER THE INPUT: true; the input reads as it did. -/
def unitsOfSpec : ChangeSpec := { name := "unitsOf", fn := fun _ => fun
  | [d] => { results := [.lit (.bool true)], args := [d] }
  | _ => none }
def unitsOfRow : OpenClaim := { program := "ytlklpdifcpjlpaadoor", sum := "8599a0aeed18d88a0cf4024d402ac283334804594a3128037e963eaf32587680", func := "understudy/understudylaw1.UnitsOf", spec := "unitsOf", unfollowed := true, recurses := true, named := ["unicode/utf8.first", "unicode/utf8.acceptRanges"], apart := false, laid := [("unicode/utf8.acceptRanges", laid_unicode_utf8_acceptRanges), ("unicode/utf8.first", laid_unicode_utf8_first)] }
def UnitsOfSaid : Prop := unitsOfRow.holds Tryd.pinned (OpenSpec.ofChange unitsOfSpec)

/-- ITS FALSE NEIGHBOUR: 'it returns false'. Refute it at one input. -/
def unitsOfWrong : ChangeSpec := { name := "unitsOf", fn := fun _ => fun
  | [d] => { results := [.lit (.bool false)], args := [d] }
  | _ => none }
def UnitsOfWrongFalsely : Prop := unitsOfRow.holds Tryd.pinned (OpenSpec.ofChange unitsOfWrong)

/-- 'understudylaw1.UnitsText': WHATEVER THE INPUT: true; the input reads as it did. -/
def unitsTextSpec : ChangeSpec := { name := "unitsText", fn := fun _ => fun
  | [d] => { results := [.lit (.bool true)], args := [d] }
  | _ => none }
def unitsTextRow : OpenClaim := { program := "ytlklpdifcpjlpaadoor", sum := "8599a0aeed18d88a0cf4024d402ac283334804594a3128037e963eaf32587680", func := "understudy/understudylaw1.UnitsText", spec := "unitsText", unfollowed := true, recurses := true, named := ["unicode/utf8.first", "unicode/utf8.acceptRanges"], apart := false, laid := [("unicode/utf8.acceptRanges", laid_unicode_utf8_acceptRanges), ("unicode/utf8.first", laid_unicode_utf8_first)] }
def UnitsTextSaid : Prop := unitsTextRow.holds Tryd.pinned (OpenSpec.ofChange unitsTextSpec)

/-- ITS FALSE NEIGHBOUR: 'it returns false'. Refute it at one input. -/
def unitsTextWrong : ChangeSpec := { name := "unitsText", fn := fun _ => fun
  | [d] => { results := [.lit (.bool false)], args := [d] }
  | _ => none }
def UnitsTextWrongFalsely : Prop := unitsTextRow.holds Tryd.pinned (OpenSpec.ofChange unitsTextWrong)

/-- 'understudylaw1.UnitsJoin': WHATEVER THE INPUT: true; the input reads as it did. -/
def unitsJoinSpec : ChangeSpec := { name := "unitsJoin", fn := fun _ => fun
  | [d1, d2] => { results := [.lit (.bool true)], args := [d1, d2] }
  | _ => none }
def unitsJoinRow : OpenClaim := { program := "ytlklpdifcpjlpaadoor", sum := "8599a0aeed18d88a0cf4024d402ac283334804594a3128037e963eaf32587680", func := "understudy/understudylaw1.UnitsJoin", spec := "unitsJoin", unfollowed := true, recurses := true, named := ["unicode/utf8.first", "unicode/utf8.acceptRanges"], apart := false, laid := [("unicode/utf8.acceptRanges", laid_unicode_utf8_acceptRanges), ("unicode/utf8.first", laid_unicode_utf8_first)] }
def UnitsJoinSaid : Prop := unitsJoinRow.holds Tryd.pinned (OpenSpec.ofChange unitsJoinSpec)

/-- ITS FALSE NEIGHBOUR: 'it returns false'. Refute it at one input. -/
def unitsJoinWrong : ChangeSpec := { name := "unitsJoin", fn := fun _ => fun
  | [d1, d2] => { results := [.lit (.bool false)], args := [d1, d2] }
  | _ => none }
def UnitsJoinWrongFalsely : Prop := unitsJoinRow.holds Tryd.pinned (OpenSpec.ofChange unitsJoinWrong)

/-- 'understudylaw1.UnitsCut': WHATEVER THE INPUT: true; the input reads as it did. -/
def unitsCutSpec : ChangeSpec := { name := "unitsCut", fn := fun _ => fun
  | [d1, d2] => { results := [.lit (.bool true)], args := [d1, d2] }
  | _ => none }
def unitsCutRow : OpenClaim := { program := "ytlklpdifcpjlpaadoor", sum := "8599a0aeed18d88a0cf4024d402ac283334804594a3128037e963eaf32587680", func := "understudy/understudylaw1.UnitsCut", spec := "unitsCut", unfollowed := true, recurses := true, named := ["unicode/utf8.first", "unicode/utf8.acceptRanges"], apart := false, laid := [("unicode/utf8.acceptRanges", laid_unicode_utf8_acceptRanges), ("unicode/utf8.first", laid_unicode_utf8_first)] }
def UnitsCutSaid : Prop := unitsCutRow.holds Tryd.pinned (OpenSpec.ofChange unitsCutSpec)

/-- ITS FALSE NEIGHBOUR: 'it returns false'. Refute it at one input. -/
def unitsCutWrong : ChangeSpec := { name := "unitsCut", fn := fun _ => fun
  | [d1, d2] => { results := [.lit (.bool false)], args := [d1, d2] }
  | _ => none }
def UnitsCutWrongFalsely : Prop := unitsCutRow.holds Tryd.pinned (OpenSpec.ofChange unitsCutWrong)

/-- 'understudylaw2.NumbersDo': WHATEVER THE INPUT: true; the input reads as it did. -/
def numbersDoSpec : ChangeSpec := { name := "numbersDo", fn := fun _ => fun
  | [d1, d2, d3] => { results := [.lit (.bool true)], args := [d1, d2, d3] }
  | _ => none }
def numbersDoRow : OpenClaim := { program := "ytlklpdifcpjlpaadoor", sum := "8599a0aeed18d88a0cf4024d402ac283334804594a3128037e963eaf32587680", func := "understudy/understudylaw2.NumbersDo", spec := "numbersDo", named := ["internal/strconv.uint64pow10", "math/bits.deBruijn32tab", "math/bits.deBruijn64tab"], apart := false, laid := [("math/bits.deBruijn32tab", laid_math_bits_deBruijn32tab), ("math/bits.deBruijn64tab", laid_math_bits_deBruijn64tab), ("internal/strconv.uint64pow10", laid_internal_strconv_uint64pow10)] }
def NumbersDoSaid : Prop := numbersDoRow.holds Tryd.pinned (OpenSpec.ofChange numbersDoSpec)

/-- ITS FALSE NEIGHBOUR: 'it returns false'. Refute it at one input. -/
def numbersDoWrong : ChangeSpec := { name := "numbersDo", fn := fun _ => fun
  | [d1, d2, d3] => { results := [.lit (.bool false)], args := [d1, d2, d3] }
  | _ => none }
def NumbersDoWrongFalsely : Prop := numbersDoRow.holds Tryd.pinned (OpenSpec.ofChange numbersDoWrong)

/-- 'understudylaw2.NumbersLaws': WHATEVER THE INPUT: true; the input reads as it did. -/
def numbersLawsSpec : ChangeSpec := { name := "numbersLaws", fn := fun _ => fun
  | [d1, d2] => { results := [.lit (.bool true)], args := [d1, d2] }
  | _ => none }
def numbersLawsRow : OpenClaim := { program := "ytlklpdifcpjlpaadoor", sum := "8599a0aeed18d88a0cf4024d402ac283334804594a3128037e963eaf32587680", func := "understudy/understudylaw2.NumbersLaws", spec := "numbersLaws", named := ["internal/strconv.uint64pow10", "math/bits.deBruijn32tab", "math/bits.deBruijn64tab"], apart := false, laid := [("math/bits.deBruijn32tab", laid_math_bits_deBruijn32tab), ("math/bits.deBruijn64tab", laid_math_bits_deBruijn64tab), ("internal/strconv.uint64pow10", laid_internal_strconv_uint64pow10)] }
def NumbersLawsSaid : Prop := numbersLawsRow.holds Tryd.pinned (OpenSpec.ofChange numbersLawsSpec)

/-- ITS FALSE NEIGHBOUR: 'it returns false'. Refute it at one input. -/
def numbersLawsWrong : ChangeSpec := { name := "numbersLaws", fn := fun _ => fun
  | [d1, d2] => { results := [.lit (.bool false)], args := [d1, d2] }
  | _ => none }
def NumbersLawsWrongFalsely : Prop := numbersLawsRow.holds Tryd.pinned (OpenSpec.ofChange numbersLawsWrong)

/-- 'understudylaw2.NumbersBack': WHATEVER THE INPUT: true; the input reads as it did. -/
def numbersBackSpec : ChangeSpec := { name := "numbersBack", fn := fun _ => fun
  | [d1, d2] => { results := [.lit (.bool true)], args := [d1, d2] }
  | _ => none }
def numbersBackRow : OpenClaim := { program := "ytlklpdifcpjlpaadoor", sum := "8599a0aeed18d88a0cf4024d402ac283334804594a3128037e963eaf32587680", func := "understudy/understudylaw2.NumbersBack", spec := "numbersBack", named := ["internal/strconv.uint64pow10", "math/bits.deBruijn32tab", "math/bits.deBruijn64tab"], apart := false, laid := [("math/bits.deBruijn32tab", laid_math_bits_deBruijn32tab), ("math/bits.deBruijn64tab", laid_math_bits_deBruijn64tab), ("internal/strconv.uint64pow10", laid_internal_strconv_uint64pow10)] }
def NumbersBackSaid : Prop := numbersBackRow.holds Tryd.pinned (OpenSpec.ofChange numbersBackSpec)

/-- ITS FALSE NEIGHBOUR: 'it returns false'. Refute it at one input. -/
def numbersBackWrong : ChangeSpec := { name := "numbersBack", fn := fun _ => fun
  | [d1, d2] => { results := [.lit (.bool false)], args := [d1, d2] }
  | _ => none }
def NumbersBackWrongFalsely : Prop := numbersBackRow.holds Tryd.pinned (OpenSpec.ofChange numbersBackWrong)

/-- 'understudylaw2.NumbersTexts': WHATEVER THE INPUT: true; the input reads as it did. -/
def numbersTextsSpec : ChangeSpec := { name := "numbersTexts", fn := fun _ => fun
  | [d1, d2] => { results := [.lit (.bool true)], args := [d1, d2] }
  | _ => none }
def numbersTextsRow : OpenClaim := { program := "ytlklpdifcpjlpaadoor", sum := "8599a0aeed18d88a0cf4024d402ac283334804594a3128037e963eaf32587680", func := "understudy/understudylaw2.NumbersTexts", spec := "numbersTexts", recurses := true, named := ["internal/strconv.uint64pow10", "math/bits.deBruijn32tab", "math/bits.deBruijn64tab", "strconv.ErrSyntax", "strconv.ErrRange"], apart := false, laid := [("math/bits.deBruijn32tab", laid_math_bits_deBruijn32tab), ("math/bits.deBruijn64tab", laid_math_bits_deBruijn64tab), ("internal/strconv.uint64pow10", laid_internal_strconv_uint64pow10), ("strconv.ErrRange", laid_strconv_ErrRange), ("strconv.ErrSyntax", laid_strconv_ErrSyntax)] }
def NumbersTextsSaid : Prop := numbersTextsRow.holds Tryd.pinned (OpenSpec.ofChange numbersTextsSpec)

/-- ITS FALSE NEIGHBOUR: 'it returns false'. Refute it at one input. -/
def numbersTextsWrong : ChangeSpec := { name := "numbersTexts", fn := fun _ => fun
  | [d1, d2] => { results := [.lit (.bool false)], args := [d1, d2] }
  | _ => none }
def NumbersTextsWrongFalsely : Prop := numbersTextsRow.holds Tryd.pinned (OpenSpec.ofChange numbersTextsWrong)

/-- 'understudylaw23.GenLots': WHATEVER THE INPUT: true; the input reads as it did. -/
def genLotsSpec : ChangeSpec := { name := "genLots", fn := fun _ => fun
  | [d1, d2] => { results := [.lit (.bool true)], args := [d1, d2] }
  | _ => none }
def genLotsRow : OpenClaim := { program := "ytlklpdifcpjlpaadoor", sum := "8599a0aeed18d88a0cf4024d402ac283334804594a3128037e963eaf32587680", func := "understudy/understudylaw23.GenLots", spec := "genLots", inPlace := ["internal/abi.NoEscape", "internal/bytealg.CountString", "internal/bytealg.IndexByteString", "internal/bytealg.IndexString", "internal/bytealg.MakeNoZero"], named := ["internal/bytealg.MaxLen", "unicode/utf8.first", "unicode/utf8.acceptRanges", "internal/strconv.uint64pow10", "math/bits.deBruijn32tab", "math/bits.deBruijn64tab"], apart := false, laid := [("math/bits.deBruijn32tab", laid_math_bits_deBruijn32tab), ("math/bits.deBruijn64tab", laid_math_bits_deBruijn64tab), ("internal/strconv.uint64pow10", laid_internal_strconv_uint64pow10), ("unicode/utf8.acceptRanges", laid_unicode_utf8_acceptRanges), ("unicode/utf8.first", laid_unicode_utf8_first)] }
def GenLotsSaid : Prop := genLotsRow.holds Tryd.pinned (OpenSpec.ofChange genLotsSpec)

/-- ITS FALSE NEIGHBOUR: 'it returns false'. Refute it at one input. -/
def genLotsWrong : ChangeSpec := { name := "genLots", fn := fun _ => fun
  | [d1, d2] => { results := [.lit (.bool false)], args := [d1, d2] }
  | _ => none }
def GenLotsWrongFalsely : Prop := genLotsRow.holds Tryd.pinned (OpenSpec.ofChange genLotsWrong)

/- THE SECOND FORM. 'bulk': how many values and letters a reading holds, each counted each time it is reached (what is shared counts as often as it is met; a slice's spare places count too). A statement '..UptoSaid' is the law's where the arguments, and the package variables that the reading takes, are together of bulk at most 1048576: NARROWER than '..Said'. Prove '..Said' where nothing that the law and all that it calls make is longer than what came in: it says more and counts as full. Else prove '..UptoSaid'. A law counts once. -/
mutual
def uptoBulk {H : Type} : DataW H → Nat
  | .lit (.string bytes) => bytes.length + 1
  | .lit _ => 1
  | .nil => 1
  | .ptr d => uptoBulk d + 1
  | .slice elems spare => uptoBulkAll elems + uptoBulkAll spare + 1
  | .agg parts => uptoBulkAll parts + 1
  | .iface _ d => uptoBulk d + 1
  | .map entries => uptoBulkEntries entries + 1
  | .held _ => 1
def uptoBulkAll {H : Type} : List (DataW H) → Nat
  | [] => 0
  | d :: r => uptoBulk d + uptoBulkAll r
def uptoBulkEntries {H : Type} : List (Lit × DataW H) → Nat
  | [] => 0
  | x :: r => uptoBulkEntry x + uptoBulkEntries r
def uptoBulkEntry {H : Type} : Lit × DataW H → Nat
  | (.string bytes, d) => bytes.length + uptoBulk d + 1
  | (_, d) => uptoBulk d + 1
 end
def uptoSmall : (H : Type) → List (DataW H) → Bool := fun _ ds => decide (uptoBulkAll ds ≤ 1048576)
def OpenSpec.upto (s : _root_.Go.ChangeSpec) : _root_.Go.OpenSpec := { _root_.Go.OpenSpec.ofChange s with cond := some uptoSmall }

/-- 'understudylaw1.UnitsPoints', WHERE WHAT IT READS IS OF BULK AT MOST 1048576: true; the input reads as it did. -/
def unitsPointsUptoRow : OpenClaim := { program := "ytlklpdifcpjlpaadoor", sum := "8599a0aeed18d88a0cf4024d402ac283334804594a3128037e963eaf32587680", func := "understudy/understudylaw1.UnitsPoints", spec := "unitsPoints", unfollowed := true, recurses := true, named := ["unicode/utf8.first", "unicode/utf8.acceptRanges"], apart := false, laid := [("unicode/utf8.acceptRanges", laid_unicode_utf8_acceptRanges), ("unicode/utf8.first", laid_unicode_utf8_first)], narrowed := true }
def UnitsPointsUptoSaid : Prop := unitsPointsUptoRow.holds Tryd.pinned (OpenSpec.upto unitsPointsSpec)

/-- 'understudylaw1.UnitsOf', WHERE WHAT IT READS IS OF BULK AT MOST 1048576: true; the input reads as it did. -/
def unitsOfUptoRow : OpenClaim := { program := "ytlklpdifcpjlpaadoor", sum := "8599a0aeed18d88a0cf4024d402ac283334804594a3128037e963eaf32587680", func := "understudy/understudylaw1.UnitsOf", spec := "unitsOf", unfollowed := true, recurses := true, named := ["unicode/utf8.first", "unicode/utf8.acceptRanges"], apart := false, laid := [("unicode/utf8.acceptRanges", laid_unicode_utf8_acceptRanges), ("unicode/utf8.first", laid_unicode_utf8_first)], narrowed := true }
def UnitsOfUptoSaid : Prop := unitsOfUptoRow.holds Tryd.pinned (OpenSpec.upto unitsOfSpec)

/-- 'understudylaw1.UnitsText', WHERE WHAT IT READS IS OF BULK AT MOST 1048576: true; the input reads as it did. -/
def unitsTextUptoRow : OpenClaim := { program := "ytlklpdifcpjlpaadoor", sum := "8599a0aeed18d88a0cf4024d402ac283334804594a3128037e963eaf32587680", func := "understudy/understudylaw1.UnitsText", spec := "unitsText", unfollowed := true, recurses := true, named := ["unicode/utf8.first", "unicode/utf8.acceptRanges"], apart := false, laid := [("unicode/utf8.acceptRanges", laid_unicode_utf8_acceptRanges), ("unicode/utf8.first", laid_unicode_utf8_first)], narrowed := true }
def UnitsTextUptoSaid : Prop := unitsTextUptoRow.holds Tryd.pinned (OpenSpec.upto unitsTextSpec)

/-- 'understudylaw1.UnitsJoin', WHERE WHAT IT READS IS OF BULK AT MOST 1048576: true; the input reads as it did. -/
def unitsJoinUptoRow : OpenClaim := { program := "ytlklpdifcpjlpaadoor", sum := "8599a0aeed18d88a0cf4024d402ac283334804594a3128037e963eaf32587680", func := "understudy/understudylaw1.UnitsJoin", spec := "unitsJoin", unfollowed := true, recurses := true, named := ["unicode/utf8.first", "unicode/utf8.acceptRanges"], apart := false, laid := [("unicode/utf8.acceptRanges", laid_unicode_utf8_acceptRanges), ("unicode/utf8.first", laid_unicode_utf8_first)], narrowed := true }
def UnitsJoinUptoSaid : Prop := unitsJoinUptoRow.holds Tryd.pinned (OpenSpec.upto unitsJoinSpec)

/-- 'understudylaw1.UnitsCut', WHERE WHAT IT READS IS OF BULK AT MOST 1048576: true; the input reads as it did. -/
def unitsCutUptoRow : OpenClaim := { program := "ytlklpdifcpjlpaadoor", sum := "8599a0aeed18d88a0cf4024d402ac283334804594a3128037e963eaf32587680", func := "understudy/understudylaw1.UnitsCut", spec := "unitsCut", unfollowed := true, recurses := true, named := ["unicode/utf8.first", "unicode/utf8.acceptRanges"], apart := false, laid := [("unicode/utf8.acceptRanges", laid_unicode_utf8_acceptRanges), ("unicode/utf8.first", laid_unicode_utf8_first)], narrowed := true }
def UnitsCutUptoSaid : Prop := unitsCutUptoRow.holds Tryd.pinned (OpenSpec.upto unitsCutSpec)

/-- 'understudylaw2.NumbersDo', WHERE WHAT IT READS IS OF BULK AT MOST 1048576: true; the input reads as it did. -/
def numbersDoUptoRow : OpenClaim := { program := "ytlklpdifcpjlpaadoor", sum := "8599a0aeed18d88a0cf4024d402ac283334804594a3128037e963eaf32587680", func := "understudy/understudylaw2.NumbersDo", spec := "numbersDo", named := ["internal/strconv.uint64pow10", "math/bits.deBruijn32tab", "math/bits.deBruijn64tab"], apart := false, laid := [("math/bits.deBruijn32tab", laid_math_bits_deBruijn32tab), ("math/bits.deBruijn64tab", laid_math_bits_deBruijn64tab), ("internal/strconv.uint64pow10", laid_internal_strconv_uint64pow10)], narrowed := true }
def NumbersDoUptoSaid : Prop := numbersDoUptoRow.holds Tryd.pinned (OpenSpec.upto numbersDoSpec)

/-- 'understudylaw2.NumbersLaws', WHERE WHAT IT READS IS OF BULK AT MOST 1048576: true; the input reads as it did. -/
def numbersLawsUptoRow : OpenClaim := { program := "ytlklpdifcpjlpaadoor", sum := "8599a0aeed18d88a0cf4024d402ac283334804594a3128037e963eaf32587680", func := "understudy/understudylaw2.NumbersLaws", spec := "numbersLaws", named := ["internal/strconv.uint64pow10", "math/bits.deBruijn32tab", "math/bits.deBruijn64tab"], apart := false, laid := [("math/bits.deBruijn32tab", laid_math_bits_deBruijn32tab), ("math/bits.deBruijn64tab", laid_math_bits_deBruijn64tab), ("internal/strconv.uint64pow10", laid_internal_strconv_uint64pow10)], narrowed := true }
def NumbersLawsUptoSaid : Prop := numbersLawsUptoRow.holds Tryd.pinned (OpenSpec.upto numbersLawsSpec)

/-- 'understudylaw2.NumbersBack', WHERE WHAT IT READS IS OF BULK AT MOST 1048576: true; the input reads as it did. -/
def numbersBackUptoRow : OpenClaim := { program := "ytlklpdifcpjlpaadoor", sum := "8599a0aeed18d88a0cf4024d402ac283334804594a3128037e963eaf32587680", func := "understudy/understudylaw2.NumbersBack", spec := "numbersBack", named := ["internal/strconv.uint64pow10", "math/bits.deBruijn32tab", "math/bits.deBruijn64tab"], apart := false, laid := [("math/bits.deBruijn32tab", laid_math_bits_deBruijn32tab), ("math/bits.deBruijn64tab", laid_math_bits_deBruijn64tab), ("internal/strconv.uint64pow10", laid_internal_strconv_uint64pow10)], narrowed := true }
def NumbersBackUptoSaid : Prop := numbersBackUptoRow.holds Tryd.pinned (OpenSpec.upto numbersBackSpec)

/-- 'understudylaw2.NumbersTexts', WHERE WHAT IT READS IS OF BULK AT MOST 1048576: true; the input reads as it did. -/
def numbersTextsUptoRow : OpenClaim := { program := "ytlklpdifcpjlpaadoor", sum := "8599a0aeed18d88a0cf4024d402ac283334804594a3128037e963eaf32587680", func := "understudy/understudylaw2.NumbersTexts", spec := "numbersTexts", recurses := true, named := ["internal/strconv.uint64pow10", "math/bits.deBruijn32tab", "math/bits.deBruijn64tab", "strconv.ErrSyntax", "strconv.ErrRange"], apart := false, laid := [("math/bits.deBruijn32tab", laid_math_bits_deBruijn32tab), ("math/bits.deBruijn64tab", laid_math_bits_deBruijn64tab), ("internal/strconv.uint64pow10", laid_internal_strconv_uint64pow10), ("strconv.ErrRange", laid_strconv_ErrRange), ("strconv.ErrSyntax", laid_strconv_ErrSyntax)], narrowed := true }
def NumbersTextsUptoSaid : Prop := numbersTextsUptoRow.holds Tryd.pinned (OpenSpec.upto numbersTextsSpec)

/-- 'understudylaw23.GenLots', WHERE WHAT IT READS IS OF BULK AT MOST 1048576: true; the input reads as it did. -/
def genLotsUptoRow : OpenClaim := { program := "ytlklpdifcpjlpaadoor", sum := "8599a0aeed18d88a0cf4024d402ac283334804594a3128037e963eaf32587680", func := "understudy/understudylaw23.GenLots", spec := "genLots", inPlace := ["internal/abi.NoEscape", "internal/bytealg.CountString", "internal/bytealg.IndexByteString", "internal/bytealg.IndexString", "internal/bytealg.MakeNoZero"], named := ["internal/bytealg.MaxLen", "unicode/utf8.first", "unicode/utf8.acceptRanges", "internal/strconv.uint64pow10", "math/bits.deBruijn32tab", "math/bits.deBruijn64tab"], apart := false, laid := [("math/bits.deBruijn32tab", laid_math_bits_deBruijn32tab), ("math/bits.deBruijn64tab", laid_math_bits_deBruijn64tab), ("internal/strconv.uint64pow10", laid_internal_strconv_uint64pow10), ("unicode/utf8.acceptRanges", laid_unicode_utf8_acceptRanges), ("unicode/utf8.first", laid_unicode_utf8_first)], narrowed := true }
def GenLotsUptoSaid : Prop := genLotsUptoRow.holds Tryd.pinned (OpenSpec.upto genLotsSpec)

end Rows
end Go.Proofs.YtlklpdifcpjlpaaDoor
