/-
  NARROWER THAN 'FOR EVERY INPUT', by the rows' own cells (each row's printed sentence says how): RatioFloorLeast: laid · RatioBetween: laid · RatioLeast: laid · RatioNearest: laid · RatioCloser: laid · RatioDecimals: laid · RatioRounds: laid.
  DERIVED. THE GIVEN ROWS OF THIS SEAT. 7 by the template 'for every input the law returns true; each argument reads behind the call as it read before'; 0 by the template 'total and deterministic' (their statements: YtlojafmcaghpmaaGreatDoorTotals.lean).
  GIVEN WITH THE SEED: the statements are not yours to turn. If you find one false, say at which input.
  Laid BY PROGRAM, IN A SANDBOX (cutbox-rows.mjs): the forced cells as the released guide's own fill.sh prints them over the translation 9e323cbf9a4cd541… (all of the seat's roots in one cut). By AI agents, Wed Nov 11 2026. No macro, syntax, notation, axiom, sorry.
-/
import Derived.Test.YtlojafmcaghpmaaGreatDoorChecked
import GoSem.PinnedTables
import GoSem.Claim
import GoSem.ClaimJoined
import GoSem.ClaimMapViews
import Derived.JoinedTies
import Derived.KernelRfl
namespace Go.Proofs.YtlojafmcaghpmaaGreatDoor
/- THE CELL 'sum', in the pinned program and in every row, IS THE sha256 OF THE DUMP (.gsa) THAT YtlojafmcaghpmaaGreatDoorProg.lean LOADS. Nothing in Lean hashes anything: it is a label: what it is worth is what the hold of that sum in a sandbox is worth. -/
noncomputable def Tryz.pinned : Pinned := { name := "ytlojafmcaghpmaagreatdoor", sum := "9e323cbf9a4cd541a889395973a6b312d9170acb918813bbd8b8078fc421f79f", checked := Tryz.checked }
namespace Rows
def none {H : Type} : Left H := { results := [], args := [] }

/- WHAT THE LISTED PACKAGE-LEVEL VARIABLES READ AS WHEN THE CALL BEGINS. Each datum BY PROGRAM (the guide's laid-datum.mjs) off the statement by which the dump's own 'gosem.cut.vars' lays the variable. In a bare row this is a premise. The card (YtlojafmcaghpmaaGreatDoorCards.lean) ties it to the program's text. -/
def laid_fulcrum_nat_values {H : Type} : DataW H := .agg [.lit (.int .u32 0), .lit (.int .u32 1), .lit (.int .u32 2), .lit (.int .u32 3), .lit (.int .u32 4), .lit (.int .u32 5), .lit (.int .u32 6), .lit (.int .u32 7), .lit (.int .u32 8), .lit (.int .u32 9), .lit (.int .u32 99), .lit (.int .u32 99), .lit (.int .u32 99), .lit (.int .u32 99), .lit (.int .u32 99), .lit (.int .u32 99), .lit (.int .u32 99), .lit (.int .u32 99), .lit (.int .u32 99), .lit (.int .u32 99), .lit (.int .u32 99), .lit (.int .u32 99), .lit (.int .u32 99), .lit (.int .u32 99), .lit (.int .u32 99), .lit (.int .u32 99), .lit (.int .u32 99), .lit (.int .u32 99), .lit (.int .u32 99), .lit (.int .u32 99), .lit (.int .u32 99), .lit (.int .u32 99), .lit (.int .u32 99), .lit (.int .u32 99), .lit (.int .u32 99), .lit (.int .u32 99), .lit (.int .u32 99), .lit (.int .u32 99), .lit (.int .u32 99), .lit (.int .u32 99), .lit (.int .u32 99), .lit (.int .u32 99), .lit (.int .u32 99), .lit (.int .u32 99), .lit (.int .u32 99), .lit (.int .u32 99), .lit (.int .u32 99), .lit (.int .u32 99), .lit (.int .u32 99), .lit (.int .u32 10), .lit (.int .u32 11), .lit (.int .u32 12), .lit (.int .u32 13), .lit (.int .u32 14), .lit (.int .u32 15)]
def laid_unicode_utf8_acceptRanges {H : Type} : DataW H := .agg [.agg [.lit (.int .u8 128), .lit (.int .u8 191)], .agg [.lit (.int .u8 160), .lit (.int .u8 191)], .agg [.lit (.int .u8 128), .lit (.int .u8 159)], .agg [.lit (.int .u8 144), .lit (.int .u8 191)], .agg [.lit (.int .u8 128), .lit (.int .u8 143)], .agg [.lit (.int .u8 0), .lit (.int .u8 0)], .agg [.lit (.int .u8 0), .lit (.int .u8 0)], .agg [.lit (.int .u8 0), .lit (.int .u8 0)], .agg [.lit (.int .u8 0), .lit (.int .u8 0)], .agg [.lit (.int .u8 0), .lit (.int .u8 0)], .agg [.lit (.int .u8 0), .lit (.int .u8 0)], .agg [.lit (.int .u8 0), .lit (.int .u8 0)], .agg [.lit (.int .u8 0), .lit (.int .u8 0)], .agg [.lit (.int .u8 0), .lit (.int .u8 0)], .agg [.lit (.int .u8 0), .lit (.int .u8 0)], .agg [.lit (.int .u8 0), .lit (.int .u8 0)]]
/-- One of Go's own tables, pinned by name: the form's constant. -/
def laid_unicode_utf8_first : DataW Unit := Go.Pinned.utf8First

/-- 'fulcrumlaw03.RatioFloorLeast': WHATEVER THE INPUT: true; the input reads as it did. -/
def ratioFloorLeastSpec : ChangeSpec := { name := "ratioFloorLeast", fn := fun _ => fun
  | [d] => { results := [.lit (.bool true)], args := [d] }
  | _ => none }
def ratioFloorLeastRow : OpenClaim := { program := "ytlojafmcaghpmaagreatdoor", sum := "9e323cbf9a4cd541a889395973a6b312d9170acb918813bbd8b8078fc421f79f", func := "fulcrum/fulcrumlaw03.RatioFloorLeast", spec := "ratioFloorLeast", inPlace := ["internal/bytealg.IndexByteString", "internal/bytealg.IndexString"], named := ["math/bits.overflowError", "internal/bytealg.MaxLen", "fulcrum/nat.values", "unicode/utf8.first", "unicode/utf8.acceptRanges"], apart := false, laid := [("fulcrum/nat.values", laid_fulcrum_nat_values), ("unicode/utf8.acceptRanges", laid_unicode_utf8_acceptRanges), ("unicode/utf8.first", laid_unicode_utf8_first)] }
def RatioFloorLeastSaid : Prop := ratioFloorLeastRow.holds Tryz.pinned (OpenSpec.ofChange ratioFloorLeastSpec)

/-- ITS FALSE NEIGHBOUR: 'it returns false'. Refute it at one input. -/
def ratioFloorLeastWrong : ChangeSpec := { name := "ratioFloorLeast", fn := fun _ => fun
  | [d] => { results := [.lit (.bool false)], args := [d] }
  | _ => none }
def RatioFloorLeastWrongFalsely : Prop := ratioFloorLeastRow.holds Tryz.pinned (OpenSpec.ofChange ratioFloorLeastWrong)

/-- 'fulcrumlaw03.RatioBetween': WHATEVER THE INPUT: true; the input reads as it did. -/
def ratioBetweenSpec : ChangeSpec := { name := "ratioBetween", fn := fun _ => fun
  | [d1, d2] => { results := [.lit (.bool true)], args := [d1, d2] }
  | _ => none }
def ratioBetweenRow : OpenClaim := { program := "ytlojafmcaghpmaagreatdoor", sum := "9e323cbf9a4cd541a889395973a6b312d9170acb918813bbd8b8078fc421f79f", func := "fulcrum/fulcrumlaw03.RatioBetween", spec := "ratioBetween", inPlace := ["internal/bytealg.IndexByteString", "internal/bytealg.IndexString"], recurses := true, named := ["math/bits.overflowError", "internal/bytealg.MaxLen", "fulcrum/nat.values", "unicode/utf8.first", "unicode/utf8.acceptRanges"], apart := false, laid := [("fulcrum/nat.values", laid_fulcrum_nat_values), ("unicode/utf8.acceptRanges", laid_unicode_utf8_acceptRanges), ("unicode/utf8.first", laid_unicode_utf8_first)] }
def RatioBetweenSaid : Prop := ratioBetweenRow.holds Tryz.pinned (OpenSpec.ofChange ratioBetweenSpec)

/-- ITS FALSE NEIGHBOUR: 'it returns false'. Refute it at one input. -/
def ratioBetweenWrong : ChangeSpec := { name := "ratioBetween", fn := fun _ => fun
  | [d1, d2] => { results := [.lit (.bool false)], args := [d1, d2] }
  | _ => none }
def RatioBetweenWrongFalsely : Prop := ratioBetweenRow.holds Tryz.pinned (OpenSpec.ofChange ratioBetweenWrong)

/-- 'fulcrumlaw03.RatioLeast': WHATEVER THE INPUT: true; the input reads as it did. -/
def ratioLeastSpec : ChangeSpec := { name := "ratioLeast", fn := fun _ => fun
  | [d1, d2, d3] => { results := [.lit (.bool true)], args := [d1, d2, d3] }
  | _ => none }
def ratioLeastRow : OpenClaim := { program := "ytlojafmcaghpmaagreatdoor", sum := "9e323cbf9a4cd541a889395973a6b312d9170acb918813bbd8b8078fc421f79f", func := "fulcrum/fulcrumlaw03.RatioLeast", spec := "ratioLeast", inPlace := ["internal/bytealg.IndexByteString", "internal/bytealg.IndexString"], named := ["math/bits.overflowError", "internal/bytealg.MaxLen", "fulcrum/nat.values", "unicode/utf8.first", "unicode/utf8.acceptRanges"], apart := false, laid := [("fulcrum/nat.values", laid_fulcrum_nat_values), ("unicode/utf8.acceptRanges", laid_unicode_utf8_acceptRanges), ("unicode/utf8.first", laid_unicode_utf8_first)] }
def RatioLeastSaid : Prop := ratioLeastRow.holds Tryz.pinned (OpenSpec.ofChange ratioLeastSpec)

/-- ITS FALSE NEIGHBOUR: 'it returns false'. Refute it at one input. -/
def ratioLeastWrong : ChangeSpec := { name := "ratioLeast", fn := fun _ => fun
  | [d1, d2, d3] => { results := [.lit (.bool false)], args := [d1, d2, d3] }
  | _ => none }
def RatioLeastWrongFalsely : Prop := ratioLeastRow.holds Tryz.pinned (OpenSpec.ofChange ratioLeastWrong)

/-- 'fulcrumlaw03.RatioNearest': WHATEVER THE INPUT: true; the input reads as it did. -/
def ratioNearestSpec : ChangeSpec := { name := "ratioNearest", fn := fun _ => fun
  | [d1, d2] => { results := [.lit (.bool true)], args := [d1, d2] }
  | _ => none }
def ratioNearestRow : OpenClaim := { program := "ytlojafmcaghpmaagreatdoor", sum := "9e323cbf9a4cd541a889395973a6b312d9170acb918813bbd8b8078fc421f79f", func := "fulcrum/fulcrumlaw03.RatioNearest", spec := "ratioNearest", inPlace := ["internal/bytealg.IndexByteString", "internal/bytealg.IndexString"], unfollowed := true, recurses := true, named := ["math/bits.overflowError", "internal/bytealg.MaxLen", "fulcrum/nat.values", "unicode/utf8.first", "unicode/utf8.acceptRanges"], apart := false, laid := [("fulcrum/nat.values", laid_fulcrum_nat_values), ("unicode/utf8.acceptRanges", laid_unicode_utf8_acceptRanges), ("unicode/utf8.first", laid_unicode_utf8_first)] }
def RatioNearestSaid : Prop := ratioNearestRow.holds Tryz.pinned (OpenSpec.ofChange ratioNearestSpec)

/-- ITS FALSE NEIGHBOUR: 'it returns false'. Refute it at one input. -/
def ratioNearestWrong : ChangeSpec := { name := "ratioNearest", fn := fun _ => fun
  | [d1, d2] => { results := [.lit (.bool false)], args := [d1, d2] }
  | _ => none }
def RatioNearestWrongFalsely : Prop := ratioNearestRow.holds Tryz.pinned (OpenSpec.ofChange ratioNearestWrong)

/-- 'fulcrumlaw03.RatioCloser': WHATEVER THE INPUT: true; the input reads as it did. -/
def ratioCloserSpec : ChangeSpec := { name := "ratioCloser", fn := fun _ => fun
  | [d1, d2, d3] => { results := [.lit (.bool true)], args := [d1, d2, d3] }
  | _ => none }
def ratioCloserRow : OpenClaim := { program := "ytlojafmcaghpmaagreatdoor", sum := "9e323cbf9a4cd541a889395973a6b312d9170acb918813bbd8b8078fc421f79f", func := "fulcrum/fulcrumlaw03.RatioCloser", spec := "ratioCloser", inPlace := ["internal/bytealg.IndexByteString", "internal/bytealg.IndexString"], unfollowed := true, recurses := true, named := ["math/bits.overflowError", "internal/bytealg.MaxLen", "fulcrum/nat.values", "unicode/utf8.first", "unicode/utf8.acceptRanges"], apart := false, laid := [("fulcrum/nat.values", laid_fulcrum_nat_values), ("unicode/utf8.acceptRanges", laid_unicode_utf8_acceptRanges), ("unicode/utf8.first", laid_unicode_utf8_first)] }
def RatioCloserSaid : Prop := ratioCloserRow.holds Tryz.pinned (OpenSpec.ofChange ratioCloserSpec)

/-- ITS FALSE NEIGHBOUR: 'it returns false'. Refute it at one input. -/
def ratioCloserWrong : ChangeSpec := { name := "ratioCloser", fn := fun _ => fun
  | [d1, d2, d3] => { results := [.lit (.bool false)], args := [d1, d2, d3] }
  | _ => none }
def RatioCloserWrongFalsely : Prop := ratioCloserRow.holds Tryz.pinned (OpenSpec.ofChange ratioCloserWrong)

/-- 'fulcrumlaw03.RatioDecimals': WHATEVER THE INPUT: true; the input reads as it did. -/
def ratioDecimalsSpec : ChangeSpec := { name := "ratioDecimals", fn := fun _ => fun
  | [d1, d2] => { results := [.lit (.bool true)], args := [d1, d2] }
  | _ => none }
def ratioDecimalsRow : OpenClaim := { program := "ytlojafmcaghpmaagreatdoor", sum := "9e323cbf9a4cd541a889395973a6b312d9170acb918813bbd8b8078fc421f79f", func := "fulcrum/fulcrumlaw03.RatioDecimals", spec := "ratioDecimals", inPlace := ["internal/abi.NoEscape", "internal/bytealg.MakeNoZero", "internal/bytealg.IndexByteString", "internal/bytealg.IndexString"], named := ["math/bits.overflowError", "internal/bytealg.MaxLen", "fulcrum/nat.values", "unicode/utf8.first", "unicode/utf8.acceptRanges"], apart := false, laid := [("fulcrum/nat.values", laid_fulcrum_nat_values), ("unicode/utf8.acceptRanges", laid_unicode_utf8_acceptRanges), ("unicode/utf8.first", laid_unicode_utf8_first)] }
def RatioDecimalsSaid : Prop := ratioDecimalsRow.holds Tryz.pinned (OpenSpec.ofChange ratioDecimalsSpec)

/-- ITS FALSE NEIGHBOUR: 'it returns false'. Refute it at one input. -/
def ratioDecimalsWrong : ChangeSpec := { name := "ratioDecimals", fn := fun _ => fun
  | [d1, d2] => { results := [.lit (.bool false)], args := [d1, d2] }
  | _ => none }
def RatioDecimalsWrongFalsely : Prop := ratioDecimalsRow.holds Tryz.pinned (OpenSpec.ofChange ratioDecimalsWrong)

/-- 'fulcrumlaw03.RatioRounds': WHATEVER THE INPUT: true; the input reads as it did. -/
def ratioRoundsSpec : ChangeSpec := { name := "ratioRounds", fn := fun _ => fun
  | [d1, d2] => { results := [.lit (.bool true)], args := [d1, d2] }
  | _ => none }
def ratioRoundsRow : OpenClaim := { program := "ytlojafmcaghpmaagreatdoor", sum := "9e323cbf9a4cd541a889395973a6b312d9170acb918813bbd8b8078fc421f79f", func := "fulcrum/fulcrumlaw03.RatioRounds", spec := "ratioRounds", inPlace := ["internal/abi.NoEscape", "internal/bytealg.MakeNoZero", "internal/bytealg.IndexByteString", "internal/bytealg.IndexString"], named := ["math/bits.overflowError", "internal/bytealg.MaxLen", "fulcrum/nat.values", "unicode/utf8.first", "unicode/utf8.acceptRanges"], apart := false, laid := [("fulcrum/nat.values", laid_fulcrum_nat_values), ("unicode/utf8.acceptRanges", laid_unicode_utf8_acceptRanges), ("unicode/utf8.first", laid_unicode_utf8_first)] }
def RatioRoundsSaid : Prop := ratioRoundsRow.holds Tryz.pinned (OpenSpec.ofChange ratioRoundsSpec)

/-- ITS FALSE NEIGHBOUR: 'it returns false'. Refute it at one input. -/
def ratioRoundsWrong : ChangeSpec := { name := "ratioRounds", fn := fun _ => fun
  | [d1, d2] => { results := [.lit (.bool false)], args := [d1, d2] }
  | _ => none }
def RatioRoundsWrongFalsely : Prop := ratioRoundsRow.holds Tryz.pinned (OpenSpec.ofChange ratioRoundsWrong)

/- THE SECOND FORM. 'bulk': how many values and letters a reading holds, each counted each time it is reached (what is shared counts as often as it is met; a slice's spare places count too). A statement '..UptoSaid' is the law's where the arguments, and the package variables that the reading takes, are together of bulk at most 1048576: NARROWER than '..Said'. Prove '..Said' where nothing that the law and all that it calls make is longer than what came in: it says more and counts as full. Else prove '..UptoSaid'. A law counts once. -/
mutual
def uptoBulk {H : Type} : DataW H → Nat
  | .lit (.string bytes) => bytes.length + 1
  | .lit _ => 1
  | .nil => 1
  | .ptr d => uptoBulk d + 1
  | .slice elems spare => uptoBulkAll elems + uptoBulkAll spare + 1
  | .agg parts => uptoBulkAll parts + 1
  | .iface _ d => uptoBulk d + 1
  | .map entries => uptoBulkEntries entries + 1
  | .held _ => 1
def uptoBulkAll {H : Type} : List (DataW H) → Nat
  | [] => 0
  | d :: r => uptoBulk d + uptoBulkAll r
def uptoBulkEntries {H : Type} : List (Lit × DataW H) → Nat
  | [] => 0
  | x :: r => uptoBulkEntry x + uptoBulkEntries r
def uptoBulkEntry {H : Type} : Lit × DataW H → Nat
  | (.string bytes, d) => bytes.length + uptoBulk d + 1
  | (_, d) => uptoBulk d + 1
 end
def uptoSmall : (H : Type) → List (DataW H) → Bool := fun _ ds => decide (uptoBulkAll ds ≤ 1048576)
def OpenSpec.upto (s : _root_.Go.ChangeSpec) : _root_.Go.OpenSpec := { _root_.Go.OpenSpec.ofChange s with cond := some uptoSmall }

/-- 'fulcrumlaw03.RatioFloorLeast', WHERE WHAT IT READS IS OF BULK AT MOST 1048576: true; the input reads as it did. -/
def ratioFloorLeastUptoRow : OpenClaim := { program := "ytlojafmcaghpmaagreatdoor", sum := "9e323cbf9a4cd541a889395973a6b312d9170acb918813bbd8b8078fc421f79f", func := "fulcrum/fulcrumlaw03.RatioFloorLeast", spec := "ratioFloorLeast", inPlace := ["internal/bytealg.IndexByteString", "internal/bytealg.IndexString"], named := ["math/bits.overflowError", "internal/bytealg.MaxLen", "fulcrum/nat.values", "unicode/utf8.first", "unicode/utf8.acceptRanges"], apart := false, laid := [("fulcrum/nat.values", laid_fulcrum_nat_values), ("unicode/utf8.acceptRanges", laid_unicode_utf8_acceptRanges), ("unicode/utf8.first", laid_unicode_utf8_first)], narrowed := true }
def RatioFloorLeastUptoSaid : Prop := ratioFloorLeastUptoRow.holds Tryz.pinned (OpenSpec.upto ratioFloorLeastSpec)

/-- 'fulcrumlaw03.RatioBetween', WHERE WHAT IT READS IS OF BULK AT MOST 1048576: true; the input reads as it did. -/
def ratioBetweenUptoRow : OpenClaim := { program := "ytlojafmcaghpmaagreatdoor", sum := "9e323cbf9a4cd541a889395973a6b312d9170acb918813bbd8b8078fc421f79f", func := "fulcrum/fulcrumlaw03.RatioBetween", spec := "ratioBetween", inPlace := ["internal/bytealg.IndexByteString", "internal/bytealg.IndexString"], recurses := true, named := ["math/bits.overflowError", "internal/bytealg.MaxLen", "fulcrum/nat.values", "unicode/utf8.first", "unicode/utf8.acceptRanges"], apart := false, laid := [("fulcrum/nat.values", laid_fulcrum_nat_values), ("unicode/utf8.acceptRanges", laid_unicode_utf8_acceptRanges), ("unicode/utf8.first", laid_unicode_utf8_first)], narrowed := true }
def RatioBetweenUptoSaid : Prop := ratioBetweenUptoRow.holds Tryz.pinned (OpenSpec.upto ratioBetweenSpec)

/-- 'fulcrumlaw03.RatioLeast', WHERE WHAT IT READS IS OF BULK AT MOST 1048576: true; the input reads as it did. -/
def ratioLeastUptoRow : OpenClaim := { program := "ytlojafmcaghpmaagreatdoor", sum := "9e323cbf9a4cd541a889395973a6b312d9170acb918813bbd8b8078fc421f79f", func := "fulcrum/fulcrumlaw03.RatioLeast", spec := "ratioLeast", inPlace := ["internal/bytealg.IndexByteString", "internal/bytealg.IndexString"], named := ["math/bits.overflowError", "internal/bytealg.MaxLen", "fulcrum/nat.values", "unicode/utf8.first", "unicode/utf8.acceptRanges"], apart := false, laid := [("fulcrum/nat.values", laid_fulcrum_nat_values), ("unicode/utf8.acceptRanges", laid_unicode_utf8_acceptRanges), ("unicode/utf8.first", laid_unicode_utf8_first)], narrowed := true }
def RatioLeastUptoSaid : Prop := ratioLeastUptoRow.holds Tryz.pinned (OpenSpec.upto ratioLeastSpec)

/-- 'fulcrumlaw03.RatioNearest', WHERE WHAT IT READS IS OF BULK AT MOST 1048576: true; the input reads as it did. -/
def ratioNearestUptoRow : OpenClaim := { program := "ytlojafmcaghpmaagreatdoor", sum := "9e323cbf9a4cd541a889395973a6b312d9170acb918813bbd8b8078fc421f79f", func := "fulcrum/fulcrumlaw03.RatioNearest", spec := "ratioNearest", inPlace := ["internal/bytealg.IndexByteString", "internal/bytealg.IndexString"], unfollowed := true, recurses := true, named := ["math/bits.overflowError", "internal/bytealg.MaxLen", "fulcrum/nat.values", "unicode/utf8.first", "unicode/utf8.acceptRanges"], apart := false, laid := [("fulcrum/nat.values", laid_fulcrum_nat_values), ("unicode/utf8.acceptRanges", laid_unicode_utf8_acceptRanges), ("unicode/utf8.first", laid_unicode_utf8_first)], narrowed := true }
def RatioNearestUptoSaid : Prop := ratioNearestUptoRow.holds Tryz.pinned (OpenSpec.upto ratioNearestSpec)

/-- 'fulcrumlaw03.RatioCloser', WHERE WHAT IT READS IS OF BULK AT MOST 1048576: true; the input reads as it did. -/
def ratioCloserUptoRow : OpenClaim := { program := "ytlojafmcaghpmaagreatdoor", sum := "9e323cbf9a4cd541a889395973a6b312d9170acb918813bbd8b8078fc421f79f", func := "fulcrum/fulcrumlaw03.RatioCloser", spec := "ratioCloser", inPlace := ["internal/bytealg.IndexByteString", "internal/bytealg.IndexString"], unfollowed := true, recurses := true, named := ["math/bits.overflowError", "internal/bytealg.MaxLen", "fulcrum/nat.values", "unicode/utf8.first", "unicode/utf8.acceptRanges"], apart := false, laid := [("fulcrum/nat.values", laid_fulcrum_nat_values), ("unicode/utf8.acceptRanges", laid_unicode_utf8_acceptRanges), ("unicode/utf8.first", laid_unicode_utf8_first)], narrowed := true }
def RatioCloserUptoSaid : Prop := ratioCloserUptoRow.holds Tryz.pinned (OpenSpec.upto ratioCloserSpec)

/-- 'fulcrumlaw03.RatioDecimals', WHERE WHAT IT READS IS OF BULK AT MOST 1048576: true; the input reads as it did. -/
def ratioDecimalsUptoRow : OpenClaim := { program := "ytlojafmcaghpmaagreatdoor", sum := "9e323cbf9a4cd541a889395973a6b312d9170acb918813bbd8b8078fc421f79f", func := "fulcrum/fulcrumlaw03.RatioDecimals", spec := "ratioDecimals", inPlace := ["internal/abi.NoEscape", "internal/bytealg.MakeNoZero", "internal/bytealg.IndexByteString", "internal/bytealg.IndexString"], named := ["math/bits.overflowError", "internal/bytealg.MaxLen", "fulcrum/nat.values", "unicode/utf8.first", "unicode/utf8.acceptRanges"], apart := false, laid := [("fulcrum/nat.values", laid_fulcrum_nat_values), ("unicode/utf8.acceptRanges", laid_unicode_utf8_acceptRanges), ("unicode/utf8.first", laid_unicode_utf8_first)], narrowed := true }
def RatioDecimalsUptoSaid : Prop := ratioDecimalsUptoRow.holds Tryz.pinned (OpenSpec.upto ratioDecimalsSpec)

/-- 'fulcrumlaw03.RatioRounds', WHERE WHAT IT READS IS OF BULK AT MOST 1048576: true; the input reads as it did. -/
def ratioRoundsUptoRow : OpenClaim := { program := "ytlojafmcaghpmaagreatdoor", sum := "9e323cbf9a4cd541a889395973a6b312d9170acb918813bbd8b8078fc421f79f", func := "fulcrum/fulcrumlaw03.RatioRounds", spec := "ratioRounds", inPlace := ["internal/abi.NoEscape", "internal/bytealg.MakeNoZero", "internal/bytealg.IndexByteString", "internal/bytealg.IndexString"], named := ["math/bits.overflowError", "internal/bytealg.MaxLen", "fulcrum/nat.values", "unicode/utf8.first", "unicode/utf8.acceptRanges"], apart := false, laid := [("fulcrum/nat.values", laid_fulcrum_nat_values), ("unicode/utf8.acceptRanges", laid_unicode_utf8_acceptRanges), ("unicode/utf8.first", laid_unicode_utf8_first)], narrowed := true }
def RatioRoundsUptoSaid : Prop := ratioRoundsUptoRow.holds Tryz.pinned (OpenSpec.upto ratioRoundsSpec)

end Rows
end Go.Proofs.YtlojafmcaghpmaaGreatDoor
