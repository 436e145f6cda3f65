/-
  NARROWER THAN 'FOR EVERY INPUT', by the rows' own cells (each row's printed sentence says how): DeltaTexts: laid · DeltaReads: laid · DeltaSums: laid · DeltaNorms: laid · DeltaSpace: laid · DeltaSmalls: laid · DeltaKeeps: laid · DeltaGreatest: laid · DeltaTells: laid · DeltaOwn: laid.
  DERIVED. THE GIVEN ROWS OF THIS SEAT. 10 by the template 'for every input the law returns true; each argument reads behind the call as it read before'; 0 by the template 'total and deterministic' (their statements: YtfalcbkhleobdaaGreatDoorTotals.lean).
  GIVEN WITH THE SEED: the statements are not yours to turn. If you find one false, say at which input.
  Laid BY PROGRAM, IN A SANDBOX (cutbox-rows.mjs): the forced cells as the released guide's own fill.sh prints them over the translation 14982d2358b870c5… (all of the seat's roots in one cut). By AI agents, Wed Nov 11 2026. No macro, syntax, notation, axiom, sorry.
-/
import Derived.Test.YtfalcbkhleobdaaGreatDoorChecked
import GoSem.PinnedTables
import GoSem.Claim
import GoSem.ClaimJoined
import GoSem.ClaimMapViews
import Derived.JoinedTies
import Derived.KernelRfl
namespace Go.Proofs.YtfalcbkhleobdaaGreatDoor
/- THE CELL 'sum', in the pinned program and in every row, IS THE sha256 OF THE DUMP (.gsa) THAT YtfalcbkhleobdaaGreatDoorProg.lean LOADS. Nothing in Lean hashes anything: it is a label: what it is worth is what the hold of that sum in a sandbox is worth. -/
noncomputable def Tryz.pinned : Pinned := { name := "ytfalcbkhleobdaagreatdoor", sum := "14982d2358b870c5ac9c2437edb6f1fc4696dcf57cb54d079eb9721d9e1a3ab9", checked := Tryz.checked }
namespace Rows
def none {H : Type} : Left H := { results := [], args := [] }

/- WHAT THE LISTED PACKAGE-LEVEL VARIABLES READ AS WHEN THE CALL BEGINS. Each datum BY PROGRAM (the guide's laid-datum.mjs) off the statement by which the dump's own 'gosem.cut.vars' lays the variable. In a bare row this is a premise. The card (YtfalcbkhleobdaaGreatDoorCards.lean) ties it to the program's text. -/
def laid_fulcrum_nat_values {H : Type} : DataW H := .agg [.lit (.int .u32 0), .lit (.int .u32 1), .lit (.int .u32 2), .lit (.int .u32 3), .lit (.int .u32 4), .lit (.int .u32 5), .lit (.int .u32 6), .lit (.int .u32 7), .lit (.int .u32 8), .lit (.int .u32 9), .lit (.int .u32 99), .lit (.int .u32 99), .lit (.int .u32 99), .lit (.int .u32 99), .lit (.int .u32 99), .lit (.int .u32 99), .lit (.int .u32 99), .lit (.int .u32 99), .lit (.int .u32 99), .lit (.int .u32 99), .lit (.int .u32 99), .lit (.int .u32 99), .lit (.int .u32 99), .lit (.int .u32 99), .lit (.int .u32 99), .lit (.int .u32 99), .lit (.int .u32 99), .lit (.int .u32 99), .lit (.int .u32 99), .lit (.int .u32 99), .lit (.int .u32 99), .lit (.int .u32 99), .lit (.int .u32 99), .lit (.int .u32 99), .lit (.int .u32 99), .lit (.int .u32 99), .lit (.int .u32 99), .lit (.int .u32 99), .lit (.int .u32 99), .lit (.int .u32 99), .lit (.int .u32 99), .lit (.int .u32 99), .lit (.int .u32 99), .lit (.int .u32 99), .lit (.int .u32 99), .lit (.int .u32 99), .lit (.int .u32 99), .lit (.int .u32 99), .lit (.int .u32 99), .lit (.int .u32 10), .lit (.int .u32 11), .lit (.int .u32 12), .lit (.int .u32 13), .lit (.int .u32 14), .lit (.int .u32 15)]
def laid_unicode_utf8_acceptRanges {H : Type} : DataW H := .agg [.agg [.lit (.int .u8 128), .lit (.int .u8 191)], .agg [.lit (.int .u8 160), .lit (.int .u8 191)], .agg [.lit (.int .u8 128), .lit (.int .u8 159)], .agg [.lit (.int .u8 144), .lit (.int .u8 191)], .agg [.lit (.int .u8 128), .lit (.int .u8 143)], .agg [.lit (.int .u8 0), .lit (.int .u8 0)], .agg [.lit (.int .u8 0), .lit (.int .u8 0)], .agg [.lit (.int .u8 0), .lit (.int .u8 0)], .agg [.lit (.int .u8 0), .lit (.int .u8 0)], .agg [.lit (.int .u8 0), .lit (.int .u8 0)], .agg [.lit (.int .u8 0), .lit (.int .u8 0)], .agg [.lit (.int .u8 0), .lit (.int .u8 0)], .agg [.lit (.int .u8 0), .lit (.int .u8 0)], .agg [.lit (.int .u8 0), .lit (.int .u8 0)], .agg [.lit (.int .u8 0), .lit (.int .u8 0)], .agg [.lit (.int .u8 0), .lit (.int .u8 0)]]
/-- One of Go's own tables, pinned by name: the form's constant. -/
def laid_unicode_utf8_first : DataW Unit := Go.Pinned.utf8First

/-- 'fulcrumlaw05.DeltaTexts': WHATEVER THE INPUT: true; the input reads as it did. -/
def deltaTextsSpec : ChangeSpec := { name := "deltaTexts", fn := fun _ => fun
  | [d] => { results := [.lit (.bool true)], args := [d] }
  | _ => none }
def deltaTextsRow : OpenClaim := { program := "ytfalcbkhleobdaagreatdoor", sum := "14982d2358b870c5ac9c2437edb6f1fc4696dcf57cb54d079eb9721d9e1a3ab9", func := "fulcrum/fulcrumlaw05.DeltaTexts", spec := "deltaTexts", inPlace := ["internal/bytealg.IndexByteString", "internal/bytealg.IndexString"], named := ["unicode/utf8.first", "unicode/utf8.acceptRanges", "internal/bytealg.MaxLen", "fulcrum/nat.values", "math/bits.overflowError"], apart := false, laid := [("fulcrum/nat.values", laid_fulcrum_nat_values), ("unicode/utf8.acceptRanges", laid_unicode_utf8_acceptRanges), ("unicode/utf8.first", laid_unicode_utf8_first)] }
def DeltaTextsSaid : Prop := deltaTextsRow.holds Tryz.pinned (OpenSpec.ofChange deltaTextsSpec)

/-- ITS FALSE NEIGHBOUR: 'it returns false'. Refute it at one input. -/
def deltaTextsWrong : ChangeSpec := { name := "deltaTexts", fn := fun _ => fun
  | [d] => { results := [.lit (.bool false)], args := [d] }
  | _ => none }
def DeltaTextsWrongFalsely : Prop := deltaTextsRow.holds Tryz.pinned (OpenSpec.ofChange deltaTextsWrong)

/-- 'fulcrumlaw05.DeltaReads': WHATEVER THE INPUT: true; the input reads as it did. -/
def deltaReadsSpec : ChangeSpec := { name := "deltaReads", fn := fun _ => fun
  | [d] => { results := [.lit (.bool true)], args := [d] }
  | _ => none }
def deltaReadsRow : OpenClaim := { program := "ytfalcbkhleobdaagreatdoor", sum := "14982d2358b870c5ac9c2437edb6f1fc4696dcf57cb54d079eb9721d9e1a3ab9", func := "fulcrum/fulcrumlaw05.DeltaReads", spec := "deltaReads", inPlace := ["internal/bytealg.IndexByteString", "internal/bytealg.IndexString"], named := ["unicode/utf8.first", "unicode/utf8.acceptRanges", "internal/bytealg.MaxLen", "fulcrum/nat.values", "math/bits.overflowError"], apart := false, laid := [("fulcrum/nat.values", laid_fulcrum_nat_values), ("unicode/utf8.acceptRanges", laid_unicode_utf8_acceptRanges), ("unicode/utf8.first", laid_unicode_utf8_first)] }
def DeltaReadsSaid : Prop := deltaReadsRow.holds Tryz.pinned (OpenSpec.ofChange deltaReadsSpec)

/-- ITS FALSE NEIGHBOUR: 'it returns false'. Refute it at one input. -/
def deltaReadsWrong : ChangeSpec := { name := "deltaReads", fn := fun _ => fun
  | [d] => { results := [.lit (.bool false)], args := [d] }
  | _ => none }
def DeltaReadsWrongFalsely : Prop := deltaReadsRow.holds Tryz.pinned (OpenSpec.ofChange deltaReadsWrong)

/-- 'fulcrumlaw05.DeltaSums': WHATEVER THE INPUT: true; the input reads as it did. -/
def deltaSumsSpec : ChangeSpec := { name := "deltaSums", fn := fun _ => fun
  | [d1, d2, d3] => { results := [.lit (.bool true)], args := [d1, d2, d3] }
  | _ => none }
def deltaSumsRow : OpenClaim := { program := "ytfalcbkhleobdaagreatdoor", sum := "14982d2358b870c5ac9c2437edb6f1fc4696dcf57cb54d079eb9721d9e1a3ab9", func := "fulcrum/fulcrumlaw05.DeltaSums", spec := "deltaSums", inPlace := ["internal/bytealg.IndexByteString", "internal/bytealg.IndexString"], named := ["unicode/utf8.first", "unicode/utf8.acceptRanges", "internal/bytealg.MaxLen", "fulcrum/nat.values", "math/bits.overflowError"], apart := false, laid := [("fulcrum/nat.values", laid_fulcrum_nat_values), ("unicode/utf8.acceptRanges", laid_unicode_utf8_acceptRanges), ("unicode/utf8.first", laid_unicode_utf8_first)] }
def DeltaSumsSaid : Prop := deltaSumsRow.holds Tryz.pinned (OpenSpec.ofChange deltaSumsSpec)

/-- ITS FALSE NEIGHBOUR: 'it returns false'. Refute it at one input. -/
def deltaSumsWrong : ChangeSpec := { name := "deltaSums", fn := fun _ => fun
  | [d1, d2, d3] => { results := [.lit (.bool false)], args := [d1, d2, d3] }
  | _ => none }
def DeltaSumsWrongFalsely : Prop := deltaSumsRow.holds Tryz.pinned (OpenSpec.ofChange deltaSumsWrong)

/-- 'fulcrumlaw05.DeltaNorms': WHATEVER THE INPUT: true; the input reads as it did. -/
def deltaNormsSpec : ChangeSpec := { name := "deltaNorms", fn := fun _ => fun
  | [d1, d2] => { results := [.lit (.bool true)], args := [d1, d2] }
  | _ => none }
def deltaNormsRow : OpenClaim := { program := "ytfalcbkhleobdaagreatdoor", sum := "14982d2358b870c5ac9c2437edb6f1fc4696dcf57cb54d079eb9721d9e1a3ab9", func := "fulcrum/fulcrumlaw05.DeltaNorms", spec := "deltaNorms", inPlace := ["internal/bytealg.IndexByteString", "internal/bytealg.IndexString"], named := ["unicode/utf8.first", "unicode/utf8.acceptRanges", "internal/bytealg.MaxLen", "fulcrum/nat.values", "math/bits.overflowError"], apart := false, laid := [("fulcrum/nat.values", laid_fulcrum_nat_values), ("unicode/utf8.acceptRanges", laid_unicode_utf8_acceptRanges), ("unicode/utf8.first", laid_unicode_utf8_first)] }
def DeltaNormsSaid : Prop := deltaNormsRow.holds Tryz.pinned (OpenSpec.ofChange deltaNormsSpec)

/-- ITS FALSE NEIGHBOUR: 'it returns false'. Refute it at one input. -/
def deltaNormsWrong : ChangeSpec := { name := "deltaNorms", fn := fun _ => fun
  | [d1, d2] => { results := [.lit (.bool false)], args := [d1, d2] }
  | _ => none }
def DeltaNormsWrongFalsely : Prop := deltaNormsRow.holds Tryz.pinned (OpenSpec.ofChange deltaNormsWrong)

/-- 'fulcrumlaw05.DeltaSpace': WHATEVER THE INPUT: true; the input reads as it did. -/
def deltaSpaceSpec : ChangeSpec := { name := "deltaSpace", fn := fun _ => fun
  | [d1, d2, d3] => { results := [.lit (.bool true)], args := [d1, d2, d3] }
  | _ => none }
def deltaSpaceRow : OpenClaim := { program := "ytfalcbkhleobdaagreatdoor", sum := "14982d2358b870c5ac9c2437edb6f1fc4696dcf57cb54d079eb9721d9e1a3ab9", func := "fulcrum/fulcrumlaw05.DeltaSpace", spec := "deltaSpace", inPlace := ["internal/bytealg.IndexByteString", "internal/bytealg.IndexString"], named := ["unicode/utf8.first", "unicode/utf8.acceptRanges", "internal/bytealg.MaxLen", "fulcrum/nat.values", "math/bits.overflowError"], apart := false, laid := [("fulcrum/nat.values", laid_fulcrum_nat_values), ("unicode/utf8.acceptRanges", laid_unicode_utf8_acceptRanges), ("unicode/utf8.first", laid_unicode_utf8_first)] }
def DeltaSpaceSaid : Prop := deltaSpaceRow.holds Tryz.pinned (OpenSpec.ofChange deltaSpaceSpec)

/-- ITS FALSE NEIGHBOUR: 'it returns false'. Refute it at one input. -/
def deltaSpaceWrong : ChangeSpec := { name := "deltaSpace", fn := fun _ => fun
  | [d1, d2, d3] => { results := [.lit (.bool false)], args := [d1, d2, d3] }
  | _ => none }
def DeltaSpaceWrongFalsely : Prop := deltaSpaceRow.holds Tryz.pinned (OpenSpec.ofChange deltaSpaceWrong)

/-- 'fulcrumlaw05.DeltaSmalls': WHATEVER THE INPUT: true; the input reads as it did. -/
def deltaSmallsSpec : ChangeSpec := { name := "deltaSmalls", fn := fun _ => fun
  | [d] => { results := [.lit (.bool true)], args := [d] }
  | _ => none }
def deltaSmallsRow : OpenClaim := { program := "ytfalcbkhleobdaagreatdoor", sum := "14982d2358b870c5ac9c2437edb6f1fc4696dcf57cb54d079eb9721d9e1a3ab9", func := "fulcrum/fulcrumlaw05.DeltaSmalls", spec := "deltaSmalls", inPlace := ["internal/bytealg.IndexByteString", "internal/bytealg.IndexString"], unfollowed := true, recurses := true, named := ["math/bits.overflowError", "unicode/utf8.first", "unicode/utf8.acceptRanges", "internal/bytealg.MaxLen", "fulcrum/nat.values"], apart := false, laid := [("fulcrum/nat.values", laid_fulcrum_nat_values), ("unicode/utf8.acceptRanges", laid_unicode_utf8_acceptRanges), ("unicode/utf8.first", laid_unicode_utf8_first)] }
def DeltaSmallsSaid : Prop := deltaSmallsRow.holds Tryz.pinned (OpenSpec.ofChange deltaSmallsSpec)

/-- ITS FALSE NEIGHBOUR: 'it returns false'. Refute it at one input. -/
def deltaSmallsWrong : ChangeSpec := { name := "deltaSmalls", fn := fun _ => fun
  | [d] => { results := [.lit (.bool false)], args := [d] }
  | _ => none }
def DeltaSmallsWrongFalsely : Prop := deltaSmallsRow.holds Tryz.pinned (OpenSpec.ofChange deltaSmallsWrong)

/-- 'fulcrumlaw05.DeltaKeeps': WHATEVER THE INPUT: true; the input reads as it did. -/
def deltaKeepsSpec : ChangeSpec := { name := "deltaKeeps", fn := fun _ => fun
  | [d1, d2, d3] => { results := [.lit (.bool true)], args := [d1, d2, d3] }
  | _ => none }
def deltaKeepsRow : OpenClaim := { program := "ytfalcbkhleobdaagreatdoor", sum := "14982d2358b870c5ac9c2437edb6f1fc4696dcf57cb54d079eb9721d9e1a3ab9", func := "fulcrum/fulcrumlaw05.DeltaKeeps", spec := "deltaKeeps", inPlace := ["internal/bytealg.IndexByteString", "internal/bytealg.IndexString"], unfollowed := true, recurses := true, named := ["math/bits.overflowError", "unicode/utf8.first", "unicode/utf8.acceptRanges", "internal/bytealg.MaxLen", "fulcrum/nat.values"], apart := false, laid := [("fulcrum/nat.values", laid_fulcrum_nat_values), ("unicode/utf8.acceptRanges", laid_unicode_utf8_acceptRanges), ("unicode/utf8.first", laid_unicode_utf8_first)] }
def DeltaKeepsSaid : Prop := deltaKeepsRow.holds Tryz.pinned (OpenSpec.ofChange deltaKeepsSpec)

/-- ITS FALSE NEIGHBOUR: 'it returns false'. Refute it at one input. -/
def deltaKeepsWrong : ChangeSpec := { name := "deltaKeeps", fn := fun _ => fun
  | [d1, d2, d3] => { results := [.lit (.bool false)], args := [d1, d2, d3] }
  | _ => none }
def DeltaKeepsWrongFalsely : Prop := deltaKeepsRow.holds Tryz.pinned (OpenSpec.ofChange deltaKeepsWrong)

/-- 'fulcrumlaw05.DeltaGreatest': WHATEVER THE INPUT: true; the input reads as it did. -/
def deltaGreatestSpec : ChangeSpec := { name := "deltaGreatest", fn := fun _ => fun
  | [d1, d2] => { results := [.lit (.bool true)], args := [d1, d2] }
  | _ => none }
def deltaGreatestRow : OpenClaim := { program := "ytfalcbkhleobdaagreatdoor", sum := "14982d2358b870c5ac9c2437edb6f1fc4696dcf57cb54d079eb9721d9e1a3ab9", func := "fulcrum/fulcrumlaw05.DeltaGreatest", spec := "deltaGreatest", inPlace := ["internal/bytealg.IndexByteString", "internal/bytealg.IndexString"], unfollowed := true, recurses := true, named := ["math/bits.overflowError", "unicode/utf8.first", "unicode/utf8.acceptRanges", "internal/bytealg.MaxLen", "fulcrum/nat.values"], apart := false, laid := [("fulcrum/nat.values", laid_fulcrum_nat_values), ("unicode/utf8.acceptRanges", laid_unicode_utf8_acceptRanges), ("unicode/utf8.first", laid_unicode_utf8_first)] }
def DeltaGreatestSaid : Prop := deltaGreatestRow.holds Tryz.pinned (OpenSpec.ofChange deltaGreatestSpec)

/-- ITS FALSE NEIGHBOUR: 'it returns false'. Refute it at one input. -/
def deltaGreatestWrong : ChangeSpec := { name := "deltaGreatest", fn := fun _ => fun
  | [d1, d2] => { results := [.lit (.bool false)], args := [d1, d2] }
  | _ => none }
def DeltaGreatestWrongFalsely : Prop := deltaGreatestRow.holds Tryz.pinned (OpenSpec.ofChange deltaGreatestWrong)

/-- 'fulcrumlaw05.DeltaTells': WHATEVER THE INPUT: true; the input reads as it did. -/
def deltaTellsSpec : ChangeSpec := { name := "deltaTells", fn := fun _ => fun
  | [d1, d2] => { results := [.lit (.bool true)], args := [d1, d2] }
  | _ => none }
def deltaTellsRow : OpenClaim := { program := "ytfalcbkhleobdaagreatdoor", sum := "14982d2358b870c5ac9c2437edb6f1fc4696dcf57cb54d079eb9721d9e1a3ab9", func := "fulcrum/fulcrumlaw05.DeltaTells", spec := "deltaTells", inPlace := ["internal/bytealg.IndexByteString", "internal/bytealg.IndexString"], unfollowed := true, recurses := true, named := ["math/bits.overflowError", "unicode/utf8.first", "unicode/utf8.acceptRanges", "internal/bytealg.MaxLen", "fulcrum/nat.values"], apart := false, laid := [("fulcrum/nat.values", laid_fulcrum_nat_values), ("unicode/utf8.acceptRanges", laid_unicode_utf8_acceptRanges), ("unicode/utf8.first", laid_unicode_utf8_first)] }
def DeltaTellsSaid : Prop := deltaTellsRow.holds Tryz.pinned (OpenSpec.ofChange deltaTellsSpec)

/-- ITS FALSE NEIGHBOUR: 'it returns false'. Refute it at one input. -/
def deltaTellsWrong : ChangeSpec := { name := "deltaTells", fn := fun _ => fun
  | [d1, d2] => { results := [.lit (.bool false)], args := [d1, d2] }
  | _ => none }
def DeltaTellsWrongFalsely : Prop := deltaTellsRow.holds Tryz.pinned (OpenSpec.ofChange deltaTellsWrong)

/-- 'fulcrumlaw05.DeltaOwn': WHATEVER THE INPUT: true; the input reads as it did. -/
def deltaOwnSpec : ChangeSpec := { name := "deltaOwn", fn := fun _ => fun
  | [d1, d2, d3] => { results := [.lit (.bool true)], args := [d1, d2, d3] }
  | _ => none }
def deltaOwnRow : OpenClaim := { program := "ytfalcbkhleobdaagreatdoor", sum := "14982d2358b870c5ac9c2437edb6f1fc4696dcf57cb54d079eb9721d9e1a3ab9", func := "fulcrum/fulcrumlaw05.DeltaOwn", spec := "deltaOwn", inPlace := ["internal/bytealg.IndexByteString", "internal/bytealg.IndexString"], unfollowed := true, recurses := true, named := ["math/bits.overflowError", "unicode/utf8.first", "unicode/utf8.acceptRanges", "internal/bytealg.MaxLen", "fulcrum/nat.values"], apart := false, laid := [("fulcrum/nat.values", laid_fulcrum_nat_values), ("unicode/utf8.acceptRanges", laid_unicode_utf8_acceptRanges), ("unicode/utf8.first", laid_unicode_utf8_first)] }
def DeltaOwnSaid : Prop := deltaOwnRow.holds Tryz.pinned (OpenSpec.ofChange deltaOwnSpec)

/-- ITS FALSE NEIGHBOUR: 'it returns false'. Refute it at one input. -/
def deltaOwnWrong : ChangeSpec := { name := "deltaOwn", fn := fun _ => fun
  | [d1, d2, d3] => { results := [.lit (.bool false)], args := [d1, d2, d3] }
  | _ => none }
def DeltaOwnWrongFalsely : Prop := deltaOwnRow.holds Tryz.pinned (OpenSpec.ofChange deltaOwnWrong)

/- THE SECOND FORM. 'bulk': how many values and letters a reading holds, each counted each time it is reached (what is shared counts as often as it is met; a slice's spare places count too). A statement '..UptoSaid' is the law's where the arguments, and the package variables that the reading takes, are together of bulk at most 1048576: NARROWER than '..Said'. Prove '..Said' where nothing that the law and all that it calls make is longer than what came in: it says more and counts as full. Else prove '..UptoSaid'. A law counts once. -/
mutual
def uptoBulk {H : Type} : DataW H → Nat
  | .lit (.string bytes) => bytes.length + 1
  | .lit _ => 1
  | .nil => 1
  | .ptr d => uptoBulk d + 1
  | .slice elems spare => uptoBulkAll elems + uptoBulkAll spare + 1
  | .agg parts => uptoBulkAll parts + 1
  | .iface _ d => uptoBulk d + 1
  | .map entries => uptoBulkEntries entries + 1
  | .held _ => 1
def uptoBulkAll {H : Type} : List (DataW H) → Nat
  | [] => 0
  | d :: r => uptoBulk d + uptoBulkAll r
def uptoBulkEntries {H : Type} : List (Lit × DataW H) → Nat
  | [] => 0
  | x :: r => uptoBulkEntry x + uptoBulkEntries r
def uptoBulkEntry {H : Type} : Lit × DataW H → Nat
  | (.string bytes, d) => bytes.length + uptoBulk d + 1
  | (_, d) => uptoBulk d + 1
 end
def uptoSmall : (H : Type) → List (DataW H) → Bool := fun _ ds => decide (uptoBulkAll ds ≤ 1048576)
def OpenSpec.upto (s : _root_.Go.ChangeSpec) : _root_.Go.OpenSpec := { _root_.Go.OpenSpec.ofChange s with cond := some uptoSmall }

/-- 'fulcrumlaw05.DeltaTexts', WHERE WHAT IT READS IS OF BULK AT MOST 1048576: true; the input reads as it did. -/
def deltaTextsUptoRow : OpenClaim := { program := "ytfalcbkhleobdaagreatdoor", sum := "14982d2358b870c5ac9c2437edb6f1fc4696dcf57cb54d079eb9721d9e1a3ab9", func := "fulcrum/fulcrumlaw05.DeltaTexts", spec := "deltaTexts", inPlace := ["internal/bytealg.IndexByteString", "internal/bytealg.IndexString"], named := ["unicode/utf8.first", "unicode/utf8.acceptRanges", "internal/bytealg.MaxLen", "fulcrum/nat.values", "math/bits.overflowError"], apart := false, laid := [("fulcrum/nat.values", laid_fulcrum_nat_values), ("unicode/utf8.acceptRanges", laid_unicode_utf8_acceptRanges), ("unicode/utf8.first", laid_unicode_utf8_first)], narrowed := true }
def DeltaTextsUptoSaid : Prop := deltaTextsUptoRow.holds Tryz.pinned (OpenSpec.upto deltaTextsSpec)

/-- 'fulcrumlaw05.DeltaReads', WHERE WHAT IT READS IS OF BULK AT MOST 1048576: true; the input reads as it did. -/
def deltaReadsUptoRow : OpenClaim := { program := "ytfalcbkhleobdaagreatdoor", sum := "14982d2358b870c5ac9c2437edb6f1fc4696dcf57cb54d079eb9721d9e1a3ab9", func := "fulcrum/fulcrumlaw05.DeltaReads", spec := "deltaReads", inPlace := ["internal/bytealg.IndexByteString", "internal/bytealg.IndexString"], named := ["unicode/utf8.first", "unicode/utf8.acceptRanges", "internal/bytealg.MaxLen", "fulcrum/nat.values", "math/bits.overflowError"], apart := false, laid := [("fulcrum/nat.values", laid_fulcrum_nat_values), ("unicode/utf8.acceptRanges", laid_unicode_utf8_acceptRanges), ("unicode/utf8.first", laid_unicode_utf8_first)], narrowed := true }
def DeltaReadsUptoSaid : Prop := deltaReadsUptoRow.holds Tryz.pinned (OpenSpec.upto deltaReadsSpec)

/-- 'fulcrumlaw05.DeltaSums', WHERE WHAT IT READS IS OF BULK AT MOST 1048576: true; the input reads as it did. -/
def deltaSumsUptoRow : OpenClaim := { program := "ytfalcbkhleobdaagreatdoor", sum := "14982d2358b870c5ac9c2437edb6f1fc4696dcf57cb54d079eb9721d9e1a3ab9", func := "fulcrum/fulcrumlaw05.DeltaSums", spec := "deltaSums", inPlace := ["internal/bytealg.IndexByteString", "internal/bytealg.IndexString"], named := ["unicode/utf8.first", "unicode/utf8.acceptRanges", "internal/bytealg.MaxLen", "fulcrum/nat.values", "math/bits.overflowError"], apart := false, laid := [("fulcrum/nat.values", laid_fulcrum_nat_values), ("unicode/utf8.acceptRanges", laid_unicode_utf8_acceptRanges), ("unicode/utf8.first", laid_unicode_utf8_first)], narrowed := true }
def DeltaSumsUptoSaid : Prop := deltaSumsUptoRow.holds Tryz.pinned (OpenSpec.upto deltaSumsSpec)

/-- 'fulcrumlaw05.DeltaNorms', WHERE WHAT IT READS IS OF BULK AT MOST 1048576: true; the input reads as it did. -/
def deltaNormsUptoRow : OpenClaim := { program := "ytfalcbkhleobdaagreatdoor", sum := "14982d2358b870c5ac9c2437edb6f1fc4696dcf57cb54d079eb9721d9e1a3ab9", func := "fulcrum/fulcrumlaw05.DeltaNorms", spec := "deltaNorms", inPlace := ["internal/bytealg.IndexByteString", "internal/bytealg.IndexString"], named := ["unicode/utf8.first", "unicode/utf8.acceptRanges", "internal/bytealg.MaxLen", "fulcrum/nat.values", "math/bits.overflowError"], apart := false, laid := [("fulcrum/nat.values", laid_fulcrum_nat_values), ("unicode/utf8.acceptRanges", laid_unicode_utf8_acceptRanges), ("unicode/utf8.first", laid_unicode_utf8_first)], narrowed := true }
def DeltaNormsUptoSaid : Prop := deltaNormsUptoRow.holds Tryz.pinned (OpenSpec.upto deltaNormsSpec)

/-- 'fulcrumlaw05.DeltaSpace', WHERE WHAT IT READS IS OF BULK AT MOST 1048576: true; the input reads as it did. -/
def deltaSpaceUptoRow : OpenClaim := { program := "ytfalcbkhleobdaagreatdoor", sum := "14982d2358b870c5ac9c2437edb6f1fc4696dcf57cb54d079eb9721d9e1a3ab9", func := "fulcrum/fulcrumlaw05.DeltaSpace", spec := "deltaSpace", inPlace := ["internal/bytealg.IndexByteString", "internal/bytealg.IndexString"], named := ["unicode/utf8.first", "unicode/utf8.acceptRanges", "internal/bytealg.MaxLen", "fulcrum/nat.values", "math/bits.overflowError"], apart := false, laid := [("fulcrum/nat.values", laid_fulcrum_nat_values), ("unicode/utf8.acceptRanges", laid_unicode_utf8_acceptRanges), ("unicode/utf8.first", laid_unicode_utf8_first)], narrowed := true }
def DeltaSpaceUptoSaid : Prop := deltaSpaceUptoRow.holds Tryz.pinned (OpenSpec.upto deltaSpaceSpec)

/-- 'fulcrumlaw05.DeltaSmalls', WHERE WHAT IT READS IS OF BULK AT MOST 1048576: true; the input reads as it did. -/
def deltaSmallsUptoRow : OpenClaim := { program := "ytfalcbkhleobdaagreatdoor", sum := "14982d2358b870c5ac9c2437edb6f1fc4696dcf57cb54d079eb9721d9e1a3ab9", func := "fulcrum/fulcrumlaw05.DeltaSmalls", spec := "deltaSmalls", inPlace := ["internal/bytealg.IndexByteString", "internal/bytealg.IndexString"], unfollowed := true, recurses := true, named := ["math/bits.overflowError", "unicode/utf8.first", "unicode/utf8.acceptRanges", "internal/bytealg.MaxLen", "fulcrum/nat.values"], apart := false, laid := [("fulcrum/nat.values", laid_fulcrum_nat_values), ("unicode/utf8.acceptRanges", laid_unicode_utf8_acceptRanges), ("unicode/utf8.first", laid_unicode_utf8_first)], narrowed := true }
def DeltaSmallsUptoSaid : Prop := deltaSmallsUptoRow.holds Tryz.pinned (OpenSpec.upto deltaSmallsSpec)

/-- 'fulcrumlaw05.DeltaKeeps', WHERE WHAT IT READS IS OF BULK AT MOST 1048576: true; the input reads as it did. -/
def deltaKeepsUptoRow : OpenClaim := { program := "ytfalcbkhleobdaagreatdoor", sum := "14982d2358b870c5ac9c2437edb6f1fc4696dcf57cb54d079eb9721d9e1a3ab9", func := "fulcrum/fulcrumlaw05.DeltaKeeps", spec := "deltaKeeps", inPlace := ["internal/bytealg.IndexByteString", "internal/bytealg.IndexString"], unfollowed := true, recurses := true, named := ["math/bits.overflowError", "unicode/utf8.first", "unicode/utf8.acceptRanges", "internal/bytealg.MaxLen", "fulcrum/nat.values"], apart := false, laid := [("fulcrum/nat.values", laid_fulcrum_nat_values), ("unicode/utf8.acceptRanges", laid_unicode_utf8_acceptRanges), ("unicode/utf8.first", laid_unicode_utf8_first)], narrowed := true }
def DeltaKeepsUptoSaid : Prop := deltaKeepsUptoRow.holds Tryz.pinned (OpenSpec.upto deltaKeepsSpec)

/-- 'fulcrumlaw05.DeltaGreatest', WHERE WHAT IT READS IS OF BULK AT MOST 1048576: true; the input reads as it did. -/
def deltaGreatestUptoRow : OpenClaim := { program := "ytfalcbkhleobdaagreatdoor", sum := "14982d2358b870c5ac9c2437edb6f1fc4696dcf57cb54d079eb9721d9e1a3ab9", func := "fulcrum/fulcrumlaw05.DeltaGreatest", spec := "deltaGreatest", inPlace := ["internal/bytealg.IndexByteString", "internal/bytealg.IndexString"], unfollowed := true, recurses := true, named := ["math/bits.overflowError", "unicode/utf8.first", "unicode/utf8.acceptRanges", "internal/bytealg.MaxLen", "fulcrum/nat.values"], apart := false, laid := [("fulcrum/nat.values", laid_fulcrum_nat_values), ("unicode/utf8.acceptRanges", laid_unicode_utf8_acceptRanges), ("unicode/utf8.first", laid_unicode_utf8_first)], narrowed := true }
def DeltaGreatestUptoSaid : Prop := deltaGreatestUptoRow.holds Tryz.pinned (OpenSpec.upto deltaGreatestSpec)

/-- 'fulcrumlaw05.DeltaTells', WHERE WHAT IT READS IS OF BULK AT MOST 1048576: true; the input reads as it did. -/
def deltaTellsUptoRow : OpenClaim := { program := "ytfalcbkhleobdaagreatdoor", sum := "14982d2358b870c5ac9c2437edb6f1fc4696dcf57cb54d079eb9721d9e1a3ab9", func := "fulcrum/fulcrumlaw05.DeltaTells", spec := "deltaTells", inPlace := ["internal/bytealg.IndexByteString", "internal/bytealg.IndexString"], unfollowed := true, recurses := true, named := ["math/bits.overflowError", "unicode/utf8.first", "unicode/utf8.acceptRanges", "internal/bytealg.MaxLen", "fulcrum/nat.values"], apart := false, laid := [("fulcrum/nat.values", laid_fulcrum_nat_values), ("unicode/utf8.acceptRanges", laid_unicode_utf8_acceptRanges), ("unicode/utf8.first", laid_unicode_utf8_first)], narrowed := true }
def DeltaTellsUptoSaid : Prop := deltaTellsUptoRow.holds Tryz.pinned (OpenSpec.upto deltaTellsSpec)

/-- 'fulcrumlaw05.DeltaOwn', WHERE WHAT IT READS IS OF BULK AT MOST 1048576: true; the input reads as it did. -/
def deltaOwnUptoRow : OpenClaim := { program := "ytfalcbkhleobdaagreatdoor", sum := "14982d2358b870c5ac9c2437edb6f1fc4696dcf57cb54d079eb9721d9e1a3ab9", func := "fulcrum/fulcrumlaw05.DeltaOwn", spec := "deltaOwn", inPlace := ["internal/bytealg.IndexByteString", "internal/bytealg.IndexString"], unfollowed := true, recurses := true, named := ["math/bits.overflowError", "unicode/utf8.first", "unicode/utf8.acceptRanges", "internal/bytealg.MaxLen", "fulcrum/nat.values"], apart := false, laid := [("fulcrum/nat.values", laid_fulcrum_nat_values), ("unicode/utf8.acceptRanges", laid_unicode_utf8_acceptRanges), ("unicode/utf8.first", laid_unicode_utf8_first)], narrowed := true }
def DeltaOwnUptoSaid : Prop := deltaOwnUptoRow.holds Tryz.pinned (OpenSpec.upto deltaOwnSpec)

end Rows
end Go.Proofs.YtfalcbkhleobdaaGreatDoor
