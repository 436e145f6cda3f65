/-
  NARROWER THAN 'FOR EVERY INPUT', by the rows' own cells (each row's printed sentence says how): RatioReads: laid · RatioNorms: laid · RatioTexts: laid · RatioFloors: laid · RatioField: laid.
  DERIVED. THE GIVEN ROWS OF THIS SEAT. 5 by the template 'for every input the law returns true; each argument reads behind the call as it read before'; 0 by the template 'total and deterministic' (their statements: YtiacmfebhoodnaaDoorTotals.lean).
  GIVEN WITH THE SEED: the statements are not yours to turn. If you find one false, say at which input.
  Laid BY PROGRAM, IN A SANDBOX (cutbox-rows.mjs): the forced cells as the released guide's own fill.sh prints them over the translation 387484623eb1b052… (all of the seat's roots in one cut). By AI agents, Wed Nov 11 2026. No macro, syntax, notation, axiom, sorry.
-/
import Derived.Test.YtiacmfebhoodnaaDoorChecked
import GoSem.PinnedTables
import GoSem.Claim
import GoSem.ClaimJoined
import GoSem.ClaimMapViews
import Derived.JoinedTies
import Derived.KernelRfl
namespace Go.Proofs.YtiacmfebhoodnaaDoor
/- THE CELL 'sum', in the pinned program and in every row, IS THE sha256 OF THE DUMP (.gsa) THAT YtiacmfebhoodnaaDoorProg.lean LOADS. Nothing in Lean hashes anything: it is a label: what it is worth is what the hold of that sum in a sandbox is worth. -/
noncomputable def Tryd.pinned : Pinned := { name := "ytiacmfebhoodnaadoor", sum := "387484623eb1b0523852737d234d6c9ad8843ef925ca0708fe2bc9a3a6f6f58b", checked := Tryd.checked }
namespace Rows
def none {H : Type} : Left H := { results := [], args := [] }

/- WHAT THE LISTED PACKAGE-LEVEL VARIABLES READ AS WHEN THE CALL BEGINS. Each datum BY PROGRAM (the guide's laid-datum.mjs) off the statement by which the dump's own 'gosem.cut.vars' lays the variable. In a bare row this is a premise. The card (YtiacmfebhoodnaaDoorCards.lean) ties it to the program's text. -/
def laid_fulcrum_nat_values {H : Type} : DataW H := .agg [.lit (.int .u32 0), .lit (.int .u32 1), .lit (.int .u32 2), .lit (.int .u32 3), .lit (.int .u32 4), .lit (.int .u32 5), .lit (.int .u32 6), .lit (.int .u32 7), .lit (.int .u32 8), .lit (.int .u32 9), .lit (.int .u32 99), .lit (.int .u32 99), .lit (.int .u32 99), .lit (.int .u32 99), .lit (.int .u32 99), .lit (.int .u32 99), .lit (.int .u32 99), .lit (.int .u32 99), .lit (.int .u32 99), .lit (.int .u32 99), .lit (.int .u32 99), .lit (.int .u32 99), .lit (.int .u32 99), .lit (.int .u32 99), .lit (.int .u32 99), .lit (.int .u32 99), .lit (.int .u32 99), .lit (.int .u32 99), .lit (.int .u32 99), .lit (.int .u32 99), .lit (.int .u32 99), .lit (.int .u32 99), .lit (.int .u32 99), .lit (.int .u32 99), .lit (.int .u32 99), .lit (.int .u32 99), .lit (.int .u32 99), .lit (.int .u32 99), .lit (.int .u32 99), .lit (.int .u32 99), .lit (.int .u32 99), .lit (.int .u32 99), .lit (.int .u32 99), .lit (.int .u32 99), .lit (.int .u32 99), .lit (.int .u32 99), .lit (.int .u32 99), .lit (.int .u32 99), .lit (.int .u32 99), .lit (.int .u32 10), .lit (.int .u32 11), .lit (.int .u32 12), .lit (.int .u32 13), .lit (.int .u32 14), .lit (.int .u32 15)]
def laid_unicode_utf8_acceptRanges {H : Type} : DataW H := .agg [.agg [.lit (.int .u8 128), .lit (.int .u8 191)], .agg [.lit (.int .u8 160), .lit (.int .u8 191)], .agg [.lit (.int .u8 128), .lit (.int .u8 159)], .agg [.lit (.int .u8 144), .lit (.int .u8 191)], .agg [.lit (.int .u8 128), .lit (.int .u8 143)], .agg [.lit (.int .u8 0), .lit (.int .u8 0)], .agg [.lit (.int .u8 0), .lit (.int .u8 0)], .agg [.lit (.int .u8 0), .lit (.int .u8 0)], .agg [.lit (.int .u8 0), .lit (.int .u8 0)], .agg [.lit (.int .u8 0), .lit (.int .u8 0)], .agg [.lit (.int .u8 0), .lit (.int .u8 0)], .agg [.lit (.int .u8 0), .lit (.int .u8 0)], .agg [.lit (.int .u8 0), .lit (.int .u8 0)], .agg [.lit (.int .u8 0), .lit (.int .u8 0)], .agg [.lit (.int .u8 0), .lit (.int .u8 0)], .agg [.lit (.int .u8 0), .lit (.int .u8 0)]]
/-- One of Go's own tables, pinned by name: the form's constant. -/
def laid_unicode_utf8_first : DataW Unit := Go.Pinned.utf8First

/-- 'fulcrumlaw03.RatioReads': WHATEVER THE INPUT: true; the input reads as it did. -/
def ratioReadsSpec : ChangeSpec := { name := "ratioReads", fn := fun _ => fun
  | [d] => { results := [.lit (.bool true)], args := [d] }
  | _ => none }
def ratioReadsRow : OpenClaim := { program := "ytiacmfebhoodnaadoor", sum := "387484623eb1b0523852737d234d6c9ad8843ef925ca0708fe2bc9a3a6f6f58b", func := "fulcrum/fulcrumlaw03.RatioReads", spec := "ratioReads", inPlace := ["internal/bytealg.IndexByteString", "internal/bytealg.IndexString"], named := ["internal/bytealg.MaxLen", "fulcrum/nat.values", "math/bits.overflowError", "unicode/utf8.first", "unicode/utf8.acceptRanges"], apart := false, laid := [("fulcrum/nat.values", laid_fulcrum_nat_values), ("unicode/utf8.acceptRanges", laid_unicode_utf8_acceptRanges), ("unicode/utf8.first", laid_unicode_utf8_first)] }
def RatioReadsSaid : Prop := ratioReadsRow.holds Tryd.pinned (OpenSpec.ofChange ratioReadsSpec)

/-- ITS FALSE NEIGHBOUR: 'it returns false'. Refute it at one input. -/
def ratioReadsWrong : ChangeSpec := { name := "ratioReads", fn := fun _ => fun
  | [d] => { results := [.lit (.bool false)], args := [d] }
  | _ => none }
def RatioReadsWrongFalsely : Prop := ratioReadsRow.holds Tryd.pinned (OpenSpec.ofChange ratioReadsWrong)

/-- 'fulcrumlaw03.RatioNorms': WHATEVER THE INPUT: true; the input reads as it did. -/
def ratioNormsSpec : ChangeSpec := { name := "ratioNorms", fn := fun _ => fun
  | [d1, d2, d3] => { results := [.lit (.bool true)], args := [d1, d2, d3] }
  | _ => none }
def ratioNormsRow : OpenClaim := { program := "ytiacmfebhoodnaadoor", sum := "387484623eb1b0523852737d234d6c9ad8843ef925ca0708fe2bc9a3a6f6f58b", func := "fulcrum/fulcrumlaw03.RatioNorms", spec := "ratioNorms", inPlace := ["internal/bytealg.IndexByteString", "internal/bytealg.IndexString"], named := ["math/bits.overflowError", "internal/bytealg.MaxLen", "fulcrum/nat.values", "unicode/utf8.first", "unicode/utf8.acceptRanges"], apart := false, laid := [("fulcrum/nat.values", laid_fulcrum_nat_values), ("unicode/utf8.acceptRanges", laid_unicode_utf8_acceptRanges), ("unicode/utf8.first", laid_unicode_utf8_first)] }
def RatioNormsSaid : Prop := ratioNormsRow.holds Tryd.pinned (OpenSpec.ofChange ratioNormsSpec)

/-- ITS FALSE NEIGHBOUR: 'it returns false'. Refute it at one input. -/
def ratioNormsWrong : ChangeSpec := { name := "ratioNorms", fn := fun _ => fun
  | [d1, d2, d3] => { results := [.lit (.bool false)], args := [d1, d2, d3] }
  | _ => none }
def RatioNormsWrongFalsely : Prop := ratioNormsRow.holds Tryd.pinned (OpenSpec.ofChange ratioNormsWrong)

/-- 'fulcrumlaw03.RatioTexts': WHATEVER THE INPUT: true; the input reads as it did. -/
def ratioTextsSpec : ChangeSpec := { name := "ratioTexts", fn := fun _ => fun
  | [d] => { results := [.lit (.bool true)], args := [d] }
  | _ => none }
def ratioTextsRow : OpenClaim := { program := "ytiacmfebhoodnaadoor", sum := "387484623eb1b0523852737d234d6c9ad8843ef925ca0708fe2bc9a3a6f6f58b", func := "fulcrum/fulcrumlaw03.RatioTexts", spec := "ratioTexts", inPlace := ["internal/bytealg.IndexByteString", "internal/bytealg.IndexString"], recurses := true, named := ["internal/bytealg.MaxLen", "fulcrum/nat.values", "math/bits.overflowError", "unicode/utf8.first", "unicode/utf8.acceptRanges"], apart := false, laid := [("fulcrum/nat.values", laid_fulcrum_nat_values), ("unicode/utf8.acceptRanges", laid_unicode_utf8_acceptRanges), ("unicode/utf8.first", laid_unicode_utf8_first)] }
def RatioTextsSaid : Prop := ratioTextsRow.holds Tryd.pinned (OpenSpec.ofChange ratioTextsSpec)

/-- ITS FALSE NEIGHBOUR: 'it returns false'. Refute it at one input. -/
def ratioTextsWrong : ChangeSpec := { name := "ratioTexts", fn := fun _ => fun
  | [d] => { results := [.lit (.bool false)], args := [d] }
  | _ => none }
def RatioTextsWrongFalsely : Prop := ratioTextsRow.holds Tryd.pinned (OpenSpec.ofChange ratioTextsWrong)

/-- 'fulcrumlaw03.RatioFloors': WHATEVER THE INPUT: true; the input reads as it did. -/
def ratioFloorsSpec : ChangeSpec := { name := "ratioFloors", fn := fun _ => fun
  | [d] => { results := [.lit (.bool true)], args := [d] }
  | _ => none }
def ratioFloorsRow : OpenClaim := { program := "ytiacmfebhoodnaadoor", sum := "387484623eb1b0523852737d234d6c9ad8843ef925ca0708fe2bc9a3a6f6f58b", func := "fulcrum/fulcrumlaw03.RatioFloors", spec := "ratioFloors", inPlace := ["internal/bytealg.IndexByteString", "internal/bytealg.IndexString"], named := ["internal/bytealg.MaxLen", "fulcrum/nat.values", "math/bits.overflowError", "unicode/utf8.first", "unicode/utf8.acceptRanges"], apart := false, laid := [("fulcrum/nat.values", laid_fulcrum_nat_values), ("unicode/utf8.acceptRanges", laid_unicode_utf8_acceptRanges), ("unicode/utf8.first", laid_unicode_utf8_first)] }
def RatioFloorsSaid : Prop := ratioFloorsRow.holds Tryd.pinned (OpenSpec.ofChange ratioFloorsSpec)

/-- ITS FALSE NEIGHBOUR: 'it returns false'. Refute it at one input. -/
def ratioFloorsWrong : ChangeSpec := { name := "ratioFloors", fn := fun _ => fun
  | [d] => { results := [.lit (.bool false)], args := [d] }
  | _ => none }
def RatioFloorsWrongFalsely : Prop := ratioFloorsRow.holds Tryd.pinned (OpenSpec.ofChange ratioFloorsWrong)

/-- 'fulcrumlaw03.RatioField': WHATEVER THE INPUT: true; the input reads as it did. -/
def ratioFieldSpec : ChangeSpec := { name := "ratioField", fn := fun _ => fun
  | [d1, d2, d3] => { results := [.lit (.bool true)], args := [d1, d2, d3] }
  | _ => none }
def ratioFieldRow : OpenClaim := { program := "ytiacmfebhoodnaadoor", sum := "387484623eb1b0523852737d234d6c9ad8843ef925ca0708fe2bc9a3a6f6f58b", func := "fulcrum/fulcrumlaw03.RatioField", spec := "ratioField", inPlace := ["internal/bytealg.IndexByteString", "internal/bytealg.IndexString"], named := ["internal/bytealg.MaxLen", "fulcrum/nat.values", "math/bits.overflowError", "unicode/utf8.first", "unicode/utf8.acceptRanges"], apart := false, laid := [("fulcrum/nat.values", laid_fulcrum_nat_values), ("unicode/utf8.acceptRanges", laid_unicode_utf8_acceptRanges), ("unicode/utf8.first", laid_unicode_utf8_first)] }
def RatioFieldSaid : Prop := ratioFieldRow.holds Tryd.pinned (OpenSpec.ofChange ratioFieldSpec)

/-- ITS FALSE NEIGHBOUR: 'it returns false'. Refute it at one input. -/
def ratioFieldWrong : ChangeSpec := { name := "ratioField", fn := fun _ => fun
  | [d1, d2, d3] => { results := [.lit (.bool false)], args := [d1, d2, d3] }
  | _ => none }
def RatioFieldWrongFalsely : Prop := ratioFieldRow.holds Tryd.pinned (OpenSpec.ofChange ratioFieldWrong)

/- THE SECOND FORM. 'bulk': how many values and letters a reading holds, each counted each time it is reached (what is shared counts as often as it is met; a slice's spare places count too). A statement '..UptoSaid' is the law's where the arguments, and the package variables that the reading takes, are together of bulk at most 1048576: NARROWER than '..Said'. Prove '..Said' where nothing that the law and all that it calls make is longer than what came in: it says more and counts as full. Else prove '..UptoSaid'. A law counts once. -/
mutual
def uptoBulk {H : Type} : DataW H → Nat
  | .lit (.string bytes) => bytes.length + 1
  | .lit _ => 1
  | .nil => 1
  | .ptr d => uptoBulk d + 1
  | .slice elems spare => uptoBulkAll elems + uptoBulkAll spare + 1
  | .agg parts => uptoBulkAll parts + 1
  | .iface _ d => uptoBulk d + 1
  | .map entries => uptoBulkEntries entries + 1
  | .held _ => 1
def uptoBulkAll {H : Type} : List (DataW H) → Nat
  | [] => 0
  | d :: r => uptoBulk d + uptoBulkAll r
def uptoBulkEntries {H : Type} : List (Lit × DataW H) → Nat
  | [] => 0
  | x :: r => uptoBulkEntry x + uptoBulkEntries r
def uptoBulkEntry {H : Type} : Lit × DataW H → Nat
  | (.string bytes, d) => bytes.length + uptoBulk d + 1
  | (_, d) => uptoBulk d + 1
 end
def uptoSmall : (H : Type) → List (DataW H) → Bool := fun _ ds => decide (uptoBulkAll ds ≤ 1048576)
def OpenSpec.upto (s : _root_.Go.ChangeSpec) : _root_.Go.OpenSpec := { _root_.Go.OpenSpec.ofChange s with cond := some uptoSmall }

/-- 'fulcrumlaw03.RatioReads', WHERE WHAT IT READS IS OF BULK AT MOST 1048576: true; the input reads as it did. -/
def ratioReadsUptoRow : OpenClaim := { program := "ytiacmfebhoodnaadoor", sum := "387484623eb1b0523852737d234d6c9ad8843ef925ca0708fe2bc9a3a6f6f58b", func := "fulcrum/fulcrumlaw03.RatioReads", spec := "ratioReads", inPlace := ["internal/bytealg.IndexByteString", "internal/bytealg.IndexString"], named := ["internal/bytealg.MaxLen", "fulcrum/nat.values", "math/bits.overflowError", "unicode/utf8.first", "unicode/utf8.acceptRanges"], apart := false, laid := [("fulcrum/nat.values", laid_fulcrum_nat_values), ("unicode/utf8.acceptRanges", laid_unicode_utf8_acceptRanges), ("unicode/utf8.first", laid_unicode_utf8_first)], narrowed := true }
def RatioReadsUptoSaid : Prop := ratioReadsUptoRow.holds Tryd.pinned (OpenSpec.upto ratioReadsSpec)

/-- 'fulcrumlaw03.RatioNorms', WHERE WHAT IT READS IS OF BULK AT MOST 1048576: true; the input reads as it did. -/
def ratioNormsUptoRow : OpenClaim := { program := "ytiacmfebhoodnaadoor", sum := "387484623eb1b0523852737d234d6c9ad8843ef925ca0708fe2bc9a3a6f6f58b", func := "fulcrum/fulcrumlaw03.RatioNorms", spec := "ratioNorms", inPlace := ["internal/bytealg.IndexByteString", "internal/bytealg.IndexString"], named := ["math/bits.overflowError", "internal/bytealg.MaxLen", "fulcrum/nat.values", "unicode/utf8.first", "unicode/utf8.acceptRanges"], apart := false, laid := [("fulcrum/nat.values", laid_fulcrum_nat_values), ("unicode/utf8.acceptRanges", laid_unicode_utf8_acceptRanges), ("unicode/utf8.first", laid_unicode_utf8_first)], narrowed := true }
def RatioNormsUptoSaid : Prop := ratioNormsUptoRow.holds Tryd.pinned (OpenSpec.upto ratioNormsSpec)

/-- 'fulcrumlaw03.RatioTexts', WHERE WHAT IT READS IS OF BULK AT MOST 1048576: true; the input reads as it did. -/
def ratioTextsUptoRow : OpenClaim := { program := "ytiacmfebhoodnaadoor", sum := "387484623eb1b0523852737d234d6c9ad8843ef925ca0708fe2bc9a3a6f6f58b", func := "fulcrum/fulcrumlaw03.RatioTexts", spec := "ratioTexts", inPlace := ["internal/bytealg.IndexByteString", "internal/bytealg.IndexString"], recurses := true, named := ["internal/bytealg.MaxLen", "fulcrum/nat.values", "math/bits.overflowError", "unicode/utf8.first", "unicode/utf8.acceptRanges"], apart := false, laid := [("fulcrum/nat.values", laid_fulcrum_nat_values), ("unicode/utf8.acceptRanges", laid_unicode_utf8_acceptRanges), ("unicode/utf8.first", laid_unicode_utf8_first)], narrowed := true }
def RatioTextsUptoSaid : Prop := ratioTextsUptoRow.holds Tryd.pinned (OpenSpec.upto ratioTextsSpec)

/-- 'fulcrumlaw03.RatioFloors', WHERE WHAT IT READS IS OF BULK AT MOST 1048576: true; the input reads as it did. -/
def ratioFloorsUptoRow : OpenClaim := { program := "ytiacmfebhoodnaadoor", sum := "387484623eb1b0523852737d234d6c9ad8843ef925ca0708fe2bc9a3a6f6f58b", func := "fulcrum/fulcrumlaw03.RatioFloors", spec := "ratioFloors", inPlace := ["internal/bytealg.IndexByteString", "internal/bytealg.IndexString"], named := ["internal/bytealg.MaxLen", "fulcrum/nat.values", "math/bits.overflowError", "unicode/utf8.first", "unicode/utf8.acceptRanges"], apart := false, laid := [("fulcrum/nat.values", laid_fulcrum_nat_values), ("unicode/utf8.acceptRanges", laid_unicode_utf8_acceptRanges), ("unicode/utf8.first", laid_unicode_utf8_first)], narrowed := true }
def RatioFloorsUptoSaid : Prop := ratioFloorsUptoRow.holds Tryd.pinned (OpenSpec.upto ratioFloorsSpec)

/-- 'fulcrumlaw03.RatioField', WHERE WHAT IT READS IS OF BULK AT MOST 1048576: true; the input reads as it did. -/
def ratioFieldUptoRow : OpenClaim := { program := "ytiacmfebhoodnaadoor", sum := "387484623eb1b0523852737d234d6c9ad8843ef925ca0708fe2bc9a3a6f6f58b", func := "fulcrum/fulcrumlaw03.RatioField", spec := "ratioField", inPlace := ["internal/bytealg.IndexByteString", "internal/bytealg.IndexString"], named := ["internal/bytealg.MaxLen", "fulcrum/nat.values", "math/bits.overflowError", "unicode/utf8.first", "unicode/utf8.acceptRanges"], apart := false, laid := [("fulcrum/nat.values", laid_fulcrum_nat_values), ("unicode/utf8.acceptRanges", laid_unicode_utf8_acceptRanges), ("unicode/utf8.first", laid_unicode_utf8_first)], narrowed := true }
def RatioFieldUptoSaid : Prop := ratioFieldUptoRow.holds Tryd.pinned (OpenSpec.upto ratioFieldSpec)

end Rows
end Go.Proofs.YtiacmfebhoodnaaDoor
