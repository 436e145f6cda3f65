/-
  NARROWER THAN 'FOR EVERY INPUT', by the rows' own cells (each row's printed sentence says how): TokensNobody: laid · TokensPieces: laid · TokensReads: laid · TokensCuts: laid.
  DERIVED. THE GIVEN ROWS OF THIS SEAT. 4 by the template 'for every input the law returns true; each argument reads behind the call as it read before'; 0 by the template 'total and deterministic' (their statements: YtjbliegkmhoffaaDoorTotals.lean).
  GIVEN WITH THE SEED: the statements are not yours to turn. If you find one false, say at which input.
  Laid BY PROGRAM, IN A SANDBOX (cutbox-rows.mjs): the forced cells as the released guide's own fill.sh prints them over the translation 1c7db7704b1cdf83… (all of the seat's roots in one cut). By AI agents, Wed Nov 11 2026. No macro, syntax, notation, axiom, sorry.
-/
import Derived.Test.YtjbliegkmhoffaaDoorChecked
import GoSem.PinnedTables
import GoSem.Claim
import GoSem.ClaimJoined
import GoSem.ClaimMapViews
import Derived.JoinedTies
import Derived.KernelRfl
namespace Go.Proofs.YtjbliegkmhoffaaDoor
/- THE CELL 'sum', in the pinned program and in every row, IS THE sha256 OF THE DUMP (.gsa) THAT YtjbliegkmhoffaaDoorProg.lean LOADS. Nothing in Lean hashes anything: it is a label: what it is worth is what the hold of that sum in a sandbox is worth. -/
noncomputable def Tryd.pinned : Pinned := { name := "ytjbliegkmhoffaadoor", sum := "1c7db7704b1cdf830e34f0230c0d91924421f9841618821d3884ac331f750484", checked := Tryd.checked }
namespace Rows
def none {H : Type} : Left H := { results := [], args := [] }

/- WHAT THE LISTED PACKAGE-LEVEL VARIABLES READ AS WHEN THE CALL BEGINS. Each datum BY PROGRAM (the guide's laid-datum.mjs) off the statement by which the dump's own 'gosem.cut.vars' lays the variable. In a bare row this is a premise. The card (YtjbliegkmhoffaaDoorCards.lean) ties it to the program's text. -/
def laid_unicode_utf8_acceptRanges {H : Type} : DataW H := .agg [.agg [.lit (.int .u8 128), .lit (.int .u8 191)], .agg [.lit (.int .u8 160), .lit (.int .u8 191)], .agg [.lit (.int .u8 128), .lit (.int .u8 159)], .agg [.lit (.int .u8 144), .lit (.int .u8 191)], .agg [.lit (.int .u8 128), .lit (.int .u8 143)], .agg [.lit (.int .u8 0), .lit (.int .u8 0)], .agg [.lit (.int .u8 0), .lit (.int .u8 0)], .agg [.lit (.int .u8 0), .lit (.int .u8 0)], .agg [.lit (.int .u8 0), .lit (.int .u8 0)], .agg [.lit (.int .u8 0), .lit (.int .u8 0)], .agg [.lit (.int .u8 0), .lit (.int .u8 0)], .agg [.lit (.int .u8 0), .lit (.int .u8 0)], .agg [.lit (.int .u8 0), .lit (.int .u8 0)], .agg [.lit (.int .u8 0), .lit (.int .u8 0)], .agg [.lit (.int .u8 0), .lit (.int .u8 0)], .agg [.lit (.int .u8 0), .lit (.int .u8 0)]]
/-- One of Go's own tables, pinned by name: the form's constant. -/
def laid_unicode_utf8_first : DataW Unit := Go.Pinned.utf8First

/-- 'fulcrumlaw12.TokensNobody': WHATEVER THE INPUT: true; the input reads as it did. -/
def tokensNobodySpec : ChangeSpec := { name := "tokensNobody", fn := fun _ => fun
  | [d] => { results := [.lit (.bool true)], args := [d] }
  | _ => none }
def tokensNobodyRow : OpenClaim := { program := "ytjbliegkmhoffaadoor", sum := "1c7db7704b1cdf830e34f0230c0d91924421f9841618821d3884ac331f750484", func := "fulcrum/fulcrumlaw12.TokensNobody", spec := "tokensNobody", inPlace := ["internal/bytealg.CountString", "internal/bytealg.IndexByteString", "internal/bytealg.IndexString", "internal/abi.NoEscape", "internal/bytealg.MakeNoZero"], unfollowed := true, recurses := true, named := ["internal/bytealg.MaxLen", "unicode/utf8.first", "unicode/utf8.acceptRanges"], apart := false, laid := [("unicode/utf8.acceptRanges", laid_unicode_utf8_acceptRanges), ("unicode/utf8.first", laid_unicode_utf8_first)] }
def TokensNobodySaid : Prop := tokensNobodyRow.holds Tryd.pinned (OpenSpec.ofChange tokensNobodySpec)

/-- ITS FALSE NEIGHBOUR: 'it returns false'. Refute it at one input. -/
def tokensNobodyWrong : ChangeSpec := { name := "tokensNobody", fn := fun _ => fun
  | [d] => { results := [.lit (.bool false)], args := [d] }
  | _ => none }
def TokensNobodyWrongFalsely : Prop := tokensNobodyRow.holds Tryd.pinned (OpenSpec.ofChange tokensNobodyWrong)

/-- 'fulcrumlaw12.TokensPieces': WHATEVER THE INPUT: true; the input reads as it did. -/
def tokensPiecesSpec : ChangeSpec := { name := "tokensPieces", fn := fun _ => fun
  | [d] => { results := [.lit (.bool true)], args := [d] }
  | _ => none }
def tokensPiecesRow : OpenClaim := { program := "ytjbliegkmhoffaadoor", sum := "1c7db7704b1cdf830e34f0230c0d91924421f9841618821d3884ac331f750484", func := "fulcrum/fulcrumlaw12.TokensPieces", spec := "tokensPieces", inPlace := ["internal/bytealg.CountString", "internal/bytealg.IndexByteString", "internal/bytealg.IndexString", "internal/abi.NoEscape", "internal/bytealg.MakeNoZero"], unfollowed := true, recurses := true, named := ["internal/bytealg.MaxLen", "unicode/utf8.first", "unicode/utf8.acceptRanges"], apart := false, laid := [("unicode/utf8.acceptRanges", laid_unicode_utf8_acceptRanges), ("unicode/utf8.first", laid_unicode_utf8_first)] }
def TokensPiecesSaid : Prop := tokensPiecesRow.holds Tryd.pinned (OpenSpec.ofChange tokensPiecesSpec)

/-- ITS FALSE NEIGHBOUR: 'it returns false'. Refute it at one input. -/
def tokensPiecesWrong : ChangeSpec := { name := "tokensPieces", fn := fun _ => fun
  | [d] => { results := [.lit (.bool false)], args := [d] }
  | _ => none }
def TokensPiecesWrongFalsely : Prop := tokensPiecesRow.holds Tryd.pinned (OpenSpec.ofChange tokensPiecesWrong)

/-- 'fulcrumlaw12.TokensReads': WHATEVER THE INPUT: true; the input reads as it did. -/
def tokensReadsSpec : ChangeSpec := { name := "tokensReads", fn := fun _ => fun
  | [d] => { results := [.lit (.bool true)], args := [d] }
  | _ => none }
def tokensReadsRow : OpenClaim := { program := "ytjbliegkmhoffaadoor", sum := "1c7db7704b1cdf830e34f0230c0d91924421f9841618821d3884ac331f750484", func := "fulcrum/fulcrumlaw12.TokensReads", spec := "tokensReads", inPlace := ["internal/bytealg.CountString", "internal/bytealg.IndexByteString", "internal/bytealg.IndexString", "internal/abi.NoEscape", "internal/bytealg.MakeNoZero"], unfollowed := true, recurses := true, named := ["internal/bytealg.MaxLen", "unicode/utf8.first", "unicode/utf8.acceptRanges"], apart := false, laid := [("unicode/utf8.acceptRanges", laid_unicode_utf8_acceptRanges), ("unicode/utf8.first", laid_unicode_utf8_first)] }
def TokensReadsSaid : Prop := tokensReadsRow.holds Tryd.pinned (OpenSpec.ofChange tokensReadsSpec)

/-- ITS FALSE NEIGHBOUR: 'it returns false'. Refute it at one input. -/
def tokensReadsWrong : ChangeSpec := { name := "tokensReads", fn := fun _ => fun
  | [d] => { results := [.lit (.bool false)], args := [d] }
  | _ => none }
def TokensReadsWrongFalsely : Prop := tokensReadsRow.holds Tryd.pinned (OpenSpec.ofChange tokensReadsWrong)

/-- 'fulcrumlaw12.TokensCuts': WHATEVER THE INPUT: true; the input reads as it did. -/
def tokensCutsSpec : ChangeSpec := { name := "tokensCuts", fn := fun _ => fun
  | [d1, d2] => { results := [.lit (.bool true)], args := [d1, d2] }
  | _ => none }
def tokensCutsRow : OpenClaim := { program := "ytjbliegkmhoffaadoor", sum := "1c7db7704b1cdf830e34f0230c0d91924421f9841618821d3884ac331f750484", func := "fulcrum/fulcrumlaw12.TokensCuts", spec := "tokensCuts", inPlace := ["internal/bytealg.CountString", "internal/bytealg.IndexByteString", "internal/bytealg.IndexString", "internal/abi.NoEscape", "internal/bytealg.MakeNoZero"], unfollowed := true, recurses := true, named := ["internal/bytealg.MaxLen", "unicode/utf8.first", "unicode/utf8.acceptRanges"], apart := false, laid := [("unicode/utf8.acceptRanges", laid_unicode_utf8_acceptRanges), ("unicode/utf8.first", laid_unicode_utf8_first)] }
def TokensCutsSaid : Prop := tokensCutsRow.holds Tryd.pinned (OpenSpec.ofChange tokensCutsSpec)

/-- ITS FALSE NEIGHBOUR: 'it returns false'. Refute it at one input. -/
def tokensCutsWrong : ChangeSpec := { name := "tokensCuts", fn := fun _ => fun
  | [d1, d2] => { results := [.lit (.bool false)], args := [d1, d2] }
  | _ => none }
def TokensCutsWrongFalsely : Prop := tokensCutsRow.holds Tryd.pinned (OpenSpec.ofChange tokensCutsWrong)

/- THE SECOND FORM. 'bulk': how many values and letters a reading holds, each counted each time it is reached (what is shared counts as often as it is met; a slice's spare places count too). A statement '..UptoSaid' is the law's where the arguments, and the package variables that the reading takes, are together of bulk at most 1048576: NARROWER than '..Said'. Prove '..Said' where nothing that the law and all that it calls make is longer than what came in: it says more and counts as full. Else prove '..UptoSaid'. A law counts once. -/
mutual
def uptoBulk {H : Type} : DataW H → Nat
  | .lit (.string bytes) => bytes.length + 1
  | .lit _ => 1
  | .nil => 1
  | .ptr d => uptoBulk d + 1
  | .slice elems spare => uptoBulkAll elems + uptoBulkAll spare + 1
  | .agg parts => uptoBulkAll parts + 1
  | .iface _ d => uptoBulk d + 1
  | .map entries => uptoBulkEntries entries + 1
  | .held _ => 1
def uptoBulkAll {H : Type} : List (DataW H) → Nat
  | [] => 0
  | d :: r => uptoBulk d + uptoBulkAll r
def uptoBulkEntries {H : Type} : List (Lit × DataW H) → Nat
  | [] => 0
  | x :: r => uptoBulkEntry x + uptoBulkEntries r
def uptoBulkEntry {H : Type} : Lit × DataW H → Nat
  | (.string bytes, d) => bytes.length + uptoBulk d + 1
  | (_, d) => uptoBulk d + 1
 end
def uptoSmall : (H : Type) → List (DataW H) → Bool := fun _ ds => decide (uptoBulkAll ds ≤ 1048576)
def OpenSpec.upto (s : _root_.Go.ChangeSpec) : _root_.Go.OpenSpec := { _root_.Go.OpenSpec.ofChange s with cond := some uptoSmall }

/-- 'fulcrumlaw12.TokensNobody', WHERE WHAT IT READS IS OF BULK AT MOST 1048576: true; the input reads as it did. -/
def tokensNobodyUptoRow : OpenClaim := { program := "ytjbliegkmhoffaadoor", sum := "1c7db7704b1cdf830e34f0230c0d91924421f9841618821d3884ac331f750484", func := "fulcrum/fulcrumlaw12.TokensNobody", spec := "tokensNobody", inPlace := ["internal/bytealg.CountString", "internal/bytealg.IndexByteString", "internal/bytealg.IndexString", "internal/abi.NoEscape", "internal/bytealg.MakeNoZero"], unfollowed := true, recurses := true, named := ["internal/bytealg.MaxLen", "unicode/utf8.first", "unicode/utf8.acceptRanges"], apart := false, laid := [("unicode/utf8.acceptRanges", laid_unicode_utf8_acceptRanges), ("unicode/utf8.first", laid_unicode_utf8_first)], narrowed := true }
def TokensNobodyUptoSaid : Prop := tokensNobodyUptoRow.holds Tryd.pinned (OpenSpec.upto tokensNobodySpec)

/-- 'fulcrumlaw12.TokensPieces', WHERE WHAT IT READS IS OF BULK AT MOST 1048576: true; the input reads as it did. -/
def tokensPiecesUptoRow : OpenClaim := { program := "ytjbliegkmhoffaadoor", sum := "1c7db7704b1cdf830e34f0230c0d91924421f9841618821d3884ac331f750484", func := "fulcrum/fulcrumlaw12.TokensPieces", spec := "tokensPieces", inPlace := ["internal/bytealg.CountString", "internal/bytealg.IndexByteString", "internal/bytealg.IndexString", "internal/abi.NoEscape", "internal/bytealg.MakeNoZero"], unfollowed := true, recurses := true, named := ["internal/bytealg.MaxLen", "unicode/utf8.first", "unicode/utf8.acceptRanges"], apart := false, laid := [("unicode/utf8.acceptRanges", laid_unicode_utf8_acceptRanges), ("unicode/utf8.first", laid_unicode_utf8_first)], narrowed := true }
def TokensPiecesUptoSaid : Prop := tokensPiecesUptoRow.holds Tryd.pinned (OpenSpec.upto tokensPiecesSpec)

/-- 'fulcrumlaw12.TokensReads', WHERE WHAT IT READS IS OF BULK AT MOST 1048576: true; the input reads as it did. -/
def tokensReadsUptoRow : OpenClaim := { program := "ytjbliegkmhoffaadoor", sum := "1c7db7704b1cdf830e34f0230c0d91924421f9841618821d3884ac331f750484", func := "fulcrum/fulcrumlaw12.TokensReads", spec := "tokensReads", inPlace := ["internal/bytealg.CountString", "internal/bytealg.IndexByteString", "internal/bytealg.IndexString", "internal/abi.NoEscape", "internal/bytealg.MakeNoZero"], unfollowed := true, recurses := true, named := ["internal/bytealg.MaxLen", "unicode/utf8.first", "unicode/utf8.acceptRanges"], apart := false, laid := [("unicode/utf8.acceptRanges", laid_unicode_utf8_acceptRanges), ("unicode/utf8.first", laid_unicode_utf8_first)], narrowed := true }
def TokensReadsUptoSaid : Prop := tokensReadsUptoRow.holds Tryd.pinned (OpenSpec.upto tokensReadsSpec)

/-- 'fulcrumlaw12.TokensCuts', WHERE WHAT IT READS IS OF BULK AT MOST 1048576: true; the input reads as it did. -/
def tokensCutsUptoRow : OpenClaim := { program := "ytjbliegkmhoffaadoor", sum := "1c7db7704b1cdf830e34f0230c0d91924421f9841618821d3884ac331f750484", func := "fulcrum/fulcrumlaw12.TokensCuts", spec := "tokensCuts", inPlace := ["internal/bytealg.CountString", "internal/bytealg.IndexByteString", "internal/bytealg.IndexString", "internal/abi.NoEscape", "internal/bytealg.MakeNoZero"], unfollowed := true, recurses := true, named := ["internal/bytealg.MaxLen", "unicode/utf8.first", "unicode/utf8.acceptRanges"], apart := false, laid := [("unicode/utf8.acceptRanges", laid_unicode_utf8_acceptRanges), ("unicode/utf8.first", laid_unicode_utf8_first)], narrowed := true }
def TokensCutsUptoSaid : Prop := tokensCutsUptoRow.holds Tryd.pinned (OpenSpec.upto tokensCutsSpec)

end Rows
end Go.Proofs.YtjbliegkmhoffaaDoor
