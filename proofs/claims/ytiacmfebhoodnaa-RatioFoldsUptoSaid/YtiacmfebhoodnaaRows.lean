/-
  No cell of these rows narrows 'for every input' (looked for: loops, veiled, ifaces, maps, wideKeys, modest, calm, conditions, laid).
  DERIVED. THE GIVEN ROWS OF THIS SEAT. 4 by the template 'for every input the law returns true; each argument reads behind the call as it read before'; 0 by the template 'total and deterministic' (their statements: YtiacmfebhoodnaaTotals.lean).
  GIVEN WITH THE SEED: the statements are not yours to turn. If you find one false, say at which input.
  Laid BY PROGRAM, IN A SANDBOX (cutbox-rows.mjs): the forced cells as the released guide's own fill.sh prints them over the translation 8ebfdf23d762377a… (all of the seat's roots in one cut). By AI agents, Wed Nov 11 2026. No macro, syntax, notation, axiom, sorry.
-/
import Derived.Test.YtiacmfebhoodnaaChecked
import GoSem.Claim
import GoSem.ClaimJoined
import GoSem.ClaimMapViews
import Derived.JoinedTies
import Derived.KernelRfl
namespace Go.Proofs.Ytiacmfebhoodnaa
/- THE CELL 'sum', in the pinned program and in every row, IS THE sha256 OF THE DUMP (.gsa) THAT YtiacmfebhoodnaaProg.lean LOADS. Nothing in Lean hashes anything: it is a label: what it is worth is what the hold of that sum in a sandbox is worth. -/
noncomputable def Try.pinned : Pinned := { name := "ytiacmfebhoodnaa", sum := "8ebfdf23d762377ac12e9bd3c7e47c601c7e8e5d2fc612ec9c9ec831fd3a9c4f", checked := Try.checked }
namespace Rows
def none {H : Type} : Left H := { results := [], args := [] }

/-- 'fulcrumlaw03.RatioQuotients': WHATEVER THE INPUT: true; the input reads as it did. -/
def ratioQuotientsSpec : ChangeSpec := { name := "ratioQuotients", fn := fun _ => fun
  | [d1, d2] => { results := [.lit (.bool true)], args := [d1, d2] }
  | _ => none }
def ratioQuotientsRow : OpenClaim := { program := "ytiacmfebhoodnaa", sum := "8ebfdf23d762377ac12e9bd3c7e47c601c7e8e5d2fc612ec9c9ec831fd3a9c4f", func := "fulcrum/fulcrumlaw03.RatioQuotients", spec := "ratioQuotients", named := ["math/bits.overflowError"], apart := false }
def RatioQuotientsSaid : Prop := ratioQuotientsRow.holds Try.pinned (OpenSpec.ofChange ratioQuotientsSpec)

/-- ITS FALSE NEIGHBOUR: 'it returns false'. Refute it at one input. -/
def ratioQuotientsWrong : ChangeSpec := { name := "ratioQuotients", fn := fun _ => fun
  | [d1, d2] => { results := [.lit (.bool false)], args := [d1, d2] }
  | _ => none }
def RatioQuotientsWrongFalsely : Prop := ratioQuotientsRow.holds Try.pinned (OpenSpec.ofChange ratioQuotientsWrong)

/-- 'fulcrumlaw03.RatioSums': WHATEVER THE INPUT: true; the input reads as it did. -/
def ratioSumsSpec : ChangeSpec := { name := "ratioSums", fn := fun _ => fun
  | [d1, d2] => { results := [.lit (.bool true)], args := [d1, d2] }
  | _ => none }
def ratioSumsRow : OpenClaim := { program := "ytiacmfebhoodnaa", sum := "8ebfdf23d762377ac12e9bd3c7e47c601c7e8e5d2fc612ec9c9ec831fd3a9c4f", func := "fulcrum/fulcrumlaw03.RatioSums", spec := "ratioSums", named := ["math/bits.overflowError"], apart := false }
def RatioSumsSaid : Prop := ratioSumsRow.holds Try.pinned (OpenSpec.ofChange ratioSumsSpec)

/-- ITS FALSE NEIGHBOUR: 'it returns false'. Refute it at one input. -/
def ratioSumsWrong : ChangeSpec := { name := "ratioSums", fn := fun _ => fun
  | [d1, d2] => { results := [.lit (.bool false)], args := [d1, d2] }
  | _ => none }
def RatioSumsWrongFalsely : Prop := ratioSumsRow.holds Try.pinned (OpenSpec.ofChange ratioSumsWrong)

/-- 'fulcrumlaw03.RatioFolds': WHATEVER THE INPUT: true; the input reads as it did. -/
def ratioFoldsSpec : ChangeSpec := { name := "ratioFolds", fn := fun _ => fun
  | [d] => { results := [.lit (.bool true)], args := [d] }
  | _ => none }
def ratioFoldsRow : OpenClaim := { program := "ytiacmfebhoodnaa", sum := "8ebfdf23d762377ac12e9bd3c7e47c601c7e8e5d2fc612ec9c9ec831fd3a9c4f", func := "fulcrum/fulcrumlaw03.RatioFolds", spec := "ratioFolds", named := ["math/bits.overflowError"], apart := false }
def RatioFoldsSaid : Prop := ratioFoldsRow.holds Try.pinned (OpenSpec.ofChange ratioFoldsSpec)

/-- ITS FALSE NEIGHBOUR: 'it returns false'. Refute it at one input. -/
def ratioFoldsWrong : ChangeSpec := { name := "ratioFolds", fn := fun _ => fun
  | [d] => { results := [.lit (.bool false)], args := [d] }
  | _ => none }
def RatioFoldsWrongFalsely : Prop := ratioFoldsRow.holds Try.pinned (OpenSpec.ofChange ratioFoldsWrong)

/-- 'fulcrumlaw03.RatioFractions': WHATEVER THE INPUT: true; the input reads as it did. -/
def ratioFractionsSpec : ChangeSpec := { name := "ratioFractions", fn := fun _ => fun
  | [d] => { results := [.lit (.bool true)], args := [d] }
  | _ => none }
def ratioFractionsRow : OpenClaim := { program := "ytiacmfebhoodnaa", sum := "8ebfdf23d762377ac12e9bd3c7e47c601c7e8e5d2fc612ec9c9ec831fd3a9c4f", func := "fulcrum/fulcrumlaw03.RatioFractions", spec := "ratioFractions", unfollowed := true, recurses := true, named := ["math/bits.overflowError"], apart := false }
def RatioFractionsSaid : Prop := ratioFractionsRow.holds Try.pinned (OpenSpec.ofChange ratioFractionsSpec)

/-- ITS FALSE NEIGHBOUR: 'it returns false'. Refute it at one input. -/
def ratioFractionsWrong : ChangeSpec := { name := "ratioFractions", fn := fun _ => fun
  | [d] => { results := [.lit (.bool false)], args := [d] }
  | _ => none }
def RatioFractionsWrongFalsely : Prop := ratioFractionsRow.holds Try.pinned (OpenSpec.ofChange ratioFractionsWrong)

/- THE SECOND FORM. 'bulk': how many values and letters a reading holds, each counted each time it is reached (what is shared counts as often as it is met; a slice's spare places count too). A statement '..UptoSaid' is the law's where the arguments, and the package variables that the reading takes, are together of bulk at most 1048576: NARROWER than '..Said'. Prove '..Said' where nothing that the law and all that it calls make is longer than what came in: it says more and counts as full. Else prove '..UptoSaid'. A law counts once. -/
mutual
def uptoBulk {H : Type} : DataW H → Nat
  | .lit (.string bytes) => bytes.length + 1
  | .lit _ => 1
  | .nil => 1
  | .ptr d => uptoBulk d + 1
  | .slice elems spare => uptoBulkAll elems + uptoBulkAll spare + 1
  | .agg parts => uptoBulkAll parts + 1
  | .iface _ d => uptoBulk d + 1
  | .map entries => uptoBulkEntries entries + 1
  | .held _ => 1
def uptoBulkAll {H : Type} : List (DataW H) → Nat
  | [] => 0
  | d :: r => uptoBulk d + uptoBulkAll r
def uptoBulkEntries {H : Type} : List (Lit × DataW H) → Nat
  | [] => 0
  | x :: r => uptoBulkEntry x + uptoBulkEntries r
def uptoBulkEntry {H : Type} : Lit × DataW H → Nat
  | (.string bytes, d) => bytes.length + uptoBulk d + 1
  | (_, d) => uptoBulk d + 1
 end
def uptoSmall : (H : Type) → List (DataW H) → Bool := fun _ ds => decide (uptoBulkAll ds ≤ 1048576)
def OpenSpec.upto (s : _root_.Go.ChangeSpec) : _root_.Go.OpenSpec := { _root_.Go.OpenSpec.ofChange s with cond := some uptoSmall }

/-- 'fulcrumlaw03.RatioQuotients', WHERE WHAT IT READS IS OF BULK AT MOST 1048576: true; the input reads as it did. -/
def ratioQuotientsUptoRow : OpenClaim := { program := "ytiacmfebhoodnaa", sum := "8ebfdf23d762377ac12e9bd3c7e47c601c7e8e5d2fc612ec9c9ec831fd3a9c4f", func := "fulcrum/fulcrumlaw03.RatioQuotients", spec := "ratioQuotients", named := ["math/bits.overflowError"], apart := false, narrowed := true }
def RatioQuotientsUptoSaid : Prop := ratioQuotientsUptoRow.holds Try.pinned (OpenSpec.upto ratioQuotientsSpec)

/-- 'fulcrumlaw03.RatioSums', WHERE WHAT IT READS IS OF BULK AT MOST 1048576: true; the input reads as it did. -/
def ratioSumsUptoRow : OpenClaim := { program := "ytiacmfebhoodnaa", sum := "8ebfdf23d762377ac12e9bd3c7e47c601c7e8e5d2fc612ec9c9ec831fd3a9c4f", func := "fulcrum/fulcrumlaw03.RatioSums", spec := "ratioSums", named := ["math/bits.overflowError"], apart := false, narrowed := true }
def RatioSumsUptoSaid : Prop := ratioSumsUptoRow.holds Try.pinned (OpenSpec.upto ratioSumsSpec)

/-- 'fulcrumlaw03.RatioFolds', WHERE WHAT IT READS IS OF BULK AT MOST 1048576: true; the input reads as it did. -/
def ratioFoldsUptoRow : OpenClaim := { program := "ytiacmfebhoodnaa", sum := "8ebfdf23d762377ac12e9bd3c7e47c601c7e8e5d2fc612ec9c9ec831fd3a9c4f", func := "fulcrum/fulcrumlaw03.RatioFolds", spec := "ratioFolds", named := ["math/bits.overflowError"], apart := false, narrowed := true }
def RatioFoldsUptoSaid : Prop := ratioFoldsUptoRow.holds Try.pinned (OpenSpec.upto ratioFoldsSpec)

/-- 'fulcrumlaw03.RatioFractions', WHERE WHAT IT READS IS OF BULK AT MOST 1048576: true; the input reads as it did. -/
def ratioFractionsUptoRow : OpenClaim := { program := "ytiacmfebhoodnaa", sum := "8ebfdf23d762377ac12e9bd3c7e47c601c7e8e5d2fc612ec9c9ec831fd3a9c4f", func := "fulcrum/fulcrumlaw03.RatioFractions", spec := "ratioFractions", unfollowed := true, recurses := true, named := ["math/bits.overflowError"], apart := false, narrowed := true }
def RatioFractionsUptoSaid : Prop := ratioFractionsUptoRow.holds Try.pinned (OpenSpec.upto ratioFractionsSpec)

end Rows
end Go.Proofs.Ytiacmfebhoodnaa
