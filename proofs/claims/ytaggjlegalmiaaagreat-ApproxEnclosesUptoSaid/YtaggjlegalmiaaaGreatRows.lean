/-
  No cell of these rows narrows 'for every input' (looked for: loops, veiled, ifaces, maps, wideKeys, modest, calm, conditions, laid).
  DERIVED. THE GIVEN ROWS OF THIS SEAT. 3 by the template 'for every input the law returns true; each argument reads behind the call as it read before'; 0 by the template 'total and deterministic' (their statements: YtaggjlegalmiaaaGreatTotals.lean).
  GIVEN WITH THE SEED: the statements are not yours to turn. If you find one false, say at which input.
  Laid BY PROGRAM, IN A SANDBOX (cutbox-rows.mjs): the forced cells as the released guide's own fill.sh prints them over the translation 245b4ab62501f53c… (all of the seat's roots in one cut). By AI agents, Wed Nov 11 2026. No macro, syntax, notation, axiom, sorry.
-/
import Derived.Test.YtaggjlegalmiaaaGreatChecked
import GoSem.Claim
import GoSem.ClaimJoined
import GoSem.ClaimMapViews
import Derived.JoinedTies
import Derived.KernelRfl
namespace Go.Proofs.YtaggjlegalmiaaaGreat
/- THE CELL 'sum', in the pinned program and in every row, IS THE sha256 OF THE DUMP (.gsa) THAT YtaggjlegalmiaaaGreatProg.lean LOADS. Nothing in Lean hashes anything: it is a label: what it is worth is what the hold of that sum in a sandbox is worth. -/
noncomputable def Tryz.pinned : Pinned := { name := "ytaggjlegalmiaaagreat", sum := "245b4ab62501f53c0cab061e2778fd2b2a33ec1b8c3f4a45eb487d0881f93f94", checked := Tryz.checked }
namespace Rows
def none {H : Type} : Left H := { results := [], args := [] }

/-- 'fulcrumlaw04.ApproxHas': WHATEVER THE INPUT: true; the input reads as it did. -/
def approxHasSpec : ChangeSpec := { name := "approxHas", fn := fun _ => fun
  | [d1, d2] => { results := [.lit (.bool true)], args := [d1, d2] }
  | _ => none }
def approxHasRow : OpenClaim := { program := "ytaggjlegalmiaaagreat", sum := "245b4ab62501f53c0cab061e2778fd2b2a33ec1b8c3f4a45eb487d0881f93f94", func := "fulcrum/fulcrumlaw04.ApproxHas", spec := "approxHas", inPlace := ["math.Float64bits", "math.Float64frombits"], named := ["math/bits.overflowError"], apart := false }
def ApproxHasSaid : Prop := approxHasRow.holds Tryz.pinned (OpenSpec.ofChange approxHasSpec)

/-- ITS FALSE NEIGHBOUR: 'it returns false'. Refute it at one input. -/
def approxHasWrong : ChangeSpec := { name := "approxHas", fn := fun _ => fun
  | [d1, d2] => { results := [.lit (.bool false)], args := [d1, d2] }
  | _ => none }
def ApproxHasWrongFalsely : Prop := approxHasRow.holds Tryz.pinned (OpenSpec.ofChange approxHasWrong)

/-- 'fulcrumlaw04.ApproxSpans': WHATEVER THE INPUT: true; the input reads as it did. -/
def approxSpansSpec : ChangeSpec := { name := "approxSpans", fn := fun _ => fun
  | [d1, d2] => { results := [.lit (.bool true)], args := [d1, d2] }
  | _ => none }
def approxSpansRow : OpenClaim := { program := "ytaggjlegalmiaaagreat", sum := "245b4ab62501f53c0cab061e2778fd2b2a33ec1b8c3f4a45eb487d0881f93f94", func := "fulcrum/fulcrumlaw04.ApproxSpans", spec := "approxSpans", inPlace := ["math.Float64bits", "math.Float64frombits"], unfollowed := true, recurses := true, named := ["math/bits.overflowError"], apart := false }
def ApproxSpansSaid : Prop := approxSpansRow.holds Tryz.pinned (OpenSpec.ofChange approxSpansSpec)

/-- ITS FALSE NEIGHBOUR: 'it returns false'. Refute it at one input. -/
def approxSpansWrong : ChangeSpec := { name := "approxSpans", fn := fun _ => fun
  | [d1, d2] => { results := [.lit (.bool false)], args := [d1, d2] }
  | _ => none }
def ApproxSpansWrongFalsely : Prop := approxSpansRow.holds Tryz.pinned (OpenSpec.ofChange approxSpansWrong)

/-- 'fulcrumlaw04.ApproxEncloses': WHATEVER THE INPUT: true; the input reads as it did. -/
def approxEnclosesSpec : ChangeSpec := { name := "approxEncloses", fn := fun _ => fun
  | [d] => { results := [.lit (.bool true)], args := [d] }
  | _ => none }
def approxEnclosesRow : OpenClaim := { program := "ytaggjlegalmiaaagreat", sum := "245b4ab62501f53c0cab061e2778fd2b2a33ec1b8c3f4a45eb487d0881f93f94", func := "fulcrum/fulcrumlaw04.ApproxEncloses", spec := "approxEncloses", inPlace := ["math.Float64bits", "math.Float64frombits"], unfollowed := true, recurses := true, named := ["math/bits.overflowError"], apart := false }
def ApproxEnclosesSaid : Prop := approxEnclosesRow.holds Tryz.pinned (OpenSpec.ofChange approxEnclosesSpec)

/-- ITS FALSE NEIGHBOUR: 'it returns false'. Refute it at one input. -/
def approxEnclosesWrong : ChangeSpec := { name := "approxEncloses", fn := fun _ => fun
  | [d] => { results := [.lit (.bool false)], args := [d] }
  | _ => none }
def ApproxEnclosesWrongFalsely : Prop := approxEnclosesRow.holds Tryz.pinned (OpenSpec.ofChange approxEnclosesWrong)

/- THE SECOND FORM. 'bulk': how many values and letters a reading holds, each counted each time it is reached (what is shared counts as often as it is met; a slice's spare places count too). A statement '..UptoSaid' is the law's where the arguments, and the package variables that the reading takes, are together of bulk at most 1048576: NARROWER than '..Said'. Prove '..Said' where nothing that the law and all that it calls make is longer than what came in: it says more and counts as full. Else prove '..UptoSaid'. A law counts once. -/
mutual
def uptoBulk {H : Type} : DataW H → Nat
  | .lit (.string bytes) => bytes.length + 1
  | .lit _ => 1
  | .nil => 1
  | .ptr d => uptoBulk d + 1
  | .slice elems spare => uptoBulkAll elems + uptoBulkAll spare + 1
  | .agg parts => uptoBulkAll parts + 1
  | .iface _ d => uptoBulk d + 1
  | .map entries => uptoBulkEntries entries + 1
  | .held _ => 1
def uptoBulkAll {H : Type} : List (DataW H) → Nat
  | [] => 0
  | d :: r => uptoBulk d + uptoBulkAll r
def uptoBulkEntries {H : Type} : List (Lit × DataW H) → Nat
  | [] => 0
  | x :: r => uptoBulkEntry x + uptoBulkEntries r
def uptoBulkEntry {H : Type} : Lit × DataW H → Nat
  | (.string bytes, d) => bytes.length + uptoBulk d + 1
  | (_, d) => uptoBulk d + 1
 end
def uptoSmall : (H : Type) → List (DataW H) → Bool := fun _ ds => decide (uptoBulkAll ds ≤ 1048576)
def OpenSpec.upto (s : _root_.Go.ChangeSpec) : _root_.Go.OpenSpec := { _root_.Go.OpenSpec.ofChange s with cond := some uptoSmall }

/-- 'fulcrumlaw04.ApproxHas', WHERE WHAT IT READS IS OF BULK AT MOST 1048576: true; the input reads as it did. -/
def approxHasUptoRow : OpenClaim := { program := "ytaggjlegalmiaaagreat", sum := "245b4ab62501f53c0cab061e2778fd2b2a33ec1b8c3f4a45eb487d0881f93f94", func := "fulcrum/fulcrumlaw04.ApproxHas", spec := "approxHas", inPlace := ["math.Float64bits", "math.Float64frombits"], named := ["math/bits.overflowError"], apart := false, narrowed := true }
def ApproxHasUptoSaid : Prop := approxHasUptoRow.holds Tryz.pinned (OpenSpec.upto approxHasSpec)

/-- 'fulcrumlaw04.ApproxSpans', WHERE WHAT IT READS IS OF BULK AT MOST 1048576: true; the input reads as it did. -/
def approxSpansUptoRow : OpenClaim := { program := "ytaggjlegalmiaaagreat", sum := "245b4ab62501f53c0cab061e2778fd2b2a33ec1b8c3f4a45eb487d0881f93f94", func := "fulcrum/fulcrumlaw04.ApproxSpans", spec := "approxSpans", inPlace := ["math.Float64bits", "math.Float64frombits"], unfollowed := true, recurses := true, named := ["math/bits.overflowError"], apart := false, narrowed := true }
def ApproxSpansUptoSaid : Prop := approxSpansUptoRow.holds Tryz.pinned (OpenSpec.upto approxSpansSpec)

/-- 'fulcrumlaw04.ApproxEncloses', WHERE WHAT IT READS IS OF BULK AT MOST 1048576: true; the input reads as it did. -/
def approxEnclosesUptoRow : OpenClaim := { program := "ytaggjlegalmiaaagreat", sum := "245b4ab62501f53c0cab061e2778fd2b2a33ec1b8c3f4a45eb487d0881f93f94", func := "fulcrum/fulcrumlaw04.ApproxEncloses", spec := "approxEncloses", inPlace := ["math.Float64bits", "math.Float64frombits"], unfollowed := true, recurses := true, named := ["math/bits.overflowError"], apart := false, narrowed := true }
def ApproxEnclosesUptoSaid : Prop := approxEnclosesUptoRow.holds Tryz.pinned (OpenSpec.upto approxEnclosesSpec)

end Rows
end Go.Proofs.YtaggjlegalmiaaaGreat
