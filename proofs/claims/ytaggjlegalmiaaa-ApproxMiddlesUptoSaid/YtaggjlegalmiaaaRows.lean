/-
  No cell of these rows narrows 'for every input' (looked for: loops, veiled, ifaces, maps, wideKeys, modest, calm, conditions, laid).
  DERIVED. THE GIVEN ROWS OF THIS SEAT. 7 by the template 'for every input the law returns true; each argument reads behind the call as it read before'; 0 by the template 'total and deterministic' (their statements: YtaggjlegalmiaaaTotals.lean).
  GIVEN WITH THE SEED: the statements are not yours to turn. If you find one false, say at which input.
  Laid BY PROGRAM, IN A SANDBOX (cutbox-rows.mjs): the forced cells as the released guide's own fill.sh prints them over the translation 2d44776803fb1e0f… (all of the seat's roots in one cut). By AI agents, Wed Nov 11 2026. No macro, syntax, notation, axiom, sorry.
-/
import Derived.Test.YtaggjlegalmiaaaChecked
import GoSem.Claim
import GoSem.ClaimJoined
import GoSem.ClaimMapViews
import Derived.JoinedTies
import Derived.KernelRfl
namespace Go.Proofs.Ytaggjlegalmiaaa
/- THE CELL 'sum', in the pinned program and in every row, IS THE sha256 OF THE DUMP (.gsa) THAT YtaggjlegalmiaaaProg.lean LOADS. Nothing in Lean hashes anything: it is a label: what it is worth is what the hold of that sum in a sandbox is worth. -/
noncomputable def Try.pinned : Pinned := { name := "ytaggjlegalmiaaa", sum := "2d44776803fb1e0f013f993cbd8bdda2f9fcb016976ed20f6f7c5be24665b29c", checked := Try.checked }
namespace Rows
def none {H : Type} : Left H := { results := [], args := [] }

/-- 'fulcrumlaw04.ApproxNear': WHATEVER THE INPUT: true; the input reads as it did. -/
def approxNearSpec : ChangeSpec := { name := "approxNear", fn := fun _ => fun
  | [d1, d2] => { results := [.lit (.bool true)], args := [d1, d2] }
  | _ => none }
def approxNearRow : OpenClaim := { program := "ytaggjlegalmiaaa", sum := "2d44776803fb1e0f013f993cbd8bdda2f9fcb016976ed20f6f7c5be24665b29c", func := "fulcrum/fulcrumlaw04.ApproxNear", spec := "approxNear", inPlace := ["math.Float64bits", "math.Float64frombits"], named := ["math/bits.overflowError"], apart := false }
def ApproxNearSaid : Prop := approxNearRow.holds Try.pinned (OpenSpec.ofChange approxNearSpec)

/-- ITS FALSE NEIGHBOUR: 'it returns false'. Refute it at one input. -/
def approxNearWrong : ChangeSpec := { name := "approxNear", fn := fun _ => fun
  | [d1, d2] => { results := [.lit (.bool false)], args := [d1, d2] }
  | _ => none }
def ApproxNearWrongFalsely : Prop := approxNearRow.holds Try.pinned (OpenSpec.ofChange approxNearWrong)

/-- 'fulcrumlaw04.ApproxTies': WHATEVER THE INPUT: true; the input reads as it did. -/
def approxTiesSpec : ChangeSpec := { name := "approxTies", fn := fun _ => fun
  | [d] => { results := [.lit (.bool true)], args := [d] }
  | _ => none }
def approxTiesRow : OpenClaim := { program := "ytaggjlegalmiaaa", sum := "2d44776803fb1e0f013f993cbd8bdda2f9fcb016976ed20f6f7c5be24665b29c", func := "fulcrum/fulcrumlaw04.ApproxTies", spec := "approxTies", inPlace := ["math.Float64frombits", "math.Float64bits"], named := ["math/bits.overflowError"], apart := false }
def ApproxTiesSaid : Prop := approxTiesRow.holds Try.pinned (OpenSpec.ofChange approxTiesSpec)

/-- ITS FALSE NEIGHBOUR: 'it returns false'. Refute it at one input. -/
def approxTiesWrong : ChangeSpec := { name := "approxTies", fn := fun _ => fun
  | [d] => { results := [.lit (.bool false)], args := [d] }
  | _ => none }
def ApproxTiesWrongFalsely : Prop := approxTiesRow.holds Try.pinned (OpenSpec.ofChange approxTiesWrong)

/-- 'fulcrumlaw04.ApproxRounds': WHATEVER THE INPUT: true; the input reads as it did. -/
def approxRoundsSpec : ChangeSpec := { name := "approxRounds", fn := fun _ => fun
  | [d] => { results := [.lit (.bool true)], args := [d] }
  | _ => none }
def approxRoundsRow : OpenClaim := { program := "ytaggjlegalmiaaa", sum := "2d44776803fb1e0f013f993cbd8bdda2f9fcb016976ed20f6f7c5be24665b29c", func := "fulcrum/fulcrumlaw04.ApproxRounds", spec := "approxRounds", inPlace := ["math.Float64bits", "math.Float64frombits"], named := ["math/bits.overflowError"], apart := false }
def ApproxRoundsSaid : Prop := approxRoundsRow.holds Try.pinned (OpenSpec.ofChange approxRoundsSpec)

/-- ITS FALSE NEIGHBOUR: 'it returns false'. Refute it at one input. -/
def approxRoundsWrong : ChangeSpec := { name := "approxRounds", fn := fun _ => fun
  | [d] => { results := [.lit (.bool false)], args := [d] }
  | _ => none }
def ApproxRoundsWrongFalsely : Prop := approxRoundsRow.holds Try.pinned (OpenSpec.ofChange approxRoundsWrong)

/-- 'fulcrumlaw04.ApproxSteps': WHATEVER THE INPUT: true; the input reads as it did. -/
def approxStepsSpec : ChangeSpec := { name := "approxSteps", fn := fun _ => fun
  | [d] => { results := [.lit (.bool true)], args := [d] }
  | _ => none }
def approxStepsRow : OpenClaim := { program := "ytaggjlegalmiaaa", sum := "2d44776803fb1e0f013f993cbd8bdda2f9fcb016976ed20f6f7c5be24665b29c", func := "fulcrum/fulcrumlaw04.ApproxSteps", spec := "approxSteps", inPlace := ["math.Float64bits", "math.Float64frombits"], named := ["math/bits.overflowError"], apart := false }
def ApproxStepsSaid : Prop := approxStepsRow.holds Try.pinned (OpenSpec.ofChange approxStepsSpec)

/-- ITS FALSE NEIGHBOUR: 'it returns false'. Refute it at one input. -/
def approxStepsWrong : ChangeSpec := { name := "approxSteps", fn := fun _ => fun
  | [d] => { results := [.lit (.bool false)], args := [d] }
  | _ => none }
def ApproxStepsWrongFalsely : Prop := approxStepsRow.holds Try.pinned (OpenSpec.ofChange approxStepsWrong)

/-- 'fulcrumlaw04.ApproxBeside': WHATEVER THE INPUT: true; the input reads as it did. -/
def approxBesideSpec : ChangeSpec := { name := "approxBeside", fn := fun _ => fun
  | [d] => { results := [.lit (.bool true)], args := [d] }
  | _ => none }
def approxBesideRow : OpenClaim := { program := "ytaggjlegalmiaaa", sum := "2d44776803fb1e0f013f993cbd8bdda2f9fcb016976ed20f6f7c5be24665b29c", func := "fulcrum/fulcrumlaw04.ApproxBeside", spec := "approxBeside", inPlace := ["math.Float64bits", "math.Float64frombits"], named := ["math/bits.overflowError"], apart := false }
def ApproxBesideSaid : Prop := approxBesideRow.holds Try.pinned (OpenSpec.ofChange approxBesideSpec)

/-- ITS FALSE NEIGHBOUR: 'it returns false'. Refute it at one input. -/
def approxBesideWrong : ChangeSpec := { name := "approxBeside", fn := fun _ => fun
  | [d] => { results := [.lit (.bool false)], args := [d] }
  | _ => none }
def ApproxBesideWrongFalsely : Prop := approxBesideRow.holds Try.pinned (OpenSpec.ofChange approxBesideWrong)

/-- 'fulcrumlaw04.ApproxRises': WHATEVER THE INPUT: true; the input reads as it did. -/
def approxRisesSpec : ChangeSpec := { name := "approxRises", fn := fun _ => fun
  | [d1, d2] => { results := [.lit (.bool true)], args := [d1, d2] }
  | _ => none }
def approxRisesRow : OpenClaim := { program := "ytaggjlegalmiaaa", sum := "2d44776803fb1e0f013f993cbd8bdda2f9fcb016976ed20f6f7c5be24665b29c", func := "fulcrum/fulcrumlaw04.ApproxRises", spec := "approxRises", inPlace := ["math.Float64bits", "math.Float64frombits"], named := ["math/bits.overflowError"], apart := false }
def ApproxRisesSaid : Prop := approxRisesRow.holds Try.pinned (OpenSpec.ofChange approxRisesSpec)

/-- ITS FALSE NEIGHBOUR: 'it returns false'. Refute it at one input. -/
def approxRisesWrong : ChangeSpec := { name := "approxRises", fn := fun _ => fun
  | [d1, d2] => { results := [.lit (.bool false)], args := [d1, d2] }
  | _ => none }
def ApproxRisesWrongFalsely : Prop := approxRisesRow.holds Try.pinned (OpenSpec.ofChange approxRisesWrong)

/-- 'fulcrumlaw04.ApproxMiddles': WHATEVER THE INPUT: true; the input reads as it did. -/
def approxMiddlesSpec : ChangeSpec := { name := "approxMiddles", fn := fun _ => fun
  | [d1, d2] => { results := [.lit (.bool true)], args := [d1, d2] }
  | _ => none }
def approxMiddlesRow : OpenClaim := { program := "ytaggjlegalmiaaa", sum := "2d44776803fb1e0f013f993cbd8bdda2f9fcb016976ed20f6f7c5be24665b29c", func := "fulcrum/fulcrumlaw04.ApproxMiddles", spec := "approxMiddles", inPlace := ["math.Float64bits", "math.Float64frombits"], named := ["math/bits.overflowError"], apart := false }
def ApproxMiddlesSaid : Prop := approxMiddlesRow.holds Try.pinned (OpenSpec.ofChange approxMiddlesSpec)

/-- ITS FALSE NEIGHBOUR: 'it returns false'. Refute it at one input. -/
def approxMiddlesWrong : ChangeSpec := { name := "approxMiddles", fn := fun _ => fun
  | [d1, d2] => { results := [.lit (.bool false)], args := [d1, d2] }
  | _ => none }
def ApproxMiddlesWrongFalsely : Prop := approxMiddlesRow.holds Try.pinned (OpenSpec.ofChange approxMiddlesWrong)

/- THE SECOND FORM. 'bulk': how many values and letters a reading holds, each counted each time it is reached (what is shared counts as often as it is met; a slice's spare places count too). A statement '..UptoSaid' is the law's where the arguments, and the package variables that the reading takes, are together of bulk at most 1048576: NARROWER than '..Said'. Prove '..Said' where nothing that the law and all that it calls make is longer than what came in: it says more and counts as full. Else prove '..UptoSaid'. A law counts once. -/
mutual
def uptoBulk {H : Type} : DataW H → Nat
  | .lit (.string bytes) => bytes.length + 1
  | .lit _ => 1
  | .nil => 1
  | .ptr d => uptoBulk d + 1
  | .slice elems spare => uptoBulkAll elems + uptoBulkAll spare + 1
  | .agg parts => uptoBulkAll parts + 1
  | .iface _ d => uptoBulk d + 1
  | .map entries => uptoBulkEntries entries + 1
  | .held _ => 1
def uptoBulkAll {H : Type} : List (DataW H) → Nat
  | [] => 0
  | d :: r => uptoBulk d + uptoBulkAll r
def uptoBulkEntries {H : Type} : List (Lit × DataW H) → Nat
  | [] => 0
  | x :: r => uptoBulkEntry x + uptoBulkEntries r
def uptoBulkEntry {H : Type} : Lit × DataW H → Nat
  | (.string bytes, d) => bytes.length + uptoBulk d + 1
  | (_, d) => uptoBulk d + 1
 end
def uptoSmall : (H : Type) → List (DataW H) → Bool := fun _ ds => decide (uptoBulkAll ds ≤ 1048576)
def OpenSpec.upto (s : _root_.Go.ChangeSpec) : _root_.Go.OpenSpec := { _root_.Go.OpenSpec.ofChange s with cond := some uptoSmall }

/-- 'fulcrumlaw04.ApproxNear', WHERE WHAT IT READS IS OF BULK AT MOST 1048576: true; the input reads as it did. -/
def approxNearUptoRow : OpenClaim := { program := "ytaggjlegalmiaaa", sum := "2d44776803fb1e0f013f993cbd8bdda2f9fcb016976ed20f6f7c5be24665b29c", func := "fulcrum/fulcrumlaw04.ApproxNear", spec := "approxNear", inPlace := ["math.Float64bits", "math.Float64frombits"], named := ["math/bits.overflowError"], apart := false, narrowed := true }
def ApproxNearUptoSaid : Prop := approxNearUptoRow.holds Try.pinned (OpenSpec.upto approxNearSpec)

/-- 'fulcrumlaw04.ApproxTies', WHERE WHAT IT READS IS OF BULK AT MOST 1048576: true; the input reads as it did. -/
def approxTiesUptoRow : OpenClaim := { program := "ytaggjlegalmiaaa", sum := "2d44776803fb1e0f013f993cbd8bdda2f9fcb016976ed20f6f7c5be24665b29c", func := "fulcrum/fulcrumlaw04.ApproxTies", spec := "approxTies", inPlace := ["math.Float64frombits", "math.Float64bits"], named := ["math/bits.overflowError"], apart := false, narrowed := true }
def ApproxTiesUptoSaid : Prop := approxTiesUptoRow.holds Try.pinned (OpenSpec.upto approxTiesSpec)

/-- 'fulcrumlaw04.ApproxRounds', WHERE WHAT IT READS IS OF BULK AT MOST 1048576: true; the input reads as it did. -/
def approxRoundsUptoRow : OpenClaim := { program := "ytaggjlegalmiaaa", sum := "2d44776803fb1e0f013f993cbd8bdda2f9fcb016976ed20f6f7c5be24665b29c", func := "fulcrum/fulcrumlaw04.ApproxRounds", spec := "approxRounds", inPlace := ["math.Float64bits", "math.Float64frombits"], named := ["math/bits.overflowError"], apart := false, narrowed := true }
def ApproxRoundsUptoSaid : Prop := approxRoundsUptoRow.holds Try.pinned (OpenSpec.upto approxRoundsSpec)

/-- 'fulcrumlaw04.ApproxSteps', WHERE WHAT IT READS IS OF BULK AT MOST 1048576: true; the input reads as it did. -/
def approxStepsUptoRow : OpenClaim := { program := "ytaggjlegalmiaaa", sum := "2d44776803fb1e0f013f993cbd8bdda2f9fcb016976ed20f6f7c5be24665b29c", func := "fulcrum/fulcrumlaw04.ApproxSteps", spec := "approxSteps", inPlace := ["math.Float64bits", "math.Float64frombits"], named := ["math/bits.overflowError"], apart := false, narrowed := true }
def ApproxStepsUptoSaid : Prop := approxStepsUptoRow.holds Try.pinned (OpenSpec.upto approxStepsSpec)

/-- 'fulcrumlaw04.ApproxBeside', WHERE WHAT IT READS IS OF BULK AT MOST 1048576: true; the input reads as it did. -/
def approxBesideUptoRow : OpenClaim := { program := "ytaggjlegalmiaaa", sum := "2d44776803fb1e0f013f993cbd8bdda2f9fcb016976ed20f6f7c5be24665b29c", func := "fulcrum/fulcrumlaw04.ApproxBeside", spec := "approxBeside", inPlace := ["math.Float64bits", "math.Float64frombits"], named := ["math/bits.overflowError"], apart := false, narrowed := true }
def ApproxBesideUptoSaid : Prop := approxBesideUptoRow.holds Try.pinned (OpenSpec.upto approxBesideSpec)

/-- 'fulcrumlaw04.ApproxRises', WHERE WHAT IT READS IS OF BULK AT MOST 1048576: true; the input reads as it did. -/
def approxRisesUptoRow : OpenClaim := { program := "ytaggjlegalmiaaa", sum := "2d44776803fb1e0f013f993cbd8bdda2f9fcb016976ed20f6f7c5be24665b29c", func := "fulcrum/fulcrumlaw04.ApproxRises", spec := "approxRises", inPlace := ["math.Float64bits", "math.Float64frombits"], named := ["math/bits.overflowError"], apart := false, narrowed := true }
def ApproxRisesUptoSaid : Prop := approxRisesUptoRow.holds Try.pinned (OpenSpec.upto approxRisesSpec)

/-- 'fulcrumlaw04.ApproxMiddles', WHERE WHAT IT READS IS OF BULK AT MOST 1048576: true; the input reads as it did. -/
def approxMiddlesUptoRow : OpenClaim := { program := "ytaggjlegalmiaaa", sum := "2d44776803fb1e0f013f993cbd8bdda2f9fcb016976ed20f6f7c5be24665b29c", func := "fulcrum/fulcrumlaw04.ApproxMiddles", spec := "approxMiddles", inPlace := ["math.Float64bits", "math.Float64frombits"], named := ["math/bits.overflowError"], apart := false, narrowed := true }
def ApproxMiddlesUptoSaid : Prop := approxMiddlesUptoRow.holds Try.pinned (OpenSpec.upto approxMiddlesSpec)

end Rows
end Go.Proofs.Ytaggjlegalmiaaa
