/-
  DERIVED. GIVEN WITH THE SEED: THE CARDS: each row of YtbdacjnamihkkaaGreatDoorRows.lean that lists a variable, with what it lists TIED to the program's text (the seventh form; the later family's looks); each row that meets fmt, with fmt's text TOLD by the authors' own Lean function (tested against real Go, not proved from fmt's source: count such statements apart). THE CARD IS WHAT COUNTS. Prove the row's statement (the work); the ties are given (YtbdacjnamihkkaaGreatDoorTie.lean); close each card by the builder's one call (the guide's Derived/Test/ToyasCard.lean, 'card_holds'). Laid BY PROGRAM, IN A SANDBOX (cutbox-door.mjs). By AI agents, Wed Nov 11 2026. No macro, syntax, notation, axiom, sorry.
-/
import Derived.Test.YtbdacjnamihkkaaGreatDoorRows
import GoSem.ClaimSeven
namespace Go.Proofs.YtbdacjnamihkkaaGreatDoor
namespace Rows

/-- THE TIED CARD OF 'fulcrumlaw04.ApproxReads'. -/
def approxReadsCard : Claim7 := { stood := { row := approxReadsRow, standIns := [], harness := (true, "c4cedbf9634da897011cf23a1f22f2ff8e4f716c01bd7f7afcb35a61fb4397cf"), looks := true }, kinds := [], alts := [], laidByText := true, laidKinds := [.data, .data, .data, .data, .data, .sentinel, .sentinel, .pinned], laidTests := true, laidLooks := .later }
def ApproxReadsCardSaid : Prop := Claim7.holds Tryz.pinned (.plain (OpenSpec.ofChange approxReadsSpec)) approxReadsCard

/-- THE SECOND FORM's CARD OF 'fulcrumlaw04.ApproxReads'. -/
def approxReadsUptoCard : Claim7 := { stood := { row := approxReadsUptoRow, standIns := [], harness := (true, "c4cedbf9634da897011cf23a1f22f2ff8e4f716c01bd7f7afcb35a61fb4397cf"), looks := true }, kinds := [], alts := [], laidByText := true, laidKinds := [.data, .data, .data, .data, .data, .sentinel, .sentinel, .pinned], laidTests := true, laidLooks := .later }
def ApproxReadsUptoCardSaid : Prop := Claim7.holds Tryz.pinned (.plain (OpenSpec.upto approxReadsSpec)) approxReadsUptoCard
end Rows
end Go.Proofs.YtbdacjnamihkkaaGreatDoor
