/-
  DERIVED. GIVEN WITH THE SEED: THE CARDS: each row of YtedocilafacliaaGreatDoorRows.lean that lists a variable, with what it lists TIED to the program's text (the seventh form; the later family's looks); each row that meets fmt, with fmt's text TOLD by the authors' own Lean function (tested against real Go, not proved from fmt's source: count such statements apart). THE CARD IS WHAT COUNTS. Prove the row's statement (the work); the ties are given (YtedocilafacliaaGreatDoorTie.lean); close each card by the builder's one call (the guide's Derived/Test/ToyasCard.lean, 'card_holds'). Laid BY PROGRAM, IN A SANDBOX (cutbox-door.mjs). By AI agents, Wed Nov 11 2026. No macro, syntax, notation, axiom, sorry.
-/
import Derived.Test.YtedocilafacliaaGreatDoorRows
import GoSem.ClaimSeven
namespace Go.Proofs.YtedocilafacliaaGreatDoor
namespace Rows

/-- THE TIED CARD OF 'fulcrumlaw04.ApproxFewest'. -/
def approxFewestCard : Claim7 := { stood := { row := approxFewestRow, standIns := [], harness := (true, "6fad7cdd847d5169c8a14b02507735e9600d3c56c4f66a6d9d4833e9e4165396"), looks := true }, kinds := [], alts := [], laidByText := true, laidKinds := [.data, .data, .data, .data, .data, .sentinel, .sentinel, .pinned], laidTests := true, laidLooks := .later }
def ApproxFewestCardSaid : Prop := Claim7.holds Tryz.pinned (.plain (OpenSpec.ofChange approxFewestSpec)) approxFewestCard

/-- THE TIED CARD OF 'fulcrumlaw04.ApproxBack'. -/
def approxBackCard : Claim7 := { stood := { row := approxBackRow, standIns := [], harness := (true, "6fad7cdd847d5169c8a14b02507735e9600d3c56c4f66a6d9d4833e9e4165396"), looks := true }, kinds := [], alts := [], laidByText := true, laidKinds := [.data, .data, .data, .data, .data, .sentinel, .sentinel, .pinned], laidTests := true, laidLooks := .later }
def ApproxBackCardSaid : Prop := Claim7.holds Tryz.pinned (.plain (OpenSpec.ofChange approxBackSpec)) approxBackCard

/-- THE TIED CARD OF 'fulcrumlaw04.ApproxShorts'. -/
def approxShortsCard : Claim7 := { stood := { row := approxShortsRow, standIns := [], harness := (true, "6fad7cdd847d5169c8a14b02507735e9600d3c56c4f66a6d9d4833e9e4165396"), looks := true }, kinds := [], alts := [], laidByText := true, laidKinds := [.data, .data, .data, .data, .data, .sentinel, .sentinel, .pinned], laidTests := true, laidLooks := .later }
def ApproxShortsCardSaid : Prop := Claim7.holds Tryz.pinned (.plain (OpenSpec.ofChange approxShortsSpec)) approxShortsCard

/-- THE SECOND FORM's CARD OF 'fulcrumlaw04.ApproxFewest'. -/
def approxFewestUptoCard : Claim7 := { stood := { row := approxFewestUptoRow, standIns := [], harness := (true, "6fad7cdd847d5169c8a14b02507735e9600d3c56c4f66a6d9d4833e9e4165396"), looks := true }, kinds := [], alts := [], laidByText := true, laidKinds := [.data, .data, .data, .data, .data, .sentinel, .sentinel, .pinned], laidTests := true, laidLooks := .later }
def ApproxFewestUptoCardSaid : Prop := Claim7.holds Tryz.pinned (.plain (OpenSpec.upto approxFewestSpec)) approxFewestUptoCard

/-- THE SECOND FORM's CARD OF 'fulcrumlaw04.ApproxBack'. -/
def approxBackUptoCard : Claim7 := { stood := { row := approxBackUptoRow, standIns := [], harness := (true, "6fad7cdd847d5169c8a14b02507735e9600d3c56c4f66a6d9d4833e9e4165396"), looks := true }, kinds := [], alts := [], laidByText := true, laidKinds := [.data, .data, .data, .data, .data, .sentinel, .sentinel, .pinned], laidTests := true, laidLooks := .later }
def ApproxBackUptoCardSaid : Prop := Claim7.holds Tryz.pinned (.plain (OpenSpec.upto approxBackSpec)) approxBackUptoCard

/-- THE SECOND FORM's CARD OF 'fulcrumlaw04.ApproxShorts'. -/
def approxShortsUptoCard : Claim7 := { stood := { row := approxShortsUptoRow, standIns := [], harness := (true, "6fad7cdd847d5169c8a14b02507735e9600d3c56c4f66a6d9d4833e9e4165396"), looks := true }, kinds := [], alts := [], laidByText := true, laidKinds := [.data, .data, .data, .data, .data, .sentinel, .sentinel, .pinned], laidTests := true, laidLooks := .later }
def ApproxShortsUptoCardSaid : Prop := Claim7.holds Tryz.pinned (.plain (OpenSpec.upto approxShortsSpec)) approxShortsUptoCard
end Rows
end Go.Proofs.YtedocilafacliaaGreatDoor
