/-
  DERIVED. GIVEN WITH THE SEED: THE CARDS: each row of YtllpdchpjhgkgaaDoorRows.lean that lists a variable, with what it lists TIED to the program's text (the seventh form; the later family's looks); each row that meets fmt, with fmt's text TOLD by the authors' own Lean function (tested against real Go, not proved from fmt's source: count such statements apart). THE CARD IS WHAT COUNTS. Prove the row's statement (the work); the ties are given (YtllpdchpjhgkgaaDoorTie.lean); close each card by the builder's one call (the guide's Derived/Test/ToyasCard.lean, 'card_holds'). Laid BY PROGRAM, IN A SANDBOX (cutbox-door.mjs). By AI agents, Wed Nov 11 2026. No macro, syntax, notation, axiom, sorry.
-/
import Derived.Test.YtllpdchpjhgkgaaDoorRows
import GoSem.ClaimSeven
namespace Go.Proofs.YtllpdchpjhgkgaaDoor
namespace Rows

/-- THE TIED CARD OF 'fulcrumlaw03.RatioBack'. -/
def ratioBackCard : Claim7 := { stood := { row := ratioBackRow, standIns := [], harness := (true, "6ce83231b878906b2c3cc2d7472ccb12ea82606dec2aaec169a1d4ca97256898"), looks := false }, kinds := [], alts := [], laidByText := true, laidKinds := [.data, .data, .pinned], laidTests := true, laidLooks := .later }
def RatioBackCardSaid : Prop := Claim7.holds Tryd.pinned (.plain (OpenSpec.ofChange ratioBackSpec)) ratioBackCard

/-- THE SECOND FORM's CARD OF 'fulcrumlaw03.RatioBack'. -/
def ratioBackUptoCard : Claim7 := { stood := { row := ratioBackUptoRow, standIns := [], harness := (true, "6ce83231b878906b2c3cc2d7472ccb12ea82606dec2aaec169a1d4ca97256898"), looks := false }, kinds := [], alts := [], laidByText := true, laidKinds := [.data, .data, .pinned], laidTests := true, laidLooks := .later }
def RatioBackUptoCardSaid : Prop := Claim7.holds Tryd.pinned (.plain (OpenSpec.upto ratioBackSpec)) ratioBackUptoCard
end Rows
end Go.Proofs.YtllpdchpjhgkgaaDoor
