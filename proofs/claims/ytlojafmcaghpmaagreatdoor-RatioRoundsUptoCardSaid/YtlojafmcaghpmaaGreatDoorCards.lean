/-
  DERIVED. GIVEN WITH THE SEED: THE CARDS: each row of YtlojafmcaghpmaaGreatDoorRows.lean that lists a variable, with what it lists TIED to the program's text (the seventh form; the later family's looks); each row that meets fmt, with fmt's text TOLD by the authors' own Lean function (tested against real Go, not proved from fmt's source: count such statements apart). THE CARD IS WHAT COUNTS. Prove the row's statement (the work); the ties are given (YtlojafmcaghpmaaGreatDoorTie.lean); close each card by the builder's one call (the guide's Derived/Test/ToyasCard.lean, 'card_holds'). Laid BY PROGRAM, IN A SANDBOX (cutbox-door.mjs). By AI agents, Wed Nov 11 2026. No macro, syntax, notation, axiom, sorry.
-/
import Derived.Test.YtlojafmcaghpmaaGreatDoorRows
import GoSem.ClaimSeven
namespace Go.Proofs.YtlojafmcaghpmaaGreatDoor
namespace Rows

/-- THE TIED CARD OF 'fulcrumlaw03.RatioFloorLeast'. -/
def ratioFloorLeastCard : Claim7 := { stood := { row := ratioFloorLeastRow, standIns := [], harness := (true, "d8aa22a4bc918620902e5ed2a295c751712e83276435996953d9824b84b3e5e2"), looks := false }, kinds := [], alts := [], laidByText := true, laidKinds := [.data, .data, .pinned], laidTests := true, laidLooks := .later }
def RatioFloorLeastCardSaid : Prop := Claim7.holds Tryz.pinned (.plain (OpenSpec.ofChange ratioFloorLeastSpec)) ratioFloorLeastCard

/-- THE TIED CARD OF 'fulcrumlaw03.RatioBetween'. -/
def ratioBetweenCard : Claim7 := { stood := { row := ratioBetweenRow, standIns := [], harness := (true, "d8aa22a4bc918620902e5ed2a295c751712e83276435996953d9824b84b3e5e2"), looks := false }, kinds := [], alts := [], laidByText := true, laidKinds := [.data, .data, .pinned], laidTests := true, laidLooks := .later }
def RatioBetweenCardSaid : Prop := Claim7.holds Tryz.pinned (.plain (OpenSpec.ofChange ratioBetweenSpec)) ratioBetweenCard

/-- THE TIED CARD OF 'fulcrumlaw03.RatioLeast'. -/
def ratioLeastCard : Claim7 := { stood := { row := ratioLeastRow, standIns := [], harness := (true, "d8aa22a4bc918620902e5ed2a295c751712e83276435996953d9824b84b3e5e2"), looks := false }, kinds := [], alts := [], laidByText := true, laidKinds := [.data, .data, .pinned], laidTests := true, laidLooks := .later }
def RatioLeastCardSaid : Prop := Claim7.holds Tryz.pinned (.plain (OpenSpec.ofChange ratioLeastSpec)) ratioLeastCard

/-- THE TIED CARD OF 'fulcrumlaw03.RatioNearest'. -/
def ratioNearestCard : Claim7 := { stood := { row := ratioNearestRow, standIns := [], harness := (true, "d8aa22a4bc918620902e5ed2a295c751712e83276435996953d9824b84b3e5e2"), looks := false }, kinds := [], alts := [], laidByText := true, laidKinds := [.data, .data, .pinned], laidTests := true, laidLooks := .later }
def RatioNearestCardSaid : Prop := Claim7.holds Tryz.pinned (.plain (OpenSpec.ofChange ratioNearestSpec)) ratioNearestCard

/-- THE TIED CARD OF 'fulcrumlaw03.RatioCloser'. -/
def ratioCloserCard : Claim7 := { stood := { row := ratioCloserRow, standIns := [], harness := (true, "d8aa22a4bc918620902e5ed2a295c751712e83276435996953d9824b84b3e5e2"), looks := false }, kinds := [], alts := [], laidByText := true, laidKinds := [.data, .data, .pinned], laidTests := true, laidLooks := .later }
def RatioCloserCardSaid : Prop := Claim7.holds Tryz.pinned (.plain (OpenSpec.ofChange ratioCloserSpec)) ratioCloserCard

/-- THE TIED CARD OF 'fulcrumlaw03.RatioDecimals'. -/
def ratioDecimalsCard : Claim7 := { stood := { row := ratioDecimalsRow, standIns := [], harness := (true, "d8aa22a4bc918620902e5ed2a295c751712e83276435996953d9824b84b3e5e2"), looks := false }, kinds := [], alts := [], laidByText := true, laidKinds := [.data, .data, .pinned], laidTests := true, laidLooks := .later }
def RatioDecimalsCardSaid : Prop := Claim7.holds Tryz.pinned (.plain (OpenSpec.ofChange ratioDecimalsSpec)) ratioDecimalsCard

/-- THE TIED CARD OF 'fulcrumlaw03.RatioRounds'. -/
def ratioRoundsCard : Claim7 := { stood := { row := ratioRoundsRow, standIns := [], harness := (true, "d8aa22a4bc918620902e5ed2a295c751712e83276435996953d9824b84b3e5e2"), looks := false }, kinds := [], alts := [], laidByText := true, laidKinds := [.data, .data, .pinned], laidTests := true, laidLooks := .later }
def RatioRoundsCardSaid : Prop := Claim7.holds Tryz.pinned (.plain (OpenSpec.ofChange ratioRoundsSpec)) ratioRoundsCard

/-- THE SECOND FORM's CARD OF 'fulcrumlaw03.RatioFloorLeast'. -/
def ratioFloorLeastUptoCard : Claim7 := { stood := { row := ratioFloorLeastUptoRow, standIns := [], harness := (true, "d8aa22a4bc918620902e5ed2a295c751712e83276435996953d9824b84b3e5e2"), looks := false }, kinds := [], alts := [], laidByText := true, laidKinds := [.data, .data, .pinned], laidTests := true, laidLooks := .later }
def RatioFloorLeastUptoCardSaid : Prop := Claim7.holds Tryz.pinned (.plain (OpenSpec.upto ratioFloorLeastSpec)) ratioFloorLeastUptoCard

/-- THE SECOND FORM's CARD OF 'fulcrumlaw03.RatioBetween'. -/
def ratioBetweenUptoCard : Claim7 := { stood := { row := ratioBetweenUptoRow, standIns := [], harness := (true, "d8aa22a4bc918620902e5ed2a295c751712e83276435996953d9824b84b3e5e2"), looks := false }, kinds := [], alts := [], laidByText := true, laidKinds := [.data, .data, .pinned], laidTests := true, laidLooks := .later }
def RatioBetweenUptoCardSaid : Prop := Claim7.holds Tryz.pinned (.plain (OpenSpec.upto ratioBetweenSpec)) ratioBetweenUptoCard

/-- THE SECOND FORM's CARD OF 'fulcrumlaw03.RatioLeast'. -/
def ratioLeastUptoCard : Claim7 := { stood := { row := ratioLeastUptoRow, standIns := [], harness := (true, "d8aa22a4bc918620902e5ed2a295c751712e83276435996953d9824b84b3e5e2"), looks := false }, kinds := [], alts := [], laidByText := true, laidKinds := [.data, .data, .pinned], laidTests := true, laidLooks := .later }
def RatioLeastUptoCardSaid : Prop := Claim7.holds Tryz.pinned (.plain (OpenSpec.upto ratioLeastSpec)) ratioLeastUptoCard

/-- THE SECOND FORM's CARD OF 'fulcrumlaw03.RatioNearest'. -/
def ratioNearestUptoCard : Claim7 := { stood := { row := ratioNearestUptoRow, standIns := [], harness := (true, "d8aa22a4bc918620902e5ed2a295c751712e83276435996953d9824b84b3e5e2"), looks := false }, kinds := [], alts := [], laidByText := true, laidKinds := [.data, .data, .pinned], laidTests := true, laidLooks := .later }
def RatioNearestUptoCardSaid : Prop := Claim7.holds Tryz.pinned (.plain (OpenSpec.upto ratioNearestSpec)) ratioNearestUptoCard

/-- THE SECOND FORM's CARD OF 'fulcrumlaw03.RatioCloser'. -/
def ratioCloserUptoCard : Claim7 := { stood := { row := ratioCloserUptoRow, standIns := [], harness := (true, "d8aa22a4bc918620902e5ed2a295c751712e83276435996953d9824b84b3e5e2"), looks := false }, kinds := [], alts := [], laidByText := true, laidKinds := [.data, .data, .pinned], laidTests := true, laidLooks := .later }
def RatioCloserUptoCardSaid : Prop := Claim7.holds Tryz.pinned (.plain (OpenSpec.upto ratioCloserSpec)) ratioCloserUptoCard

/-- THE SECOND FORM's CARD OF 'fulcrumlaw03.RatioDecimals'. -/
def ratioDecimalsUptoCard : Claim7 := { stood := { row := ratioDecimalsUptoRow, standIns := [], harness := (true, "d8aa22a4bc918620902e5ed2a295c751712e83276435996953d9824b84b3e5e2"), looks := false }, kinds := [], alts := [], laidByText := true, laidKinds := [.data, .data, .pinned], laidTests := true, laidLooks := .later }
def RatioDecimalsUptoCardSaid : Prop := Claim7.holds Tryz.pinned (.plain (OpenSpec.upto ratioDecimalsSpec)) ratioDecimalsUptoCard

/-- THE SECOND FORM's CARD OF 'fulcrumlaw03.RatioRounds'. -/
def ratioRoundsUptoCard : Claim7 := { stood := { row := ratioRoundsUptoRow, standIns := [], harness := (true, "d8aa22a4bc918620902e5ed2a295c751712e83276435996953d9824b84b3e5e2"), looks := false }, kinds := [], alts := [], laidByText := true, laidKinds := [.data, .data, .pinned], laidTests := true, laidLooks := .later }
def RatioRoundsUptoCardSaid : Prop := Claim7.holds Tryz.pinned (.plain (OpenSpec.upto ratioRoundsSpec)) ratioRoundsUptoCard
end Rows
end Go.Proofs.YtlojafmcaghpmaaGreatDoor
