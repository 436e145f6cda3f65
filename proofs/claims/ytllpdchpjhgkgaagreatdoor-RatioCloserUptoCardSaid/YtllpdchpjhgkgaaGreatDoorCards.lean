/-
  DERIVED. GIVEN WITH THE SEED: THE CARDS: each row of YtllpdchpjhgkgaaGreatDoorRows.lean that lists a variable, with what it lists TIED to the program's text (the seventh form; the later family's looks); each row that meets fmt, with fmt's text TOLD by the authors' own Lean function (tested against real Go, not proved from fmt's source: count such statements apart). THE CARD IS WHAT COUNTS. Prove the row's statement (the work); the ties are given (YtllpdchpjhgkgaaGreatDoorTie.lean); close each card by the builder's one call (the guide's Derived/Test/ToyasCard.lean, 'card_holds'). Laid BY PROGRAM, IN A SANDBOX (cutbox-door.mjs). By AI agents, Wed Nov 11 2026. No macro, syntax, notation, axiom, sorry.
-/
import Derived.Test.YtllpdchpjhgkgaaGreatDoorRows
import GoSem.ClaimSeven
namespace Go.Proofs.YtllpdchpjhgkgaaGreatDoor
namespace Rows

/-- THE TIED CARD OF 'fulcrumlaw03.RatioNearest'. -/
def ratioNearestCard : Claim7 := { stood := { row := ratioNearestRow, standIns := [], harness := (true, "d865677d0a9b9c747cfe9da15de34057673d8e3e3baaf0318f7a1f3d28fc35e0"), looks := false }, kinds := [], alts := [], laidByText := true, laidKinds := [.data, .data, .pinned], laidTests := true, laidLooks := .later }
def RatioNearestCardSaid : Prop := Claim7.holds Tryz.pinned (.plain (OpenSpec.ofChange ratioNearestSpec)) ratioNearestCard

/-- THE TIED CARD OF 'fulcrumlaw03.RatioCloser'. -/
def ratioCloserCard : Claim7 := { stood := { row := ratioCloserRow, standIns := [], harness := (true, "d865677d0a9b9c747cfe9da15de34057673d8e3e3baaf0318f7a1f3d28fc35e0"), looks := false }, kinds := [], alts := [], laidByText := true, laidKinds := [.data, .data, .pinned], laidTests := true, laidLooks := .later }
def RatioCloserCardSaid : Prop := Claim7.holds Tryz.pinned (.plain (OpenSpec.ofChange ratioCloserSpec)) ratioCloserCard

/-- THE SECOND FORM's CARD OF 'fulcrumlaw03.RatioNearest'. -/
def ratioNearestUptoCard : Claim7 := { stood := { row := ratioNearestUptoRow, standIns := [], harness := (true, "d865677d0a9b9c747cfe9da15de34057673d8e3e3baaf0318f7a1f3d28fc35e0"), looks := false }, kinds := [], alts := [], laidByText := true, laidKinds := [.data, .data, .pinned], laidTests := true, laidLooks := .later }
def RatioNearestUptoCardSaid : Prop := Claim7.holds Tryz.pinned (.plain (OpenSpec.upto ratioNearestSpec)) ratioNearestUptoCard

/-- THE SECOND FORM's CARD OF 'fulcrumlaw03.RatioCloser'. -/
def ratioCloserUptoCard : Claim7 := { stood := { row := ratioCloserUptoRow, standIns := [], harness := (true, "d865677d0a9b9c747cfe9da15de34057673d8e3e3baaf0318f7a1f3d28fc35e0"), looks := false }, kinds := [], alts := [], laidByText := true, laidKinds := [.data, .data, .pinned], laidTests := true, laidLooks := .later }
def RatioCloserUptoCardSaid : Prop := Claim7.holds Tryz.pinned (.plain (OpenSpec.upto ratioCloserSpec)) ratioCloserUptoCard
end Rows
end Go.Proofs.YtllpdchpjhgkgaaGreatDoor
