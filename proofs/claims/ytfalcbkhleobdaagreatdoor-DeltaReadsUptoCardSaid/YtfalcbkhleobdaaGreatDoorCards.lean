/-
  DERIVED. GIVEN WITH THE SEED: THE CARDS: each row of YtfalcbkhleobdaaGreatDoorRows.lean that lists a variable, with what it lists TIED to the program's text (the seventh form; the later family's looks); each row that meets fmt, with fmt's text TOLD by the authors' own Lean function (tested against real Go, not proved from fmt's source: count such statements apart). THE CARD IS WHAT COUNTS. Prove the row's statement (the work); the ties are given (YtfalcbkhleobdaaGreatDoorTie.lean); close each card by the builder's one call (the guide's Derived/Test/ToyasCard.lean, 'card_holds'). Laid BY PROGRAM, IN A SANDBOX (cutbox-door.mjs). By AI agents, Wed Nov 11 2026. No macro, syntax, notation, axiom, sorry.
-/
import Derived.Test.YtfalcbkhleobdaaGreatDoorRows
import GoSem.ClaimSeven
namespace Go.Proofs.YtfalcbkhleobdaaGreatDoor
namespace Rows

/-- THE TIED CARD OF 'fulcrumlaw05.DeltaTexts'. -/
def deltaTextsCard : Claim7 := { stood := { row := deltaTextsRow, standIns := [], harness := (true, "2e4eb742d5e2b1a6f7f4717240a2565dacc5969ba44026e06ee69b7edcd92886"), looks := false }, kinds := [], alts := [], laidByText := true, laidKinds := [.data, .data, .pinned], laidTests := true, laidLooks := .later }
def DeltaTextsCardSaid : Prop := Claim7.holds Tryz.pinned (.plain (OpenSpec.ofChange deltaTextsSpec)) deltaTextsCard

/-- THE TIED CARD OF 'fulcrumlaw05.DeltaReads'. -/
def deltaReadsCard : Claim7 := { stood := { row := deltaReadsRow, standIns := [], harness := (true, "2e4eb742d5e2b1a6f7f4717240a2565dacc5969ba44026e06ee69b7edcd92886"), looks := false }, kinds := [], alts := [], laidByText := true, laidKinds := [.data, .data, .pinned], laidTests := true, laidLooks := .later }
def DeltaReadsCardSaid : Prop := Claim7.holds Tryz.pinned (.plain (OpenSpec.ofChange deltaReadsSpec)) deltaReadsCard

/-- THE TIED CARD OF 'fulcrumlaw05.DeltaSums'. -/
def deltaSumsCard : Claim7 := { stood := { row := deltaSumsRow, standIns := [], harness := (true, "2e4eb742d5e2b1a6f7f4717240a2565dacc5969ba44026e06ee69b7edcd92886"), looks := false }, kinds := [], alts := [], laidByText := true, laidKinds := [.data, .data, .pinned], laidTests := true, laidLooks := .later }
def DeltaSumsCardSaid : Prop := Claim7.holds Tryz.pinned (.plain (OpenSpec.ofChange deltaSumsSpec)) deltaSumsCard

/-- THE TIED CARD OF 'fulcrumlaw05.DeltaNorms'. -/
def deltaNormsCard : Claim7 := { stood := { row := deltaNormsRow, standIns := [], harness := (true, "2e4eb742d5e2b1a6f7f4717240a2565dacc5969ba44026e06ee69b7edcd92886"), looks := false }, kinds := [], alts := [], laidByText := true, laidKinds := [.data, .data, .pinned], laidTests := true, laidLooks := .later }
def DeltaNormsCardSaid : Prop := Claim7.holds Tryz.pinned (.plain (OpenSpec.ofChange deltaNormsSpec)) deltaNormsCard

/-- THE TIED CARD OF 'fulcrumlaw05.DeltaSpace'. -/
def deltaSpaceCard : Claim7 := { stood := { row := deltaSpaceRow, standIns := [], harness := (true, "2e4eb742d5e2b1a6f7f4717240a2565dacc5969ba44026e06ee69b7edcd92886"), looks := false }, kinds := [], alts := [], laidByText := true, laidKinds := [.data, .data, .pinned], laidTests := true, laidLooks := .later }
def DeltaSpaceCardSaid : Prop := Claim7.holds Tryz.pinned (.plain (OpenSpec.ofChange deltaSpaceSpec)) deltaSpaceCard

/-- THE TIED CARD OF 'fulcrumlaw05.DeltaSmalls'. -/
def deltaSmallsCard : Claim7 := { stood := { row := deltaSmallsRow, standIns := [], harness := (true, "2e4eb742d5e2b1a6f7f4717240a2565dacc5969ba44026e06ee69b7edcd92886"), looks := false }, kinds := [], alts := [], laidByText := true, laidKinds := [.data, .data, .pinned], laidTests := true, laidLooks := .later }
def DeltaSmallsCardSaid : Prop := Claim7.holds Tryz.pinned (.plain (OpenSpec.ofChange deltaSmallsSpec)) deltaSmallsCard

/-- THE TIED CARD OF 'fulcrumlaw05.DeltaKeeps'. -/
def deltaKeepsCard : Claim7 := { stood := { row := deltaKeepsRow, standIns := [], harness := (true, "2e4eb742d5e2b1a6f7f4717240a2565dacc5969ba44026e06ee69b7edcd92886"), looks := false }, kinds := [], alts := [], laidByText := true, laidKinds := [.data, .data, .pinned], laidTests := true, laidLooks := .later }
def DeltaKeepsCardSaid : Prop := Claim7.holds Tryz.pinned (.plain (OpenSpec.ofChange deltaKeepsSpec)) deltaKeepsCard

/-- THE TIED CARD OF 'fulcrumlaw05.DeltaGreatest'. -/
def deltaGreatestCard : Claim7 := { stood := { row := deltaGreatestRow, standIns := [], harness := (true, "2e4eb742d5e2b1a6f7f4717240a2565dacc5969ba44026e06ee69b7edcd92886"), looks := false }, kinds := [], alts := [], laidByText := true, laidKinds := [.data, .data, .pinned], laidTests := true, laidLooks := .later }
def DeltaGreatestCardSaid : Prop := Claim7.holds Tryz.pinned (.plain (OpenSpec.ofChange deltaGreatestSpec)) deltaGreatestCard

/-- THE TIED CARD OF 'fulcrumlaw05.DeltaTells'. -/
def deltaTellsCard : Claim7 := { stood := { row := deltaTellsRow, standIns := [], harness := (true, "2e4eb742d5e2b1a6f7f4717240a2565dacc5969ba44026e06ee69b7edcd92886"), looks := false }, kinds := [], alts := [], laidByText := true, laidKinds := [.data, .data, .pinned], laidTests := true, laidLooks := .later }
def DeltaTellsCardSaid : Prop := Claim7.holds Tryz.pinned (.plain (OpenSpec.ofChange deltaTellsSpec)) deltaTellsCard

/-- THE TIED CARD OF 'fulcrumlaw05.DeltaOwn'. -/
def deltaOwnCard : Claim7 := { stood := { row := deltaOwnRow, standIns := [], harness := (true, "2e4eb742d5e2b1a6f7f4717240a2565dacc5969ba44026e06ee69b7edcd92886"), looks := false }, kinds := [], alts := [], laidByText := true, laidKinds := [.data, .data, .pinned], laidTests := true, laidLooks := .later }
def DeltaOwnCardSaid : Prop := Claim7.holds Tryz.pinned (.plain (OpenSpec.ofChange deltaOwnSpec)) deltaOwnCard

/-- THE SECOND FORM's CARD OF 'fulcrumlaw05.DeltaTexts'. -/
def deltaTextsUptoCard : Claim7 := { stood := { row := deltaTextsUptoRow, standIns := [], harness := (true, "2e4eb742d5e2b1a6f7f4717240a2565dacc5969ba44026e06ee69b7edcd92886"), looks := false }, kinds := [], alts := [], laidByText := true, laidKinds := [.data, .data, .pinned], laidTests := true, laidLooks := .later }
def DeltaTextsUptoCardSaid : Prop := Claim7.holds Tryz.pinned (.plain (OpenSpec.upto deltaTextsSpec)) deltaTextsUptoCard

/-- THE SECOND FORM's CARD OF 'fulcrumlaw05.DeltaReads'. -/
def deltaReadsUptoCard : Claim7 := { stood := { row := deltaReadsUptoRow, standIns := [], harness := (true, "2e4eb742d5e2b1a6f7f4717240a2565dacc5969ba44026e06ee69b7edcd92886"), looks := false }, kinds := [], alts := [], laidByText := true, laidKinds := [.data, .data, .pinned], laidTests := true, laidLooks := .later }
def DeltaReadsUptoCardSaid : Prop := Claim7.holds Tryz.pinned (.plain (OpenSpec.upto deltaReadsSpec)) deltaReadsUptoCard

/-- THE SECOND FORM's CARD OF 'fulcrumlaw05.DeltaSums'. -/
def deltaSumsUptoCard : Claim7 := { stood := { row := deltaSumsUptoRow, standIns := [], harness := (true, "2e4eb742d5e2b1a6f7f4717240a2565dacc5969ba44026e06ee69b7edcd92886"), looks := false }, kinds := [], alts := [], laidByText := true, laidKinds := [.data, .data, .pinned], laidTests := true, laidLooks := .later }
def DeltaSumsUptoCardSaid : Prop := Claim7.holds Tryz.pinned (.plain (OpenSpec.upto deltaSumsSpec)) deltaSumsUptoCard

/-- THE SECOND FORM's CARD OF 'fulcrumlaw05.DeltaNorms'. -/
def deltaNormsUptoCard : Claim7 := { stood := { row := deltaNormsUptoRow, standIns := [], harness := (true, "2e4eb742d5e2b1a6f7f4717240a2565dacc5969ba44026e06ee69b7edcd92886"), looks := false }, kinds := [], alts := [], laidByText := true, laidKinds := [.data, .data, .pinned], laidTests := true, laidLooks := .later }
def DeltaNormsUptoCardSaid : Prop := Claim7.holds Tryz.pinned (.plain (OpenSpec.upto deltaNormsSpec)) deltaNormsUptoCard

/-- THE SECOND FORM's CARD OF 'fulcrumlaw05.DeltaSpace'. -/
def deltaSpaceUptoCard : Claim7 := { stood := { row := deltaSpaceUptoRow, standIns := [], harness := (true, "2e4eb742d5e2b1a6f7f4717240a2565dacc5969ba44026e06ee69b7edcd92886"), looks := false }, kinds := [], alts := [], laidByText := true, laidKinds := [.data, .data, .pinned], laidTests := true, laidLooks := .later }
def DeltaSpaceUptoCardSaid : Prop := Claim7.holds Tryz.pinned (.plain (OpenSpec.upto deltaSpaceSpec)) deltaSpaceUptoCard

/-- THE SECOND FORM's CARD OF 'fulcrumlaw05.DeltaSmalls'. -/
def deltaSmallsUptoCard : Claim7 := { stood := { row := deltaSmallsUptoRow, standIns := [], harness := (true, "2e4eb742d5e2b1a6f7f4717240a2565dacc5969ba44026e06ee69b7edcd92886"), looks := false }, kinds := [], alts := [], laidByText := true, laidKinds := [.data, .data, .pinned], laidTests := true, laidLooks := .later }
def DeltaSmallsUptoCardSaid : Prop := Claim7.holds Tryz.pinned (.plain (OpenSpec.upto deltaSmallsSpec)) deltaSmallsUptoCard

/-- THE SECOND FORM's CARD OF 'fulcrumlaw05.DeltaKeeps'. -/
def deltaKeepsUptoCard : Claim7 := { stood := { row := deltaKeepsUptoRow, standIns := [], harness := (true, "2e4eb742d5e2b1a6f7f4717240a2565dacc5969ba44026e06ee69b7edcd92886"), looks := false }, kinds := [], alts := [], laidByText := true, laidKinds := [.data, .data, .pinned], laidTests := true, laidLooks := .later }
def DeltaKeepsUptoCardSaid : Prop := Claim7.holds Tryz.pinned (.plain (OpenSpec.upto deltaKeepsSpec)) deltaKeepsUptoCard

/-- THE SECOND FORM's CARD OF 'fulcrumlaw05.DeltaGreatest'. -/
def deltaGreatestUptoCard : Claim7 := { stood := { row := deltaGreatestUptoRow, standIns := [], harness := (true, "2e4eb742d5e2b1a6f7f4717240a2565dacc5969ba44026e06ee69b7edcd92886"), looks := false }, kinds := [], alts := [], laidByText := true, laidKinds := [.data, .data, .pinned], laidTests := true, laidLooks := .later }
def DeltaGreatestUptoCardSaid : Prop := Claim7.holds Tryz.pinned (.plain (OpenSpec.upto deltaGreatestSpec)) deltaGreatestUptoCard

/-- THE SECOND FORM's CARD OF 'fulcrumlaw05.DeltaTells'. -/
def deltaTellsUptoCard : Claim7 := { stood := { row := deltaTellsUptoRow, standIns := [], harness := (true, "2e4eb742d5e2b1a6f7f4717240a2565dacc5969ba44026e06ee69b7edcd92886"), looks := false }, kinds := [], alts := [], laidByText := true, laidKinds := [.data, .data, .pinned], laidTests := true, laidLooks := .later }
def DeltaTellsUptoCardSaid : Prop := Claim7.holds Tryz.pinned (.plain (OpenSpec.upto deltaTellsSpec)) deltaTellsUptoCard

/-- THE SECOND FORM's CARD OF 'fulcrumlaw05.DeltaOwn'. -/
def deltaOwnUptoCard : Claim7 := { stood := { row := deltaOwnUptoRow, standIns := [], harness := (true, "2e4eb742d5e2b1a6f7f4717240a2565dacc5969ba44026e06ee69b7edcd92886"), looks := false }, kinds := [], alts := [], laidByText := true, laidKinds := [.data, .data, .pinned], laidTests := true, laidLooks := .later }
def DeltaOwnUptoCardSaid : Prop := Claim7.holds Tryz.pinned (.plain (OpenSpec.upto deltaOwnSpec)) deltaOwnUptoCard
end Rows
end Go.Proofs.YtfalcbkhleobdaaGreatDoor
