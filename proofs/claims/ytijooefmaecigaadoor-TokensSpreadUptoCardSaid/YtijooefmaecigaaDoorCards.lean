/-
  DERIVED. GIVEN WITH THE SEED: THE CARDS: each row of YtijooefmaecigaaDoorRows.lean that lists a variable, with what it lists TIED to the program's text (the seventh form; the later family's looks); each row that meets fmt, with fmt's text TOLD by the authors' own Lean function (tested against real Go, not proved from fmt's source: count such statements apart). THE CARD IS WHAT COUNTS. Prove the row's statement (the work); the ties are given (YtijooefmaecigaaDoorTie.lean); close each card by the builder's one call (the guide's Derived/Test/ToyasCard.lean, 'card_holds'). Laid BY PROGRAM, IN A SANDBOX (cutbox-door.mjs). By AI agents, Wed Nov 11 2026. No macro, syntax, notation, axiom, sorry.
-/
import Derived.Test.YtijooefmaecigaaDoorRows
import GoSem.ClaimSeven
namespace Go.Proofs.YtijooefmaecigaaDoor
namespace Rows

/-- THE TIED CARD OF 'fulcrumlaw12.TokensCover'. -/
def tokensCoverCard : Claim7 := { stood := { row := tokensCoverRow, standIns := [], harness := (true, "a926a535ee3a9a1d9c01c7f390d7a4280457bcc43df74b74bb970ad33cf2e5d1"), looks := false }, kinds := [], alts := [], laidByText := true, laidKinds := [.data, .pinned], laidTests := true, laidLooks := .later }
def TokensCoverCardSaid : Prop := Claim7.holds Tryd.pinned (.plain (OpenSpec.ofChange tokensCoverSpec)) tokensCoverCard

/-- THE TIED CARD OF 'fulcrumlaw12.TokensApart'. -/
def tokensApartCard : Claim7 := { stood := { row := tokensApartRow, standIns := [], harness := (true, "a926a535ee3a9a1d9c01c7f390d7a4280457bcc43df74b74bb970ad33cf2e5d1"), looks := false }, kinds := [], alts := [], laidByText := true, laidKinds := [.data, .pinned], laidTests := true, laidLooks := .later }
def TokensApartCardSaid : Prop := Claim7.holds Tryd.pinned (.plain (OpenSpec.ofChange tokensApartSpec)) tokensApartCard

/-- THE TIED CARD OF 'fulcrumlaw12.TokensPrints'. -/
def tokensPrintsCard : Claim7 := { stood := { row := tokensPrintsRow, standIns := [], harness := (true, "a926a535ee3a9a1d9c01c7f390d7a4280457bcc43df74b74bb970ad33cf2e5d1"), looks := false }, kinds := [], alts := [], laidByText := true, laidKinds := [.data, .pinned], laidTests := true, laidLooks := .later }
def TokensPrintsCardSaid : Prop := Claim7.holds Tryd.pinned (.plain (OpenSpec.ofChange tokensPrintsSpec)) tokensPrintsCard

/-- THE TIED CARD OF 'fulcrumlaw12.TokensBack'. -/
def tokensBackCard : Claim7 := { stood := { row := tokensBackRow, standIns := [], harness := (true, "a926a535ee3a9a1d9c01c7f390d7a4280457bcc43df74b74bb970ad33cf2e5d1"), looks := false }, kinds := [], alts := [], laidByText := true, laidKinds := [.data, .pinned], laidTests := true, laidLooks := .later }
def TokensBackCardSaid : Prop := Claim7.holds Tryd.pinned (.plain (OpenSpec.ofChange tokensBackSpec)) tokensBackCard

/-- THE TIED CARD OF 'fulcrumlaw12.TokensSpread'. -/
def tokensSpreadCard : Claim7 := { stood := { row := tokensSpreadRow, standIns := [], harness := (true, "a926a535ee3a9a1d9c01c7f390d7a4280457bcc43df74b74bb970ad33cf2e5d1"), looks := false }, kinds := [], alts := [], laidByText := true, laidKinds := [.data, .pinned], laidTests := true, laidLooks := .later }
def TokensSpreadCardSaid : Prop := Claim7.holds Tryd.pinned (.plain (OpenSpec.ofChange tokensSpreadSpec)) tokensSpreadCard

/-- THE SECOND FORM's CARD OF 'fulcrumlaw12.TokensCover'. -/
def tokensCoverUptoCard : Claim7 := { stood := { row := tokensCoverUptoRow, standIns := [], harness := (true, "a926a535ee3a9a1d9c01c7f390d7a4280457bcc43df74b74bb970ad33cf2e5d1"), looks := false }, kinds := [], alts := [], laidByText := true, laidKinds := [.data, .pinned], laidTests := true, laidLooks := .later }
def TokensCoverUptoCardSaid : Prop := Claim7.holds Tryd.pinned (.plain (OpenSpec.upto tokensCoverSpec)) tokensCoverUptoCard

/-- THE SECOND FORM's CARD OF 'fulcrumlaw12.TokensApart'. -/
def tokensApartUptoCard : Claim7 := { stood := { row := tokensApartUptoRow, standIns := [], harness := (true, "a926a535ee3a9a1d9c01c7f390d7a4280457bcc43df74b74bb970ad33cf2e5d1"), looks := false }, kinds := [], alts := [], laidByText := true, laidKinds := [.data, .pinned], laidTests := true, laidLooks := .later }
def TokensApartUptoCardSaid : Prop := Claim7.holds Tryd.pinned (.plain (OpenSpec.upto tokensApartSpec)) tokensApartUptoCard

/-- THE SECOND FORM's CARD OF 'fulcrumlaw12.TokensPrints'. -/
def tokensPrintsUptoCard : Claim7 := { stood := { row := tokensPrintsUptoRow, standIns := [], harness := (true, "a926a535ee3a9a1d9c01c7f390d7a4280457bcc43df74b74bb970ad33cf2e5d1"), looks := false }, kinds := [], alts := [], laidByText := true, laidKinds := [.data, .pinned], laidTests := true, laidLooks := .later }
def TokensPrintsUptoCardSaid : Prop := Claim7.holds Tryd.pinned (.plain (OpenSpec.upto tokensPrintsSpec)) tokensPrintsUptoCard

/-- THE SECOND FORM's CARD OF 'fulcrumlaw12.TokensBack'. -/
def tokensBackUptoCard : Claim7 := { stood := { row := tokensBackUptoRow, standIns := [], harness := (true, "a926a535ee3a9a1d9c01c7f390d7a4280457bcc43df74b74bb970ad33cf2e5d1"), looks := false }, kinds := [], alts := [], laidByText := true, laidKinds := [.data, .pinned], laidTests := true, laidLooks := .later }
def TokensBackUptoCardSaid : Prop := Claim7.holds Tryd.pinned (.plain (OpenSpec.upto tokensBackSpec)) tokensBackUptoCard

/-- THE SECOND FORM's CARD OF 'fulcrumlaw12.TokensSpread'. -/
def tokensSpreadUptoCard : Claim7 := { stood := { row := tokensSpreadUptoRow, standIns := [], harness := (true, "a926a535ee3a9a1d9c01c7f390d7a4280457bcc43df74b74bb970ad33cf2e5d1"), looks := false }, kinds := [], alts := [], laidByText := true, laidKinds := [.data, .pinned], laidTests := true, laidLooks := .later }
def TokensSpreadUptoCardSaid : Prop := Claim7.holds Tryd.pinned (.plain (OpenSpec.upto tokensSpreadSpec)) tokensSpreadUptoCard
end Rows
end Go.Proofs.YtijooefmaecigaaDoor
