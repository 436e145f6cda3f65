/-
  DERIVED. GIVEN WITH THE SEED: THE CARDS: each row of YtjbliegkmhoffaaDoorRows.lean that lists a variable, with what it lists TIED to the program's text (the seventh form; the later family's looks); each row that meets fmt, with fmt's text TOLD by the authors' own Lean function (tested against real Go, not proved from fmt's source: count such statements apart). THE CARD IS WHAT COUNTS. Prove the row's statement (the work); the ties are given (YtjbliegkmhoffaaDoorTie.lean); close each card by the builder's one call (the guide's Derived/Test/ToyasCard.lean, 'card_holds'). Laid BY PROGRAM, IN A SANDBOX (cutbox-door.mjs). By AI agents, Wed Nov 11 2026. No macro, syntax, notation, axiom, sorry.
-/
import Derived.Test.YtjbliegkmhoffaaDoorRows
import GoSem.ClaimSeven
namespace Go.Proofs.YtjbliegkmhoffaaDoor
namespace Rows

/-- THE TIED CARD OF 'fulcrumlaw12.TokensNobody'. -/
def tokensNobodyCard : Claim7 := { stood := { row := tokensNobodyRow, standIns := [], harness := (true, "4b9be61ba2f12b06c95e18cac788ce663b777981eb65b7fc0bfc04e3daae6e80"), looks := false }, kinds := [], alts := [], laidByText := true, laidKinds := [.data, .pinned], laidTests := true, laidLooks := .later }
def TokensNobodyCardSaid : Prop := Claim7.holds Tryd.pinned (.plain (OpenSpec.ofChange tokensNobodySpec)) tokensNobodyCard

/-- THE TIED CARD OF 'fulcrumlaw12.TokensPieces'. -/
def tokensPiecesCard : Claim7 := { stood := { row := tokensPiecesRow, standIns := [], harness := (true, "4b9be61ba2f12b06c95e18cac788ce663b777981eb65b7fc0bfc04e3daae6e80"), looks := false }, kinds := [], alts := [], laidByText := true, laidKinds := [.data, .pinned], laidTests := true, laidLooks := .later }
def TokensPiecesCardSaid : Prop := Claim7.holds Tryd.pinned (.plain (OpenSpec.ofChange tokensPiecesSpec)) tokensPiecesCard

/-- THE TIED CARD OF 'fulcrumlaw12.TokensReads'. -/
def tokensReadsCard : Claim7 := { stood := { row := tokensReadsRow, standIns := [], harness := (true, "4b9be61ba2f12b06c95e18cac788ce663b777981eb65b7fc0bfc04e3daae6e80"), looks := false }, kinds := [], alts := [], laidByText := true, laidKinds := [.data, .pinned], laidTests := true, laidLooks := .later }
def TokensReadsCardSaid : Prop := Claim7.holds Tryd.pinned (.plain (OpenSpec.ofChange tokensReadsSpec)) tokensReadsCard

/-- THE TIED CARD OF 'fulcrumlaw12.TokensCuts'. -/
def tokensCutsCard : Claim7 := { stood := { row := tokensCutsRow, standIns := [], harness := (true, "4b9be61ba2f12b06c95e18cac788ce663b777981eb65b7fc0bfc04e3daae6e80"), looks := false }, kinds := [], alts := [], laidByText := true, laidKinds := [.data, .pinned], laidTests := true, laidLooks := .later }
def TokensCutsCardSaid : Prop := Claim7.holds Tryd.pinned (.plain (OpenSpec.ofChange tokensCutsSpec)) tokensCutsCard

/-- THE SECOND FORM's CARD OF 'fulcrumlaw12.TokensNobody'. -/
def tokensNobodyUptoCard : Claim7 := { stood := { row := tokensNobodyUptoRow, standIns := [], harness := (true, "4b9be61ba2f12b06c95e18cac788ce663b777981eb65b7fc0bfc04e3daae6e80"), looks := false }, kinds := [], alts := [], laidByText := true, laidKinds := [.data, .pinned], laidTests := true, laidLooks := .later }
def TokensNobodyUptoCardSaid : Prop := Claim7.holds Tryd.pinned (.plain (OpenSpec.upto tokensNobodySpec)) tokensNobodyUptoCard

/-- THE SECOND FORM's CARD OF 'fulcrumlaw12.TokensPieces'. -/
def tokensPiecesUptoCard : Claim7 := { stood := { row := tokensPiecesUptoRow, standIns := [], harness := (true, "4b9be61ba2f12b06c95e18cac788ce663b777981eb65b7fc0bfc04e3daae6e80"), looks := false }, kinds := [], alts := [], laidByText := true, laidKinds := [.data, .pinned], laidTests := true, laidLooks := .later }
def TokensPiecesUptoCardSaid : Prop := Claim7.holds Tryd.pinned (.plain (OpenSpec.upto tokensPiecesSpec)) tokensPiecesUptoCard

/-- THE SECOND FORM's CARD OF 'fulcrumlaw12.TokensReads'. -/
def tokensReadsUptoCard : Claim7 := { stood := { row := tokensReadsUptoRow, standIns := [], harness := (true, "4b9be61ba2f12b06c95e18cac788ce663b777981eb65b7fc0bfc04e3daae6e80"), looks := false }, kinds := [], alts := [], laidByText := true, laidKinds := [.data, .pinned], laidTests := true, laidLooks := .later }
def TokensReadsUptoCardSaid : Prop := Claim7.holds Tryd.pinned (.plain (OpenSpec.upto tokensReadsSpec)) tokensReadsUptoCard

/-- THE SECOND FORM's CARD OF 'fulcrumlaw12.TokensCuts'. -/
def tokensCutsUptoCard : Claim7 := { stood := { row := tokensCutsUptoRow, standIns := [], harness := (true, "4b9be61ba2f12b06c95e18cac788ce663b777981eb65b7fc0bfc04e3daae6e80"), looks := false }, kinds := [], alts := [], laidByText := true, laidKinds := [.data, .pinned], laidTests := true, laidLooks := .later }
def TokensCutsUptoCardSaid : Prop := Claim7.holds Tryd.pinned (.plain (OpenSpec.upto tokensCutsSpec)) tokensCutsUptoCard
end Rows
end Go.Proofs.YtjbliegkmhoffaaDoor
