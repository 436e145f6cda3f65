/-
  DERIVED. GIVEN WITH THE SEED: THE CARDS: each row of YtiacmfebhoodnaaDoorRows.lean that lists a variable, with what it lists TIED to the program's text (the seventh form; the later family's looks); each row that meets fmt, with fmt's text TOLD by the authors' own Lean function (tested against real Go, not proved from fmt's source: count such statements apart). THE CARD IS WHAT COUNTS. Prove the row's statement (the work); the ties are given (YtiacmfebhoodnaaDoorTie.lean); close each card by the builder's one call (the guide's Derived/Test/ToyasCard.lean, 'card_holds'). Laid BY PROGRAM, IN A SANDBOX (cutbox-door.mjs). By AI agents, Wed Nov 11 2026. No macro, syntax, notation, axiom, sorry.
-/
import Derived.Test.YtiacmfebhoodnaaDoorRows
import GoSem.ClaimSeven
namespace Go.Proofs.YtiacmfebhoodnaaDoor
namespace Rows

/-- THE TIED CARD OF 'fulcrumlaw03.RatioReads'. -/
def ratioReadsCard : Claim7 := { stood := { row := ratioReadsRow, standIns := [], harness := (true, "21bc1191d42605b994e8a2c4b7f9bfc5d482901460d83b37a2a83a461e054ff5"), looks := false }, kinds := [], alts := [], laidByText := true, laidKinds := [.data, .data, .pinned], laidTests := true, laidLooks := .later }
def RatioReadsCardSaid : Prop := Claim7.holds Tryd.pinned (.plain (OpenSpec.ofChange ratioReadsSpec)) ratioReadsCard

/-- THE TIED CARD OF 'fulcrumlaw03.RatioNorms'. -/
def ratioNormsCard : Claim7 := { stood := { row := ratioNormsRow, standIns := [], harness := (true, "21bc1191d42605b994e8a2c4b7f9bfc5d482901460d83b37a2a83a461e054ff5"), looks := false }, kinds := [], alts := [], laidByText := true, laidKinds := [.data, .data, .pinned], laidTests := true, laidLooks := .later }
def RatioNormsCardSaid : Prop := Claim7.holds Tryd.pinned (.plain (OpenSpec.ofChange ratioNormsSpec)) ratioNormsCard

/-- THE TIED CARD OF 'fulcrumlaw03.RatioTexts'. -/
def ratioTextsCard : Claim7 := { stood := { row := ratioTextsRow, standIns := [], harness := (true, "21bc1191d42605b994e8a2c4b7f9bfc5d482901460d83b37a2a83a461e054ff5"), looks := false }, kinds := [], alts := [], laidByText := true, laidKinds := [.data, .data, .pinned], laidTests := true, laidLooks := .later }
def RatioTextsCardSaid : Prop := Claim7.holds Tryd.pinned (.plain (OpenSpec.ofChange ratioTextsSpec)) ratioTextsCard

/-- THE TIED CARD OF 'fulcrumlaw03.RatioFloors'. -/
def ratioFloorsCard : Claim7 := { stood := { row := ratioFloorsRow, standIns := [], harness := (true, "21bc1191d42605b994e8a2c4b7f9bfc5d482901460d83b37a2a83a461e054ff5"), looks := false }, kinds := [], alts := [], laidByText := true, laidKinds := [.data, .data, .pinned], laidTests := true, laidLooks := .later }
def RatioFloorsCardSaid : Prop := Claim7.holds Tryd.pinned (.plain (OpenSpec.ofChange ratioFloorsSpec)) ratioFloorsCard

/-- THE TIED CARD OF 'fulcrumlaw03.RatioField'. -/
def ratioFieldCard : Claim7 := { stood := { row := ratioFieldRow, standIns := [], harness := (true, "21bc1191d42605b994e8a2c4b7f9bfc5d482901460d83b37a2a83a461e054ff5"), looks := false }, kinds := [], alts := [], laidByText := true, laidKinds := [.data, .data, .pinned], laidTests := true, laidLooks := .later }
def RatioFieldCardSaid : Prop := Claim7.holds Tryd.pinned (.plain (OpenSpec.ofChange ratioFieldSpec)) ratioFieldCard

/-- THE SECOND FORM's CARD OF 'fulcrumlaw03.RatioReads'. -/
def ratioReadsUptoCard : Claim7 := { stood := { row := ratioReadsUptoRow, standIns := [], harness := (true, "21bc1191d42605b994e8a2c4b7f9bfc5d482901460d83b37a2a83a461e054ff5"), looks := false }, kinds := [], alts := [], laidByText := true, laidKinds := [.data, .data, .pinned], laidTests := true, laidLooks := .later }
def RatioReadsUptoCardSaid : Prop := Claim7.holds Tryd.pinned (.plain (OpenSpec.upto ratioReadsSpec)) ratioReadsUptoCard

/-- THE SECOND FORM's CARD OF 'fulcrumlaw03.RatioNorms'. -/
def ratioNormsUptoCard : Claim7 := { stood := { row := ratioNormsUptoRow, standIns := [], harness := (true, "21bc1191d42605b994e8a2c4b7f9bfc5d482901460d83b37a2a83a461e054ff5"), looks := false }, kinds := [], alts := [], laidByText := true, laidKinds := [.data, .data, .pinned], laidTests := true, laidLooks := .later }
def RatioNormsUptoCardSaid : Prop := Claim7.holds Tryd.pinned (.plain (OpenSpec.upto ratioNormsSpec)) ratioNormsUptoCard

/-- THE SECOND FORM's CARD OF 'fulcrumlaw03.RatioTexts'. -/
def ratioTextsUptoCard : Claim7 := { stood := { row := ratioTextsUptoRow, standIns := [], harness := (true, "21bc1191d42605b994e8a2c4b7f9bfc5d482901460d83b37a2a83a461e054ff5"), looks := false }, kinds := [], alts := [], laidByText := true, laidKinds := [.data, .data, .pinned], laidTests := true, laidLooks := .later }
def RatioTextsUptoCardSaid : Prop := Claim7.holds Tryd.pinned (.plain (OpenSpec.upto ratioTextsSpec)) ratioTextsUptoCard

/-- THE SECOND FORM's CARD OF 'fulcrumlaw03.RatioFloors'. -/
def ratioFloorsUptoCard : Claim7 := { stood := { row := ratioFloorsUptoRow, standIns := [], harness := (true, "21bc1191d42605b994e8a2c4b7f9bfc5d482901460d83b37a2a83a461e054ff5"), looks := false }, kinds := [], alts := [], laidByText := true, laidKinds := [.data, .data, .pinned], laidTests := true, laidLooks := .later }
def RatioFloorsUptoCardSaid : Prop := Claim7.holds Tryd.pinned (.plain (OpenSpec.upto ratioFloorsSpec)) ratioFloorsUptoCard

/-- THE SECOND FORM's CARD OF 'fulcrumlaw03.RatioField'. -/
def ratioFieldUptoCard : Claim7 := { stood := { row := ratioFieldUptoRow, standIns := [], harness := (true, "21bc1191d42605b994e8a2c4b7f9bfc5d482901460d83b37a2a83a461e054ff5"), looks := false }, kinds := [], alts := [], laidByText := true, laidKinds := [.data, .data, .pinned], laidTests := true, laidLooks := .later }
def RatioFieldUptoCardSaid : Prop := Claim7.holds Tryd.pinned (.plain (OpenSpec.upto ratioFieldSpec)) ratioFieldUptoCard
end Rows
end Go.Proofs.YtiacmfebhoodnaaDoor
