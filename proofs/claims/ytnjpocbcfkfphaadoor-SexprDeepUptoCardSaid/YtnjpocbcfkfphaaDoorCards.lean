/-
  DERIVED. GIVEN WITH THE SEED: THE CARDS: each row of YtnjpocbcfkfphaaDoorRows.lean that lists a variable, with what it lists TIED to the program's text (the seventh form; the later family's looks); each row that meets fmt, with fmt's text TOLD by the authors' own Lean function (tested against real Go, not proved from fmt's source: count such statements apart). THE CARD IS WHAT COUNTS. Prove the row's statement (the work); the ties are given (YtnjpocbcfkfphaaDoorTie.lean); close each card by the builder's one call (the guide's Derived/Test/ToyasCard.lean, 'card_holds'). Laid BY PROGRAM, IN A SANDBOX (cutbox-door.mjs). By AI agents, Wed Nov 11 2026. No macro, syntax, notation, axiom, sorry.
-/
import Derived.Test.YtnjpocbcfkfphaaDoorRows
import GoSem.ClaimSeven
namespace Go.Proofs.YtnjpocbcfkfphaaDoor
namespace Rows

/-- THE TIED CARD OF 'fulcrumlaw13.SexprReads'. -/
def sexprReadsCard : Claim7 := { stood := { row := sexprReadsRow, standIns := [], harness := (true, "f7fccab06ac12e27384e4956be55837c866b31de6a3e9dad67c540eaaf1bc2b6"), looks := true }, kinds := [], alts := [], laidByText := true, laidKinds := [.data, .pinned], laidTests := true, laidLooks := .later }
def SexprReadsCardSaid : Prop := Claim7.holds Tryd.pinned (.plain (OpenSpec.ofChange sexprReadsSpec)) sexprReadsCard

/-- THE TIED CARD OF 'fulcrumlaw13.SexprDeep'. -/
def sexprDeepCard : Claim7 := { stood := { row := sexprDeepRow, standIns := [], harness := (true, "f7fccab06ac12e27384e4956be55837c866b31de6a3e9dad67c540eaaf1bc2b6"), looks := true }, kinds := [], alts := [], laidByText := true, laidKinds := [.data, .pinned], laidTests := true, laidLooks := .later }
def SexprDeepCardSaid : Prop := Claim7.holds Tryd.pinned (.plain (OpenSpec.ofChange sexprDeepSpec)) sexprDeepCard

/-- THE TIED CARD OF 'fulcrumlaw13.SexprBack'. -/
def sexprBackCard : Claim7 := { stood := { row := sexprBackRow, standIns := [], harness := (true, "f7fccab06ac12e27384e4956be55837c866b31de6a3e9dad67c540eaaf1bc2b6"), looks := true }, kinds := [], alts := [], laidByText := true, laidKinds := [.data, .pinned], laidTests := true, laidLooks := .later }
def SexprBackCardSaid : Prop := Claim7.holds Tryd.pinned (.plain (OpenSpec.ofChange sexprBackSpec)) sexprBackCard

/-- THE TIED CARD OF 'fulcrumlaw13.SexprAgain'. -/
def sexprAgainCard : Claim7 := { stood := { row := sexprAgainRow, standIns := [], harness := (true, "f7fccab06ac12e27384e4956be55837c866b31de6a3e9dad67c540eaaf1bc2b6"), looks := true }, kinds := [], alts := [], laidByText := true, laidKinds := [.data, .pinned], laidTests := true, laidLooks := .later }
def SexprAgainCardSaid : Prop := Claim7.holds Tryd.pinned (.plain (OpenSpec.ofChange sexprAgainSpec)) sexprAgainCard

/-- THE SECOND FORM's CARD OF 'fulcrumlaw13.SexprReads'. -/
def sexprReadsUptoCard : Claim7 := { stood := { row := sexprReadsUptoRow, standIns := [], harness := (true, "f7fccab06ac12e27384e4956be55837c866b31de6a3e9dad67c540eaaf1bc2b6"), looks := true }, kinds := [], alts := [], laidByText := true, laidKinds := [.data, .pinned], laidTests := true, laidLooks := .later }
def SexprReadsUptoCardSaid : Prop := Claim7.holds Tryd.pinned (.plain (OpenSpec.upto sexprReadsSpec)) sexprReadsUptoCard

/-- THE SECOND FORM's CARD OF 'fulcrumlaw13.SexprDeep'. -/
def sexprDeepUptoCard : Claim7 := { stood := { row := sexprDeepUptoRow, standIns := [], harness := (true, "f7fccab06ac12e27384e4956be55837c866b31de6a3e9dad67c540eaaf1bc2b6"), looks := true }, kinds := [], alts := [], laidByText := true, laidKinds := [.data, .pinned], laidTests := true, laidLooks := .later }
def SexprDeepUptoCardSaid : Prop := Claim7.holds Tryd.pinned (.plain (OpenSpec.upto sexprDeepSpec)) sexprDeepUptoCard

/-- THE SECOND FORM's CARD OF 'fulcrumlaw13.SexprBack'. -/
def sexprBackUptoCard : Claim7 := { stood := { row := sexprBackUptoRow, standIns := [], harness := (true, "f7fccab06ac12e27384e4956be55837c866b31de6a3e9dad67c540eaaf1bc2b6"), looks := true }, kinds := [], alts := [], laidByText := true, laidKinds := [.data, .pinned], laidTests := true, laidLooks := .later }
def SexprBackUptoCardSaid : Prop := Claim7.holds Tryd.pinned (.plain (OpenSpec.upto sexprBackSpec)) sexprBackUptoCard

/-- THE SECOND FORM's CARD OF 'fulcrumlaw13.SexprAgain'. -/
def sexprAgainUptoCard : Claim7 := { stood := { row := sexprAgainUptoRow, standIns := [], harness := (true, "f7fccab06ac12e27384e4956be55837c866b31de6a3e9dad67c540eaaf1bc2b6"), looks := true }, kinds := [], alts := [], laidByText := true, laidKinds := [.data, .pinned], laidTests := true, laidLooks := .later }
def SexprAgainUptoCardSaid : Prop := Claim7.holds Tryd.pinned (.plain (OpenSpec.upto sexprAgainSpec)) sexprAgainUptoCard
end Rows
end Go.Proofs.YtnjpocbcfkfphaaDoor
