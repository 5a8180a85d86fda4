/-
  DERIVED. GIVEN WITH THE SEED: THE CARDS: each row of YthpccimmmfonjaaGreatDoorRows.lean that lists a variable, with what it lists TIED to the program's text (the seventh form; the later family's looks); each row that meets fmt, with fmt's text TOLD by the authors' own Lean function (tested against real Go, not proved from fmt's source: count such statements apart). THE CARD IS WHAT COUNTS. Prove the row's statement (the work); the ties are given (YthpccimmmfonjaaGreatDoorTie.lean); close each card by the builder's one call (the guide's Derived/Test/ToyasCard.lean, 'card_holds'). Laid BY PROGRAM, IN A SANDBOX (cutbox-door.mjs). By AI agents, Wed Nov 11 2026. No macro, syntax, notation, axiom, sorry.
-/
import Derived.Test.YthpccimmmfonjaaGreatDoorRows
import GoSem.ClaimSeven
namespace Go.Proofs.YthpccimmmfonjaaGreatDoor
namespace Rows

/-- THE TIED CARD OF 'accesscontrollaw19.ContextChecks'. -/
def contextChecksCard : Claim7 := { stood := { row := contextChecksRow, standIns := [], harness := (true, "19a5c59ec111c318ae08ce62fb94806e990eb89269493426f8dcf9ff68f67104"), looks := false }, kinds := [], alts := [], laidByText := true, laidKinds := [.data, .pinned], laidTests := true, laidLooks := .later }
def ContextChecksCardSaid : Prop := Claim7.holds Tryz.pinned (.plain (OpenSpec.ofChange contextChecksSpec)) contextChecksCard

/-- THE TIED CARD OF 'accesscontrollaw19.ContextTexts'. -/
def contextTextsCard : Claim7 := { stood := { row := contextTextsRow, standIns := [], harness := (true, "19a5c59ec111c318ae08ce62fb94806e990eb89269493426f8dcf9ff68f67104"), looks := false }, kinds := [], alts := [], laidByText := true, laidKinds := [.data, .pinned], laidTests := true, laidLooks := .later }
def ContextTextsCardSaid : Prop := Claim7.holds Tryz.pinned (.plain (OpenSpec.ofChange contextTextsSpec)) contextTextsCard

/-- THE TIED CARD OF 'accesscontrollaw19.ContextRoundTrip'. -/
def contextRoundTripCard : Claim7 := { stood := { row := contextRoundTripRow, standIns := [], harness := (true, "19a5c59ec111c318ae08ce62fb94806e990eb89269493426f8dcf9ff68f67104"), looks := false }, kinds := [], alts := [], laidByText := true, laidKinds := [.data, .pinned], laidTests := true, laidLooks := .later }
def ContextRoundTripCardSaid : Prop := Claim7.holds Tryz.pinned (.plain (OpenSpec.ofChange contextRoundTripSpec)) contextRoundTripCard

/-- THE TIED CARD OF 'accesscontrollaw19.ContextLists'. -/
def contextListsCard : Claim7 := { stood := { row := contextListsRow, standIns := [], harness := (true, "19a5c59ec111c318ae08ce62fb94806e990eb89269493426f8dcf9ff68f67104"), looks := false }, kinds := [], alts := [], laidByText := true, laidKinds := [.data, .pinned], laidTests := true, laidLooks := .later }
def ContextListsCardSaid : Prop := Claim7.holds Tryz.pinned (.plain (OpenSpec.ofChange contextListsSpec)) contextListsCard

/-- THE TIED CARD OF 'accesscontrollaw19.ContextRanges'. -/
def contextRangesCard : Claim7 := { stood := { row := contextRangesRow, standIns := [], harness := (true, "19a5c59ec111c318ae08ce62fb94806e990eb89269493426f8dcf9ff68f67104"), looks := false }, kinds := [], alts := [], laidByText := true, laidKinds := [.data, .pinned], laidTests := true, laidLooks := .later }
def ContextRangesCardSaid : Prop := Claim7.holds Tryz.pinned (.plain (OpenSpec.ofChange contextRangesSpec)) contextRangesCard

/-- THE TIED CARD OF 'accesscontrollaw19.ContextWider'. -/
def contextWiderCard : Claim7 := { stood := { row := contextWiderRow, standIns := [], harness := (true, "19a5c59ec111c318ae08ce62fb94806e990eb89269493426f8dcf9ff68f67104"), looks := false }, kinds := [], alts := [], laidByText := true, laidKinds := [.data, .pinned], laidTests := true, laidLooks := .later }
def ContextWiderCardSaid : Prop := Claim7.holds Tryz.pinned (.plain (OpenSpec.ofChange contextWiderSpec)) contextWiderCard

/-- THE TIED CARD OF 'accesscontrollaw19.ContextMoves'. -/
def contextMovesCard : Claim7 := { stood := { row := contextMovesRow, standIns := [], harness := (true, "19a5c59ec111c318ae08ce62fb94806e990eb89269493426f8dcf9ff68f67104"), looks := false }, kinds := [], alts := [], laidByText := true, laidKinds := [.data, .pinned], laidTests := true, laidLooks := .later }
def ContextMovesCardSaid : Prop := Claim7.holds Tryz.pinned (.plain (OpenSpec.ofChange contextMovesSpec)) contextMovesCard

/-- THE TIED CARD OF 'accesscontrollaw19.ContextStays'. -/
def contextStaysCard : Claim7 := { stood := { row := contextStaysRow, standIns := [], harness := (true, "19a5c59ec111c318ae08ce62fb94806e990eb89269493426f8dcf9ff68f67104"), looks := false }, kinds := [], alts := [], laidByText := true, laidKinds := [.data, .pinned], laidTests := true, laidLooks := .later }
def ContextStaysCardSaid : Prop := Claim7.holds Tryz.pinned (.plain (OpenSpec.ofChange contextStaysSpec)) contextStaysCard

/-- THE SECOND FORM's CARD OF 'accesscontrollaw19.ContextChecks'. -/
def contextChecksUptoCard : Claim7 := { stood := { row := contextChecksUptoRow, standIns := [], harness := (true, "19a5c59ec111c318ae08ce62fb94806e990eb89269493426f8dcf9ff68f67104"), looks := false }, kinds := [], alts := [], laidByText := true, laidKinds := [.data, .pinned], laidTests := true, laidLooks := .later }
def ContextChecksUptoCardSaid : Prop := Claim7.holds Tryz.pinned (.plain (OpenSpec.upto contextChecksSpec)) contextChecksUptoCard

/-- THE SECOND FORM's CARD OF 'accesscontrollaw19.ContextTexts'. -/
def contextTextsUptoCard : Claim7 := { stood := { row := contextTextsUptoRow, standIns := [], harness := (true, "19a5c59ec111c318ae08ce62fb94806e990eb89269493426f8dcf9ff68f67104"), looks := false }, kinds := [], alts := [], laidByText := true, laidKinds := [.data, .pinned], laidTests := true, laidLooks := .later }
def ContextTextsUptoCardSaid : Prop := Claim7.holds Tryz.pinned (.plain (OpenSpec.upto contextTextsSpec)) contextTextsUptoCard

/-- THE SECOND FORM's CARD OF 'accesscontrollaw19.ContextRoundTrip'. -/
def contextRoundTripUptoCard : Claim7 := { stood := { row := contextRoundTripUptoRow, standIns := [], harness := (true, "19a5c59ec111c318ae08ce62fb94806e990eb89269493426f8dcf9ff68f67104"), looks := false }, kinds := [], alts := [], laidByText := true, laidKinds := [.data, .pinned], laidTests := true, laidLooks := .later }
def ContextRoundTripUptoCardSaid : Prop := Claim7.holds Tryz.pinned (.plain (OpenSpec.upto contextRoundTripSpec)) contextRoundTripUptoCard

/-- THE SECOND FORM's CARD OF 'accesscontrollaw19.ContextLists'. -/
def contextListsUptoCard : Claim7 := { stood := { row := contextListsUptoRow, standIns := [], harness := (true, "19a5c59ec111c318ae08ce62fb94806e990eb89269493426f8dcf9ff68f67104"), looks := false }, kinds := [], alts := [], laidByText := true, laidKinds := [.data, .pinned], laidTests := true, laidLooks := .later }
def ContextListsUptoCardSaid : Prop := Claim7.holds Tryz.pinned (.plain (OpenSpec.upto contextListsSpec)) contextListsUptoCard

/-- THE SECOND FORM's CARD OF 'accesscontrollaw19.ContextRanges'. -/
def contextRangesUptoCard : Claim7 := { stood := { row := contextRangesUptoRow, standIns := [], harness := (true, "19a5c59ec111c318ae08ce62fb94806e990eb89269493426f8dcf9ff68f67104"), looks := false }, kinds := [], alts := [], laidByText := true, laidKinds := [.data, .pinned], laidTests := true, laidLooks := .later }
def ContextRangesUptoCardSaid : Prop := Claim7.holds Tryz.pinned (.plain (OpenSpec.upto contextRangesSpec)) contextRangesUptoCard

/-- THE SECOND FORM's CARD OF 'accesscontrollaw19.ContextWider'. -/
def contextWiderUptoCard : Claim7 := { stood := { row := contextWiderUptoRow, standIns := [], harness := (true, "19a5c59ec111c318ae08ce62fb94806e990eb89269493426f8dcf9ff68f67104"), looks := false }, kinds := [], alts := [], laidByText := true, laidKinds := [.data, .pinned], laidTests := true, laidLooks := .later }
def ContextWiderUptoCardSaid : Prop := Claim7.holds Tryz.pinned (.plain (OpenSpec.upto contextWiderSpec)) contextWiderUptoCard

/-- THE SECOND FORM's CARD OF 'accesscontrollaw19.ContextMoves'. -/
def contextMovesUptoCard : Claim7 := { stood := { row := contextMovesUptoRow, standIns := [], harness := (true, "19a5c59ec111c318ae08ce62fb94806e990eb89269493426f8dcf9ff68f67104"), looks := false }, kinds := [], alts := [], laidByText := true, laidKinds := [.data, .pinned], laidTests := true, laidLooks := .later }
def ContextMovesUptoCardSaid : Prop := Claim7.holds Tryz.pinned (.plain (OpenSpec.upto contextMovesSpec)) contextMovesUptoCard

/-- THE SECOND FORM's CARD OF 'accesscontrollaw19.ContextStays'. -/
def contextStaysUptoCard : Claim7 := { stood := { row := contextStaysUptoRow, standIns := [], harness := (true, "19a5c59ec111c318ae08ce62fb94806e990eb89269493426f8dcf9ff68f67104"), looks := false }, kinds := [], alts := [], laidByText := true, laidKinds := [.data, .pinned], laidTests := true, laidLooks := .later }
def ContextStaysUptoCardSaid : Prop := Claim7.holds Tryz.pinned (.plain (OpenSpec.upto contextStaysSpec)) contextStaysUptoCard
end Rows
end Go.Proofs.YthpccimmmfonjaaGreatDoor
