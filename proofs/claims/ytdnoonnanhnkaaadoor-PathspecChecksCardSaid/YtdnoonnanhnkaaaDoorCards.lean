/-
  DERIVED. GIVEN WITH THE SEED: THE CARDS: each row of YtdnoonnanhnkaaaDoorRows.lean that lists a variable, with what it lists TIED to the program's text (the seventh form; the later family's looks); each row that meets fmt, with fmt's text TOLD by the authors' own Lean function (tested against real Go, not proved from fmt's source: count such statements apart). THE CARD IS WHAT COUNTS. Prove the row's statement (the work); the ties are given (YtdnoonnanhnkaaaDoorTie.lean); close each card by the builder's one call (the guide's Derived/Test/ToyasCard.lean, 'card_holds'). Laid BY PROGRAM, IN A SANDBOX (cutbox-door.mjs). By AI agents, Wed Nov 11 2026. No macro, syntax, notation, axiom, sorry.
-/
import Derived.Test.YtdnoonnanhnkaaaDoorRows
import GoSem.ClaimSeven
namespace Go.Proofs.YtdnoonnanhnkaaaDoor
namespace Rows

/-- THE TIED CARD OF 'accesscontrollaw33.PathspecChecks'. -/
def pathspecChecksCard : Claim7 := { stood := { row := pathspecChecksRow, standIns := [], harness := (true, "63c0d30bbbbf2513aad707b57c61064fda866863a4dda124339a99c349296c28"), looks := true }, kinds := [], alts := [], laidByText := true, laidKinds := [.data, .pinned], laidTests := true, laidLooks := .later }
def PathspecChecksCardSaid : Prop := Claim7.holds Tryd.pinned (.plain (OpenSpec.ofChange pathspecChecksSpec)) pathspecChecksCard

/-- THE TIED CARD OF 'accesscontrollaw33.PathspecMatch'. -/
def pathspecMatchCard : Claim7 := { stood := { row := pathspecMatchRow, standIns := [], harness := (true, "63c0d30bbbbf2513aad707b57c61064fda866863a4dda124339a99c349296c28"), looks := true }, kinds := [], alts := [], laidByText := true, laidKinds := [.data, .pinned], laidTests := true, laidLooks := .later }
def PathspecMatchCardSaid : Prop := Claim7.holds Tryd.pinned (.plain (OpenSpec.ofChange pathspecMatchSpec)) pathspecMatchCard

/-- THE TIED CARD OF 'accesscontrollaw33.PathspecLess'. -/
def pathspecLessCard : Claim7 := { stood := { row := pathspecLessRow, standIns := [], harness := (true, "63c0d30bbbbf2513aad707b57c61064fda866863a4dda124339a99c349296c28"), looks := true }, kinds := [], alts := [], laidByText := true, laidKinds := [.data, .pinned], laidTests := true, laidLooks := .later }
def PathspecLessCardSaid : Prop := Claim7.holds Tryd.pinned (.plain (OpenSpec.ofChange pathspecLessSpec)) pathspecLessCard

/-- THE TIED CARD OF 'accesscontrollaw33.PathspecLookup'. -/
def pathspecLookupCard : Claim7 := { stood := { row := pathspecLookupRow, standIns := [], harness := (true, "63c0d30bbbbf2513aad707b57c61064fda866863a4dda124339a99c349296c28"), looks := true }, kinds := [], alts := [], laidByText := true, laidKinds := [.data, .pinned], laidTests := true, laidLooks := .later }
def PathspecLookupCardSaid : Prop := Claim7.holds Tryd.pinned (.plain (OpenSpec.ofChange pathspecLookupSpec)) pathspecLookupCard

/-- THE TIED CARD OF 'accesscontrollaw33.PathspecOverlap'. -/
def pathspecOverlapCard : Claim7 := { stood := { row := pathspecOverlapRow, standIns := [], harness := (true, "63c0d30bbbbf2513aad707b57c61064fda866863a4dda124339a99c349296c28"), looks := true }, kinds := [], alts := [], laidByText := true, laidKinds := [.data, .pinned], laidTests := true, laidLooks := .later }
def PathspecOverlapCardSaid : Prop := Claim7.holds Tryd.pinned (.plain (OpenSpec.ofChange pathspecOverlapSpec)) pathspecOverlapCard

/-- THE TIED CARD OF 'accesscontrollaw33.PathspecLiteral'. -/
def pathspecLiteralCard : Claim7 := { stood := { row := pathspecLiteralRow, standIns := [], harness := (true, "63c0d30bbbbf2513aad707b57c61064fda866863a4dda124339a99c349296c28"), looks := true }, kinds := [], alts := [], laidByText := true, laidKinds := [.data, .pinned], laidTests := true, laidLooks := .later }
def PathspecLiteralCardSaid : Prop := Claim7.holds Tryd.pinned (.plain (OpenSpec.ofChange pathspecLiteralSpec)) pathspecLiteralCard

/-- THE TIED CARD OF 'accesscontrollaw33.PathspecStems'. -/
def pathspecStemsCard : Claim7 := { stood := { row := pathspecStemsRow, standIns := [], harness := (true, "63c0d30bbbbf2513aad707b57c61064fda866863a4dda124339a99c349296c28"), looks := true }, kinds := [], alts := [], laidByText := true, laidKinds := [.data, .pinned], laidTests := true, laidLooks := .later }
def PathspecStemsCardSaid : Prop := Claim7.holds Tryd.pinned (.plain (OpenSpec.ofChange pathspecStemsSpec)) pathspecStemsCard

/-- THE SECOND FORM's CARD OF 'accesscontrollaw33.PathspecChecks'. -/
def pathspecChecksUptoCard : Claim7 := { stood := { row := pathspecChecksUptoRow, standIns := [], harness := (true, "63c0d30bbbbf2513aad707b57c61064fda866863a4dda124339a99c349296c28"), looks := true }, kinds := [], alts := [], laidByText := true, laidKinds := [.data, .pinned], laidTests := true, laidLooks := .later }
def PathspecChecksUptoCardSaid : Prop := Claim7.holds Tryd.pinned (.plain (OpenSpec.upto pathspecChecksSpec)) pathspecChecksUptoCard

/-- THE SECOND FORM's CARD OF 'accesscontrollaw33.PathspecMatch'. -/
def pathspecMatchUptoCard : Claim7 := { stood := { row := pathspecMatchUptoRow, standIns := [], harness := (true, "63c0d30bbbbf2513aad707b57c61064fda866863a4dda124339a99c349296c28"), looks := true }, kinds := [], alts := [], laidByText := true, laidKinds := [.data, .pinned], laidTests := true, laidLooks := .later }
def PathspecMatchUptoCardSaid : Prop := Claim7.holds Tryd.pinned (.plain (OpenSpec.upto pathspecMatchSpec)) pathspecMatchUptoCard

/-- THE SECOND FORM's CARD OF 'accesscontrollaw33.PathspecLess'. -/
def pathspecLessUptoCard : Claim7 := { stood := { row := pathspecLessUptoRow, standIns := [], harness := (true, "63c0d30bbbbf2513aad707b57c61064fda866863a4dda124339a99c349296c28"), looks := true }, kinds := [], alts := [], laidByText := true, laidKinds := [.data, .pinned], laidTests := true, laidLooks := .later }
def PathspecLessUptoCardSaid : Prop := Claim7.holds Tryd.pinned (.plain (OpenSpec.upto pathspecLessSpec)) pathspecLessUptoCard

/-- THE SECOND FORM's CARD OF 'accesscontrollaw33.PathspecLookup'. -/
def pathspecLookupUptoCard : Claim7 := { stood := { row := pathspecLookupUptoRow, standIns := [], harness := (true, "63c0d30bbbbf2513aad707b57c61064fda866863a4dda124339a99c349296c28"), looks := true }, kinds := [], alts := [], laidByText := true, laidKinds := [.data, .pinned], laidTests := true, laidLooks := .later }
def PathspecLookupUptoCardSaid : Prop := Claim7.holds Tryd.pinned (.plain (OpenSpec.upto pathspecLookupSpec)) pathspecLookupUptoCard

/-- THE SECOND FORM's CARD OF 'accesscontrollaw33.PathspecOverlap'. -/
def pathspecOverlapUptoCard : Claim7 := { stood := { row := pathspecOverlapUptoRow, standIns := [], harness := (true, "63c0d30bbbbf2513aad707b57c61064fda866863a4dda124339a99c349296c28"), looks := true }, kinds := [], alts := [], laidByText := true, laidKinds := [.data, .pinned], laidTests := true, laidLooks := .later }
def PathspecOverlapUptoCardSaid : Prop := Claim7.holds Tryd.pinned (.plain (OpenSpec.upto pathspecOverlapSpec)) pathspecOverlapUptoCard

/-- THE SECOND FORM's CARD OF 'accesscontrollaw33.PathspecLiteral'. -/
def pathspecLiteralUptoCard : Claim7 := { stood := { row := pathspecLiteralUptoRow, standIns := [], harness := (true, "63c0d30bbbbf2513aad707b57c61064fda866863a4dda124339a99c349296c28"), looks := true }, kinds := [], alts := [], laidByText := true, laidKinds := [.data, .pinned], laidTests := true, laidLooks := .later }
def PathspecLiteralUptoCardSaid : Prop := Claim7.holds Tryd.pinned (.plain (OpenSpec.upto pathspecLiteralSpec)) pathspecLiteralUptoCard

/-- THE SECOND FORM's CARD OF 'accesscontrollaw33.PathspecStems'. -/
def pathspecStemsUptoCard : Claim7 := { stood := { row := pathspecStemsUptoRow, standIns := [], harness := (true, "63c0d30bbbbf2513aad707b57c61064fda866863a4dda124339a99c349296c28"), looks := true }, kinds := [], alts := [], laidByText := true, laidKinds := [.data, .pinned], laidTests := true, laidLooks := .later }
def PathspecStemsUptoCardSaid : Prop := Claim7.holds Tryd.pinned (.plain (OpenSpec.upto pathspecStemsSpec)) pathspecStemsUptoCard
end Rows
end Go.Proofs.YtdnoonnanhnkaaaDoor
