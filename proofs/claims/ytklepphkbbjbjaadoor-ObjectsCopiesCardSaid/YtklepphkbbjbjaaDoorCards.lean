/-
  DERIVED. GIVEN WITH THE SEED: THE CARDS: each row of YtklepphkbbjbjaaDoorRows.lean that lists a variable, with what it lists TIED to the program's text (the seventh form; the later family's looks); each row that meets fmt, with fmt's text TOLD by the authors' own Lean function (tested against real Go, not proved from fmt's source: count such statements apart). THE CARD IS WHAT COUNTS. Prove the row's statement (the work); the ties are given (YtklepphkbbjbjaaDoorTie.lean); close each card by the builder's one call (the guide's Derived/Test/ToyasCard.lean, 'card_holds'). Laid BY PROGRAM, IN A SANDBOX (cutbox-door.mjs). By AI agents, Wed Nov 11 2026. No macro, syntax, notation, axiom, sorry.
-/
import Derived.Test.YtklepphkbbjbjaaDoorRows
import GoSem.ClaimSeven
namespace Go.Proofs.YtklepphkbbjbjaaDoor
namespace Rows

/-- THE TIED CARD OF 'accesscontrollaw34.ObjectsFull'. -/
def objectsFullCard : Claim7 := { stood := { row := objectsFullRow, standIns := [], harness := (true, "f2e2bf2fcbbe98dea13a3408b9ae1d6fb8bf2a7dc2cbe5cfcec5131de8604b45"), looks := true }, kinds := [], alts := [], laidByText := true, laidKinds := [.data, .pinned], laidTests := true, laidLooks := .later }
def ObjectsFullCardSaid : Prop := Claim7.holds Tryd.pinned (.plain (OpenSpec.ofChange objectsFullSpec)) objectsFullCard

/-- THE TIED CARD OF 'accesscontrollaw34.ObjectsFinds'. -/
def objectsFindsCard : Claim7 := { stood := { row := objectsFindsRow, standIns := [], harness := (true, "f2e2bf2fcbbe98dea13a3408b9ae1d6fb8bf2a7dc2cbe5cfcec5131de8604b45"), looks := true }, kinds := [], alts := [], laidByText := true, laidKinds := [.data, .pinned], laidTests := true, laidLooks := .later }
def ObjectsFindsCardSaid : Prop := Claim7.holds Tryd.pinned (.plain (OpenSpec.ofChange objectsFindsSpec)) objectsFindsCard

/-- THE TIED CARD OF 'accesscontrollaw34.ObjectsOrder'. -/
def objectsOrderCard : Claim7 := { stood := { row := objectsOrderRow, standIns := [], harness := (true, "f2e2bf2fcbbe98dea13a3408b9ae1d6fb8bf2a7dc2cbe5cfcec5131de8604b45"), looks := true }, kinds := [], alts := [], laidByText := true, laidKinds := [.data, .pinned], laidTests := true, laidLooks := .later }
def ObjectsOrderCardSaid : Prop := Claim7.holds Tryd.pinned (.plain (OpenSpec.ofChange objectsOrderSpec)) objectsOrderCard

/-- THE TIED CARD OF 'accesscontrollaw34.ObjectsModel'. -/
def objectsModelCard : Claim7 := { stood := { row := objectsModelRow, standIns := [], harness := (true, "f2e2bf2fcbbe98dea13a3408b9ae1d6fb8bf2a7dc2cbe5cfcec5131de8604b45"), looks := true }, kinds := [], alts := [], laidByText := true, laidKinds := [.data, .pinned], laidTests := true, laidLooks := .later }
def ObjectsModelCardSaid : Prop := Claim7.holds Tryd.pinned (.plain (OpenSpec.ofChange objectsModelSpec)) objectsModelCard

/-- THE TIED CARD OF 'accesscontrollaw34.ObjectsCopies'. -/
def objectsCopiesCard : Claim7 := { stood := { row := objectsCopiesRow, standIns := [], harness := (true, "f2e2bf2fcbbe98dea13a3408b9ae1d6fb8bf2a7dc2cbe5cfcec5131de8604b45"), looks := true }, kinds := [], alts := [], laidByText := true, laidKinds := [.data, .pinned], laidTests := true, laidLooks := .later }
def ObjectsCopiesCardSaid : Prop := Claim7.holds Tryd.pinned (.plain (OpenSpec.ofChange objectsCopiesSpec)) objectsCopiesCard

/-- THE TIED CARD OF 'accesscontrollaw34.ObjectsNil'. -/
def objectsNilCard : Claim7 := { stood := { row := objectsNilRow, standIns := [], harness := (true, "f2e2bf2fcbbe98dea13a3408b9ae1d6fb8bf2a7dc2cbe5cfcec5131de8604b45"), looks := true }, kinds := [], alts := [], laidByText := true, laidKinds := [.data, .pinned], laidTests := true, laidLooks := .later }
def ObjectsNilCardSaid : Prop := Claim7.holds Tryd.pinned (.plain (OpenSpec.ofChange objectsNilSpec)) objectsNilCard

/-- THE SECOND FORM's CARD OF 'accesscontrollaw34.ObjectsFull'. -/
def objectsFullUptoCard : Claim7 := { stood := { row := objectsFullUptoRow, standIns := [], harness := (true, "f2e2bf2fcbbe98dea13a3408b9ae1d6fb8bf2a7dc2cbe5cfcec5131de8604b45"), looks := true }, kinds := [], alts := [], laidByText := true, laidKinds := [.data, .pinned], laidTests := true, laidLooks := .later }
def ObjectsFullUptoCardSaid : Prop := Claim7.holds Tryd.pinned (.plain (OpenSpec.upto objectsFullSpec)) objectsFullUptoCard

/-- THE SECOND FORM's CARD OF 'accesscontrollaw34.ObjectsFinds'. -/
def objectsFindsUptoCard : Claim7 := { stood := { row := objectsFindsUptoRow, standIns := [], harness := (true, "f2e2bf2fcbbe98dea13a3408b9ae1d6fb8bf2a7dc2cbe5cfcec5131de8604b45"), looks := true }, kinds := [], alts := [], laidByText := true, laidKinds := [.data, .pinned], laidTests := true, laidLooks := .later }
def ObjectsFindsUptoCardSaid : Prop := Claim7.holds Tryd.pinned (.plain (OpenSpec.upto objectsFindsSpec)) objectsFindsUptoCard

/-- THE SECOND FORM's CARD OF 'accesscontrollaw34.ObjectsOrder'. -/
def objectsOrderUptoCard : Claim7 := { stood := { row := objectsOrderUptoRow, standIns := [], harness := (true, "f2e2bf2fcbbe98dea13a3408b9ae1d6fb8bf2a7dc2cbe5cfcec5131de8604b45"), looks := true }, kinds := [], alts := [], laidByText := true, laidKinds := [.data, .pinned], laidTests := true, laidLooks := .later }
def ObjectsOrderUptoCardSaid : Prop := Claim7.holds Tryd.pinned (.plain (OpenSpec.upto objectsOrderSpec)) objectsOrderUptoCard

/-- THE SECOND FORM's CARD OF 'accesscontrollaw34.ObjectsModel'. -/
def objectsModelUptoCard : Claim7 := { stood := { row := objectsModelUptoRow, standIns := [], harness := (true, "f2e2bf2fcbbe98dea13a3408b9ae1d6fb8bf2a7dc2cbe5cfcec5131de8604b45"), looks := true }, kinds := [], alts := [], laidByText := true, laidKinds := [.data, .pinned], laidTests := true, laidLooks := .later }
def ObjectsModelUptoCardSaid : Prop := Claim7.holds Tryd.pinned (.plain (OpenSpec.upto objectsModelSpec)) objectsModelUptoCard

/-- THE SECOND FORM's CARD OF 'accesscontrollaw34.ObjectsCopies'. -/
def objectsCopiesUptoCard : Claim7 := { stood := { row := objectsCopiesUptoRow, standIns := [], harness := (true, "f2e2bf2fcbbe98dea13a3408b9ae1d6fb8bf2a7dc2cbe5cfcec5131de8604b45"), looks := true }, kinds := [], alts := [], laidByText := true, laidKinds := [.data, .pinned], laidTests := true, laidLooks := .later }
def ObjectsCopiesUptoCardSaid : Prop := Claim7.holds Tryd.pinned (.plain (OpenSpec.upto objectsCopiesSpec)) objectsCopiesUptoCard

/-- THE SECOND FORM's CARD OF 'accesscontrollaw34.ObjectsNil'. -/
def objectsNilUptoCard : Claim7 := { stood := { row := objectsNilUptoRow, standIns := [], harness := (true, "f2e2bf2fcbbe98dea13a3408b9ae1d6fb8bf2a7dc2cbe5cfcec5131de8604b45"), looks := true }, kinds := [], alts := [], laidByText := true, laidKinds := [.data, .pinned], laidTests := true, laidLooks := .later }
def ObjectsNilUptoCardSaid : Prop := Claim7.holds Tryd.pinned (.plain (OpenSpec.upto objectsNilSpec)) objectsNilUptoCard
end Rows
end Go.Proofs.YtklepphkbbjbjaaDoor
