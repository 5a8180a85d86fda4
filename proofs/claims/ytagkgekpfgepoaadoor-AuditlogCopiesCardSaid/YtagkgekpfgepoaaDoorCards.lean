/-
  DERIVED. GIVEN WITH THE SEED: THE CARDS: each row of YtagkgekpfgepoaaDoorRows.lean that lists a variable, with what it lists TIED to the program's text (the seventh form; the later family's looks); each row that meets fmt, with fmt's text TOLD by the authors' own Lean function (tested against real Go, not proved from fmt's source: count such statements apart). THE CARD IS WHAT COUNTS. Prove the row's statement (the work); the ties are given (YtagkgekpfgepoaaDoorTie.lean); close each card by the builder's one call (the guide's Derived/Test/ToyasCard.lean, 'card_holds'). Laid BY PROGRAM, IN A SANDBOX (cutbox-door.mjs). By AI agents, Wed Nov 11 2026. No macro, syntax, notation, axiom, sorry.
-/
import Derived.Test.YtagkgekpfgepoaaDoorRows
import GoSem.ClaimSeven
namespace Go.Proofs.YtagkgekpfgepoaaDoor
namespace Rows

/-- THE TIED CARD OF 'accesscontrollaw32.AuditlogCounts'. -/
def auditlogCountsCard : Claim7 := { stood := { row := auditlogCountsRow, standIns := [], harness := (true, "69e1032feeab5f9e7a66e3640c07639c62ed58c5fcf0decb087922a85d84c761"), looks := true }, kinds := [], alts := [], laidByText := true, laidKinds := [.data, .data, .data, .data, .sentinel, .sentinel, .pinned], laidTests := true, laidLooks := .later }
def AuditlogCountsCardSaid : Prop := Claim7.holds Tryd.pinned (.plain (OpenSpec.ofChange auditlogCountsSpec)) auditlogCountsCard

/-- THE TIED CARD OF 'accesscontrollaw32.AuditlogBound'. -/
def auditlogBoundCard : Claim7 := { stood := { row := auditlogBoundRow, standIns := [], harness := (true, "69e1032feeab5f9e7a66e3640c07639c62ed58c5fcf0decb087922a85d84c761"), looks := true }, kinds := [], alts := [], laidByText := true, laidKinds := [.data, .data, .data, .data, .sentinel, .sentinel, .pinned], laidTests := true, laidLooks := .later }
def AuditlogBoundCardSaid : Prop := Claim7.holds Tryd.pinned (.plain (OpenSpec.ofChange auditlogBoundSpec)) auditlogBoundCard

/-- THE TIED CARD OF 'accesscontrollaw32.AuditlogCopies'. -/
def auditlogCopiesCard : Claim7 := { stood := { row := auditlogCopiesRow, standIns := [], harness := (true, "69e1032feeab5f9e7a66e3640c07639c62ed58c5fcf0decb087922a85d84c761"), looks := true }, kinds := [], alts := [], laidByText := true, laidKinds := [.data, .data, .data, .data, .sentinel, .sentinel, .pinned], laidTests := true, laidLooks := .later }
def AuditlogCopiesCardSaid : Prop := Claim7.holds Tryd.pinned (.plain (OpenSpec.ofChange auditlogCopiesSpec)) auditlogCopiesCard

/-- THE TIED CARD OF 'accesscontrollaw32.AuditlogNil'. -/
def auditlogNilCard : Claim7 := { stood := { row := auditlogNilRow, standIns := [], harness := (true, "69e1032feeab5f9e7a66e3640c07639c62ed58c5fcf0decb087922a85d84c761"), looks := true }, kinds := [], alts := [], laidByText := true, laidKinds := [.data, .data, .data, .data, .sentinel, .sentinel, .pinned], laidTests := true, laidLooks := .later }
def AuditlogNilCardSaid : Prop := Claim7.holds Tryd.pinned (.plain (OpenSpec.ofChange auditlogNilSpec)) auditlogNilCard

/-- THE SECOND FORM's CARD OF 'accesscontrollaw32.AuditlogCounts'. -/
def auditlogCountsUptoCard : Claim7 := { stood := { row := auditlogCountsUptoRow, standIns := [], harness := (true, "69e1032feeab5f9e7a66e3640c07639c62ed58c5fcf0decb087922a85d84c761"), looks := true }, kinds := [], alts := [], laidByText := true, laidKinds := [.data, .data, .data, .data, .sentinel, .sentinel, .pinned], laidTests := true, laidLooks := .later }
def AuditlogCountsUptoCardSaid : Prop := Claim7.holds Tryd.pinned (.plain (OpenSpec.upto auditlogCountsSpec)) auditlogCountsUptoCard

/-- THE SECOND FORM's CARD OF 'accesscontrollaw32.AuditlogBound'. -/
def auditlogBoundUptoCard : Claim7 := { stood := { row := auditlogBoundUptoRow, standIns := [], harness := (true, "69e1032feeab5f9e7a66e3640c07639c62ed58c5fcf0decb087922a85d84c761"), looks := true }, kinds := [], alts := [], laidByText := true, laidKinds := [.data, .data, .data, .data, .sentinel, .sentinel, .pinned], laidTests := true, laidLooks := .later }
def AuditlogBoundUptoCardSaid : Prop := Claim7.holds Tryd.pinned (.plain (OpenSpec.upto auditlogBoundSpec)) auditlogBoundUptoCard

/-- THE SECOND FORM's CARD OF 'accesscontrollaw32.AuditlogCopies'. -/
def auditlogCopiesUptoCard : Claim7 := { stood := { row := auditlogCopiesUptoRow, standIns := [], harness := (true, "69e1032feeab5f9e7a66e3640c07639c62ed58c5fcf0decb087922a85d84c761"), looks := true }, kinds := [], alts := [], laidByText := true, laidKinds := [.data, .data, .data, .data, .sentinel, .sentinel, .pinned], laidTests := true, laidLooks := .later }
def AuditlogCopiesUptoCardSaid : Prop := Claim7.holds Tryd.pinned (.plain (OpenSpec.upto auditlogCopiesSpec)) auditlogCopiesUptoCard

/-- THE SECOND FORM's CARD OF 'accesscontrollaw32.AuditlogNil'. -/
def auditlogNilUptoCard : Claim7 := { stood := { row := auditlogNilUptoRow, standIns := [], harness := (true, "69e1032feeab5f9e7a66e3640c07639c62ed58c5fcf0decb087922a85d84c761"), looks := true }, kinds := [], alts := [], laidByText := true, laidKinds := [.data, .data, .data, .data, .sentinel, .sentinel, .pinned], laidTests := true, laidLooks := .later }
def AuditlogNilUptoCardSaid : Prop := Claim7.holds Tryd.pinned (.plain (OpenSpec.upto auditlogNilSpec)) auditlogNilUptoCard
end Rows
end Go.Proofs.YtagkgekpfgepoaaDoor
