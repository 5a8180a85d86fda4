/-
  DERIVED. GIVEN WITH THE SEED: THE CARDS: each row of YtagkgekpfgepoaaGreatDoorRows.lean that lists a variable, with what it lists TIED to the program's text (the seventh form; the later family's looks); each row that meets fmt, with fmt's text TOLD by the authors' own Lean function (tested against real Go, not proved from fmt's source: count such statements apart). THE CARD IS WHAT COUNTS. Prove the row's statement (the work); the ties are given (YtagkgekpfgepoaaGreatDoorTie.lean); close each card by the builder's one call (the guide's Derived/Test/ToyasCard.lean, 'card_holds'). Laid BY PROGRAM, IN A SANDBOX (cutbox-door.mjs). By AI agents, Wed Nov 11 2026. No macro, syntax, notation, axiom, sorry.
-/
import Derived.Test.YtagkgekpfgepoaaGreatDoorRows
import GoSem.ClaimSeven
namespace Go.Proofs.YtagkgekpfgepoaaGreatDoor
namespace Rows

/-- THE TIED CARD OF 'accesscontrollaw32.AuditlogChecks'. -/
def auditlogChecksCard : Claim7 := { stood := { row := auditlogChecksRow, standIns := [], harness := (true, "013f101f7f3500973bc1e0ac0f9b61f6c136b1ae4e0d30265142176dda6abf88"), looks := true }, kinds := [], alts := [], laidByText := true, laidKinds := [.data, .data, .data, .data, .sentinel, .sentinel, .pinned], laidTests := true, laidLooks := .later }
def AuditlogChecksCardSaid : Prop := Claim7.holds Tryz.pinned (.plain (OpenSpec.ofChange auditlogChecksSpec)) auditlogChecksCard

/-- THE TIED CARD OF 'accesscontrollaw32.AuditlogTexts'. -/
def auditlogTextsCard : Claim7 := { stood := { row := auditlogTextsRow, standIns := [], harness := (true, "013f101f7f3500973bc1e0ac0f9b61f6c136b1ae4e0d30265142176dda6abf88"), looks := true }, kinds := [], alts := [], laidByText := true, laidKinds := [.data, .data, .data, .data, .sentinel, .sentinel, .pinned], laidTests := true, laidLooks := .later }
def AuditlogTextsCardSaid : Prop := Claim7.holds Tryz.pinned (.plain (OpenSpec.ofChange auditlogTextsSpec)) auditlogTextsCard

/-- THE TIED CARD OF 'accesscontrollaw32.AuditlogParses'. -/
def auditlogParsesCard : Claim7 := { stood := { row := auditlogParsesRow, standIns := [], harness := (true, "013f101f7f3500973bc1e0ac0f9b61f6c136b1ae4e0d30265142176dda6abf88"), looks := true }, kinds := [], alts := [], laidByText := true, laidKinds := [.data, .data, .data, .data, .sentinel, .sentinel, .pinned], laidTests := true, laidLooks := .later }
def AuditlogParsesCardSaid : Prop := Claim7.holds Tryz.pinned (.plain (OpenSpec.ofChange auditlogParsesSpec)) auditlogParsesCard

/-- THE TIED CARD OF 'accesscontrollaw32.AuditlogModel'. -/
def auditlogModelCard : Claim7 := { stood := { row := auditlogModelRow, standIns := [], harness := (true, "013f101f7f3500973bc1e0ac0f9b61f6c136b1ae4e0d30265142176dda6abf88"), looks := true }, kinds := [], alts := [], laidByText := true, laidKinds := [.data, .data, .data, .data, .sentinel, .sentinel, .pinned], laidTests := true, laidLooks := .later }
def AuditlogModelCardSaid : Prop := Claim7.holds Tryz.pinned (.plain (OpenSpec.ofChange auditlogModelSpec)) auditlogModelCard

/-- THE SECOND FORM's CARD OF 'accesscontrollaw32.AuditlogChecks'. -/
def auditlogChecksUptoCard : Claim7 := { stood := { row := auditlogChecksUptoRow, standIns := [], harness := (true, "013f101f7f3500973bc1e0ac0f9b61f6c136b1ae4e0d30265142176dda6abf88"), looks := true }, kinds := [], alts := [], laidByText := true, laidKinds := [.data, .data, .data, .data, .sentinel, .sentinel, .pinned], laidTests := true, laidLooks := .later }
def AuditlogChecksUptoCardSaid : Prop := Claim7.holds Tryz.pinned (.plain (OpenSpec.upto auditlogChecksSpec)) auditlogChecksUptoCard

/-- THE SECOND FORM's CARD OF 'accesscontrollaw32.AuditlogTexts'. -/
def auditlogTextsUptoCard : Claim7 := { stood := { row := auditlogTextsUptoRow, standIns := [], harness := (true, "013f101f7f3500973bc1e0ac0f9b61f6c136b1ae4e0d30265142176dda6abf88"), looks := true }, kinds := [], alts := [], laidByText := true, laidKinds := [.data, .data, .data, .data, .sentinel, .sentinel, .pinned], laidTests := true, laidLooks := .later }
def AuditlogTextsUptoCardSaid : Prop := Claim7.holds Tryz.pinned (.plain (OpenSpec.upto auditlogTextsSpec)) auditlogTextsUptoCard

/-- THE SECOND FORM's CARD OF 'accesscontrollaw32.AuditlogParses'. -/
def auditlogParsesUptoCard : Claim7 := { stood := { row := auditlogParsesUptoRow, standIns := [], harness := (true, "013f101f7f3500973bc1e0ac0f9b61f6c136b1ae4e0d30265142176dda6abf88"), looks := true }, kinds := [], alts := [], laidByText := true, laidKinds := [.data, .data, .data, .data, .sentinel, .sentinel, .pinned], laidTests := true, laidLooks := .later }
def AuditlogParsesUptoCardSaid : Prop := Claim7.holds Tryz.pinned (.plain (OpenSpec.upto auditlogParsesSpec)) auditlogParsesUptoCard

/-- THE SECOND FORM's CARD OF 'accesscontrollaw32.AuditlogModel'. -/
def auditlogModelUptoCard : Claim7 := { stood := { row := auditlogModelUptoRow, standIns := [], harness := (true, "013f101f7f3500973bc1e0ac0f9b61f6c136b1ae4e0d30265142176dda6abf88"), looks := true }, kinds := [], alts := [], laidByText := true, laidKinds := [.data, .data, .data, .data, .sentinel, .sentinel, .pinned], laidTests := true, laidLooks := .later }
def AuditlogModelUptoCardSaid : Prop := Claim7.holds Tryz.pinned (.plain (OpenSpec.upto auditlogModelSpec)) auditlogModelUptoCard
end Rows
end Go.Proofs.YtagkgekpfgepoaaGreatDoor
