/-
  DERIVED. GIVEN WITH THE SEED: THE CARDS: each row of YticbfdcfopilfaaDoorRows.lean that lists a variable, with what it lists TIED to the program's text (the seventh form; the later family's looks); each row that meets fmt, with fmt's text TOLD by the authors' own Lean function (tested against real Go, not proved from fmt's source: count such statements apart). THE CARD IS WHAT COUNTS. Prove the row's statement (the work); the ties are given (YticbfdcfopilfaaDoorTie.lean); close each card by the builder's one call (the guide's Derived/Test/ToyasCard.lean, 'card_holds'). Laid BY PROGRAM, IN A SANDBOX (cutbox-door.mjs). By AI agents, Wed Nov 11 2026. No macro, syntax, notation, axiom, sorry.
-/
import Derived.Test.YticbfdcfopilfaaDoorRows
import GoSem.ClaimSeven
namespace Go.Proofs.YticbfdcfopilfaaDoor
namespace Rows

/-- THE TIED CARD OF 'accesscontrollaw05.LevelChecks'. -/
def levelChecksCard : Claim7 := { stood := { row := levelChecksRow, standIns := [], harness := (true, "1a727af31a1957607daef4d67cd418c9b218d92c5733349d946f7ab9197756e0"), looks := false }, kinds := [], alts := [], laidByText := true, laidKinds := [.data, .pinned], laidTests := true, laidLooks := .later }
def LevelChecksCardSaid : Prop := Claim7.holds Tryd.pinned (.plain (OpenSpec.ofChange levelChecksSpec)) levelChecksCard

/-- THE TIED CARD OF 'accesscontrollaw05.LevelRelates'. -/
def levelRelatesCard : Claim7 := { stood := { row := levelRelatesRow, standIns := [], harness := (true, "1a727af31a1957607daef4d67cd418c9b218d92c5733349d946f7ab9197756e0"), looks := false }, kinds := [], alts := [], laidByText := true, laidKinds := [.data, .pinned], laidTests := true, laidLooks := .later }
def LevelRelatesCardSaid : Prop := Claim7.holds Tryd.pinned (.plain (OpenSpec.ofChange levelRelatesSpec)) levelRelatesCard

/-- THE TIED CARD OF 'accesscontrollaw05.LevelLattice'. -/
def levelLatticeCard : Claim7 := { stood := { row := levelLatticeRow, standIns := [], harness := (true, "1a727af31a1957607daef4d67cd418c9b218d92c5733349d946f7ab9197756e0"), looks := false }, kinds := [], alts := [], laidByText := true, laidKinds := [.data, .pinned], laidTests := true, laidLooks := .later }
def LevelLatticeCardSaid : Prop := Claim7.holds Tryd.pinned (.plain (OpenSpec.ofChange levelLatticeSpec)) levelLatticeCard

/-- THE TIED CARD OF 'accesscontrollaw05.LevelTexts'. -/
def levelTextsCard : Claim7 := { stood := { row := levelTextsRow, standIns := [], harness := (true, "1a727af31a1957607daef4d67cd418c9b218d92c5733349d946f7ab9197756e0"), looks := false }, kinds := [], alts := [], laidByText := true, laidKinds := [.data, .pinned], laidTests := true, laidLooks := .later }
def LevelTextsCardSaid : Prop := Claim7.holds Tryd.pinned (.plain (OpenSpec.ofChange levelTextsSpec)) levelTextsCard

/-- THE TIED CARD OF 'accesscontrollaw05.LevelParses'. -/
def levelParsesCard : Claim7 := { stood := { row := levelParsesRow, standIns := [], harness := (true, "1a727af31a1957607daef4d67cd418c9b218d92c5733349d946f7ab9197756e0"), looks := false }, kinds := [], alts := [], laidByText := true, laidKinds := [.data, .pinned], laidTests := true, laidLooks := .later }
def LevelParsesCardSaid : Prop := Claim7.holds Tryd.pinned (.plain (OpenSpec.ofChange levelParsesSpec)) levelParsesCard

/-- THE TIED CARD OF 'accesscontrollaw05.LevelSources'. -/
def levelSourcesCard : Claim7 := { stood := { row := levelSourcesRow, standIns := [], harness := (true, "1a727af31a1957607daef4d67cd418c9b218d92c5733349d946f7ab9197756e0"), looks := false }, kinds := [], alts := [], laidByText := true, laidKinds := [.data, .pinned], laidTests := true, laidLooks := .later }
def LevelSourcesCardSaid : Prop := Claim7.holds Tryd.pinned (.plain (OpenSpec.ofChange levelSourcesSpec)) levelSourcesCard

/-- THE TIED CARD OF 'accesscontrollaw05.LevelRanges'. -/
def levelRangesCard : Claim7 := { stood := { row := levelRangesRow, standIns := [], harness := (true, "1a727af31a1957607daef4d67cd418c9b218d92c5733349d946f7ab9197756e0"), looks := false }, kinds := [], alts := [], laidByText := true, laidKinds := [.data, .pinned], laidTests := true, laidLooks := .later }
def LevelRangesCardSaid : Prop := Claim7.holds Tryd.pinned (.plain (OpenSpec.ofChange levelRangesSpec)) levelRangesCard

/-- THE TIED CARD OF 'accesscontrollaw05.LevelShortest'. -/
def levelShortestCard : Claim7 := { stood := { row := levelShortestRow, standIns := [], harness := (true, "1a727af31a1957607daef4d67cd418c9b218d92c5733349d946f7ab9197756e0"), looks := false }, kinds := [], alts := [], laidByText := true, laidKinds := [.data, .pinned], laidTests := true, laidLooks := .later }
def LevelShortestCardSaid : Prop := Claim7.holds Tryd.pinned (.plain (OpenSpec.ofChange levelShortestSpec)) levelShortestCard

/-- THE TIED CARD OF 'accesscontrollaw05.LevelRoundTrip'. -/
def levelRoundTripCard : Claim7 := { stood := { row := levelRoundTripRow, standIns := [], harness := (true, "1a727af31a1957607daef4d67cd418c9b218d92c5733349d946f7ab9197756e0"), looks := false }, kinds := [], alts := [], laidByText := true, laidKinds := [.data, .pinned], laidTests := true, laidLooks := .later }
def LevelRoundTripCardSaid : Prop := Claim7.holds Tryd.pinned (.plain (OpenSpec.ofChange levelRoundTripSpec)) levelRoundTripCard

/-- THE SECOND FORM's CARD OF 'accesscontrollaw05.LevelChecks'. -/
def levelChecksUptoCard : Claim7 := { stood := { row := levelChecksUptoRow, standIns := [], harness := (true, "1a727af31a1957607daef4d67cd418c9b218d92c5733349d946f7ab9197756e0"), looks := false }, kinds := [], alts := [], laidByText := true, laidKinds := [.data, .pinned], laidTests := true, laidLooks := .later }
def LevelChecksUptoCardSaid : Prop := Claim7.holds Tryd.pinned (.plain (OpenSpec.upto levelChecksSpec)) levelChecksUptoCard

/-- THE SECOND FORM's CARD OF 'accesscontrollaw05.LevelRelates'. -/
def levelRelatesUptoCard : Claim7 := { stood := { row := levelRelatesUptoRow, standIns := [], harness := (true, "1a727af31a1957607daef4d67cd418c9b218d92c5733349d946f7ab9197756e0"), looks := false }, kinds := [], alts := [], laidByText := true, laidKinds := [.data, .pinned], laidTests := true, laidLooks := .later }
def LevelRelatesUptoCardSaid : Prop := Claim7.holds Tryd.pinned (.plain (OpenSpec.upto levelRelatesSpec)) levelRelatesUptoCard

/-- THE SECOND FORM's CARD OF 'accesscontrollaw05.LevelLattice'. -/
def levelLatticeUptoCard : Claim7 := { stood := { row := levelLatticeUptoRow, standIns := [], harness := (true, "1a727af31a1957607daef4d67cd418c9b218d92c5733349d946f7ab9197756e0"), looks := false }, kinds := [], alts := [], laidByText := true, laidKinds := [.data, .pinned], laidTests := true, laidLooks := .later }
def LevelLatticeUptoCardSaid : Prop := Claim7.holds Tryd.pinned (.plain (OpenSpec.upto levelLatticeSpec)) levelLatticeUptoCard

/-- THE SECOND FORM's CARD OF 'accesscontrollaw05.LevelTexts'. -/
def levelTextsUptoCard : Claim7 := { stood := { row := levelTextsUptoRow, standIns := [], harness := (true, "1a727af31a1957607daef4d67cd418c9b218d92c5733349d946f7ab9197756e0"), looks := false }, kinds := [], alts := [], laidByText := true, laidKinds := [.data, .pinned], laidTests := true, laidLooks := .later }
def LevelTextsUptoCardSaid : Prop := Claim7.holds Tryd.pinned (.plain (OpenSpec.upto levelTextsSpec)) levelTextsUptoCard

/-- THE SECOND FORM's CARD OF 'accesscontrollaw05.LevelParses'. -/
def levelParsesUptoCard : Claim7 := { stood := { row := levelParsesUptoRow, standIns := [], harness := (true, "1a727af31a1957607daef4d67cd418c9b218d92c5733349d946f7ab9197756e0"), looks := false }, kinds := [], alts := [], laidByText := true, laidKinds := [.data, .pinned], laidTests := true, laidLooks := .later }
def LevelParsesUptoCardSaid : Prop := Claim7.holds Tryd.pinned (.plain (OpenSpec.upto levelParsesSpec)) levelParsesUptoCard

/-- THE SECOND FORM's CARD OF 'accesscontrollaw05.LevelSources'. -/
def levelSourcesUptoCard : Claim7 := { stood := { row := levelSourcesUptoRow, standIns := [], harness := (true, "1a727af31a1957607daef4d67cd418c9b218d92c5733349d946f7ab9197756e0"), looks := false }, kinds := [], alts := [], laidByText := true, laidKinds := [.data, .pinned], laidTests := true, laidLooks := .later }
def LevelSourcesUptoCardSaid : Prop := Claim7.holds Tryd.pinned (.plain (OpenSpec.upto levelSourcesSpec)) levelSourcesUptoCard

/-- THE SECOND FORM's CARD OF 'accesscontrollaw05.LevelRanges'. -/
def levelRangesUptoCard : Claim7 := { stood := { row := levelRangesUptoRow, standIns := [], harness := (true, "1a727af31a1957607daef4d67cd418c9b218d92c5733349d946f7ab9197756e0"), looks := false }, kinds := [], alts := [], laidByText := true, laidKinds := [.data, .pinned], laidTests := true, laidLooks := .later }
def LevelRangesUptoCardSaid : Prop := Claim7.holds Tryd.pinned (.plain (OpenSpec.upto levelRangesSpec)) levelRangesUptoCard

/-- THE SECOND FORM's CARD OF 'accesscontrollaw05.LevelShortest'. -/
def levelShortestUptoCard : Claim7 := { stood := { row := levelShortestUptoRow, standIns := [], harness := (true, "1a727af31a1957607daef4d67cd418c9b218d92c5733349d946f7ab9197756e0"), looks := false }, kinds := [], alts := [], laidByText := true, laidKinds := [.data, .pinned], laidTests := true, laidLooks := .later }
def LevelShortestUptoCardSaid : Prop := Claim7.holds Tryd.pinned (.plain (OpenSpec.upto levelShortestSpec)) levelShortestUptoCard

/-- THE SECOND FORM's CARD OF 'accesscontrollaw05.LevelRoundTrip'. -/
def levelRoundTripUptoCard : Claim7 := { stood := { row := levelRoundTripUptoRow, standIns := [], harness := (true, "1a727af31a1957607daef4d67cd418c9b218d92c5733349d946f7ab9197756e0"), looks := false }, kinds := [], alts := [], laidByText := true, laidKinds := [.data, .pinned], laidTests := true, laidLooks := .later }
def LevelRoundTripUptoCardSaid : Prop := Claim7.holds Tryd.pinned (.plain (OpenSpec.upto levelRoundTripSpec)) levelRoundTripUptoCard
end Rows
end Go.Proofs.YticbfdcfopilfaaDoor
