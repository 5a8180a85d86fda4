/-
  NARROWER THAN 'FOR EVERY INPUT', by the rows' own cells (each row's printed sentence says how): LevelChecks: laid · LevelRelates: laid · LevelLattice: laid · LevelTexts: laid · LevelParses: laid · LevelSources: laid · LevelRanges: laid · LevelShortest: laid · LevelRoundTrip: laid.
  DERIVED. THE GIVEN ROWS OF THIS SEAT. 9 by the template 'for every input the law returns true; each argument reads behind the call as it read before'; 0 by the template 'total and deterministic' (their statements: YticbfdcfopilfaaDoorTotals.lean).
  GIVEN WITH THE SEED: the statements are not yours to turn. If you find one false, say at which input.
  Laid BY PROGRAM, IN A SANDBOX (cutbox-rows.mjs): the forced cells as the released guide's own fill.sh prints them over the translation 0a50f4f9f4961602… (all of the seat's roots in one cut). By AI agents, Wed Nov 11 2026. No macro, syntax, notation, axiom, sorry.
-/
import Derived.Test.YticbfdcfopilfaaDoorChecked
import GoSem.PinnedTables
import GoSem.Claim
import GoSem.ClaimJoined
import GoSem.ClaimMapViews
import Derived.JoinedTies
import Derived.KernelRfl
namespace Go.Proofs.YticbfdcfopilfaaDoor
/- THE CELL 'sum', in the pinned program and in every row, IS THE sha256 OF THE DUMP (.gsa) THAT YticbfdcfopilfaaDoorProg.lean LOADS. Nothing in Lean hashes anything: it is a label: what it is worth is what the hold of that sum in a sandbox is worth. -/
noncomputable def Tryd.pinned : Pinned := { name := "yticbfdcfopilfaadoor", sum := "0a50f4f9f4961602fbb7a04eec3c22d3615aefeaa94e7d88c31a4b0d0dee3e2d", checked := Tryd.checked }
namespace Rows
def none {H : Type} : Left H := { results := [], args := [] }

/- WHAT THE LISTED PACKAGE-LEVEL VARIABLES READ AS WHEN THE CALL BEGINS. Each datum BY PROGRAM (the guide's laid-datum.mjs) off the statement by which the dump's own 'gosem.cut.vars' lays the variable. In a bare row this is a premise. The card (YticbfdcfopilfaaDoorCards.lean) ties it to the program's text. -/
def laid_unicode_utf8_acceptRanges {H : Type} : DataW H := .agg [.agg [.lit (.int .u8 128), .lit (.int .u8 191)], .agg [.lit (.int .u8 160), .lit (.int .u8 191)], .agg [.lit (.int .u8 128), .lit (.int .u8 159)], .agg [.lit (.int .u8 144), .lit (.int .u8 191)], .agg [.lit (.int .u8 128), .lit (.int .u8 143)], .agg [.lit (.int .u8 0), .lit (.int .u8 0)], .agg [.lit (.int .u8 0), .lit (.int .u8 0)], .agg [.lit (.int .u8 0), .lit (.int .u8 0)], .agg [.lit (.int .u8 0), .lit (.int .u8 0)], .agg [.lit (.int .u8 0), .lit (.int .u8 0)], .agg [.lit (.int .u8 0), .lit (.int .u8 0)], .agg [.lit (.int .u8 0), .lit (.int .u8 0)], .agg [.lit (.int .u8 0), .lit (.int .u8 0)], .agg [.lit (.int .u8 0), .lit (.int .u8 0)], .agg [.lit (.int .u8 0), .lit (.int .u8 0)], .agg [.lit (.int .u8 0), .lit (.int .u8 0)]]
/-- One of Go's own tables, pinned by name: the form's constant. -/
def laid_unicode_utf8_first : DataW Unit := Go.Pinned.utf8First

/-- 'accesscontrollaw05.LevelChecks': WHATEVER THE INPUT: true; the input reads as it did. -/
def levelChecksSpec : ChangeSpec := { name := "levelChecks", fn := fun _ => fun
  | [d1, d2, d3] => { results := [.lit (.bool true)], args := [d1, d2, d3] }
  | _ => none }
def levelChecksRow : OpenClaim := { program := "yticbfdcfopilfaadoor", sum := "0a50f4f9f4961602fbb7a04eec3c22d3615aefeaa94e7d88c31a4b0d0dee3e2d", func := "accesscontrol/accesscontrollaw05.LevelChecks", spec := "levelChecks", inPlace := ["internal/abi.NoEscape", "internal/bytealg.MakeNoZero", "internal/bytealg.IndexByteString", "internal/bytealg.IndexString", "internal/bytealg.CountString"], named := ["internal/bytealg.MaxLen", "unicode/utf8.first", "unicode/utf8.acceptRanges"], apart := false, laid := [("unicode/utf8.acceptRanges", laid_unicode_utf8_acceptRanges), ("unicode/utf8.first", laid_unicode_utf8_first)] }
def LevelChecksSaid : Prop := levelChecksRow.holds Tryd.pinned (OpenSpec.ofChange levelChecksSpec)

/-- ITS FALSE NEIGHBOUR: 'it returns false'. Refute it at one input. -/
def levelChecksWrong : ChangeSpec := { name := "levelChecks", fn := fun _ => fun
  | [d1, d2, d3] => { results := [.lit (.bool false)], args := [d1, d2, d3] }
  | _ => none }
def LevelChecksWrongFalsely : Prop := levelChecksRow.holds Tryd.pinned (OpenSpec.ofChange levelChecksWrong)

/-- 'accesscontrollaw05.LevelRelates': WHATEVER THE INPUT: true; the input reads as it did. -/
def levelRelatesSpec : ChangeSpec := { name := "levelRelates", fn := fun _ => fun
  | [d1, d2] => { results := [.lit (.bool true)], args := [d1, d2] }
  | _ => none }
def levelRelatesRow : OpenClaim := { program := "yticbfdcfopilfaadoor", sum := "0a50f4f9f4961602fbb7a04eec3c22d3615aefeaa94e7d88c31a4b0d0dee3e2d", func := "accesscontrol/accesscontrollaw05.LevelRelates", spec := "levelRelates", inPlace := ["internal/abi.NoEscape", "internal/bytealg.MakeNoZero", "internal/bytealg.IndexByteString", "internal/bytealg.IndexString", "internal/bytealg.CountString"], named := ["internal/bytealg.MaxLen", "unicode/utf8.first", "unicode/utf8.acceptRanges"], apart := false, laid := [("unicode/utf8.acceptRanges", laid_unicode_utf8_acceptRanges), ("unicode/utf8.first", laid_unicode_utf8_first)] }
def LevelRelatesSaid : Prop := levelRelatesRow.holds Tryd.pinned (OpenSpec.ofChange levelRelatesSpec)

/-- ITS FALSE NEIGHBOUR: 'it returns false'. Refute it at one input. -/
def levelRelatesWrong : ChangeSpec := { name := "levelRelates", fn := fun _ => fun
  | [d1, d2] => { results := [.lit (.bool false)], args := [d1, d2] }
  | _ => none }
def LevelRelatesWrongFalsely : Prop := levelRelatesRow.holds Tryd.pinned (OpenSpec.ofChange levelRelatesWrong)

/-- 'accesscontrollaw05.LevelLattice': WHATEVER THE INPUT: true; the input reads as it did. -/
def levelLatticeSpec : ChangeSpec := { name := "levelLattice", fn := fun _ => fun
  | [d1, d2, d3] => { results := [.lit (.bool true)], args := [d1, d2, d3] }
  | _ => none }
def levelLatticeRow : OpenClaim := { program := "yticbfdcfopilfaadoor", sum := "0a50f4f9f4961602fbb7a04eec3c22d3615aefeaa94e7d88c31a4b0d0dee3e2d", func := "accesscontrol/accesscontrollaw05.LevelLattice", spec := "levelLattice", inPlace := ["internal/abi.NoEscape", "internal/bytealg.MakeNoZero", "internal/bytealg.IndexByteString", "internal/bytealg.IndexString", "internal/bytealg.CountString"], named := ["internal/bytealg.MaxLen", "unicode/utf8.first", "unicode/utf8.acceptRanges"], apart := false, laid := [("unicode/utf8.acceptRanges", laid_unicode_utf8_acceptRanges), ("unicode/utf8.first", laid_unicode_utf8_first)] }
def LevelLatticeSaid : Prop := levelLatticeRow.holds Tryd.pinned (OpenSpec.ofChange levelLatticeSpec)

/-- ITS FALSE NEIGHBOUR: 'it returns false'. Refute it at one input. -/
def levelLatticeWrong : ChangeSpec := { name := "levelLattice", fn := fun _ => fun
  | [d1, d2, d3] => { results := [.lit (.bool false)], args := [d1, d2, d3] }
  | _ => none }
def LevelLatticeWrongFalsely : Prop := levelLatticeRow.holds Tryd.pinned (OpenSpec.ofChange levelLatticeWrong)

/-- 'accesscontrollaw05.LevelTexts': WHATEVER THE INPUT: true; the input reads as it did. -/
def levelTextsSpec : ChangeSpec := { name := "levelTexts", fn := fun _ => fun
  | [d1, d2] => { results := [.lit (.bool true)], args := [d1, d2] }
  | _ => none }
def levelTextsRow : OpenClaim := { program := "yticbfdcfopilfaadoor", sum := "0a50f4f9f4961602fbb7a04eec3c22d3615aefeaa94e7d88c31a4b0d0dee3e2d", func := "accesscontrol/accesscontrollaw05.LevelTexts", spec := "levelTexts", inPlace := ["internal/abi.NoEscape", "internal/bytealg.MakeNoZero", "internal/bytealg.IndexByteString", "internal/bytealg.IndexString", "internal/bytealg.CountString"], named := ["internal/bytealg.MaxLen", "unicode/utf8.first", "unicode/utf8.acceptRanges"], apart := false, laid := [("unicode/utf8.acceptRanges", laid_unicode_utf8_acceptRanges), ("unicode/utf8.first", laid_unicode_utf8_first)] }
def LevelTextsSaid : Prop := levelTextsRow.holds Tryd.pinned (OpenSpec.ofChange levelTextsSpec)

/-- ITS FALSE NEIGHBOUR: 'it returns false'. Refute it at one input. -/
def levelTextsWrong : ChangeSpec := { name := "levelTexts", fn := fun _ => fun
  | [d1, d2] => { results := [.lit (.bool false)], args := [d1, d2] }
  | _ => none }
def LevelTextsWrongFalsely : Prop := levelTextsRow.holds Tryd.pinned (OpenSpec.ofChange levelTextsWrong)

/-- 'accesscontrollaw05.LevelParses': WHATEVER THE INPUT: true; the input reads as it did. -/
def levelParsesSpec : ChangeSpec := { name := "levelParses", fn := fun _ => fun
  | [d1, d2] => { results := [.lit (.bool true)], args := [d1, d2] }
  | _ => none }
def levelParsesRow : OpenClaim := { program := "yticbfdcfopilfaadoor", sum := "0a50f4f9f4961602fbb7a04eec3c22d3615aefeaa94e7d88c31a4b0d0dee3e2d", func := "accesscontrol/accesscontrollaw05.LevelParses", spec := "levelParses", inPlace := ["internal/abi.NoEscape", "internal/bytealg.MakeNoZero", "internal/bytealg.IndexByteString", "internal/bytealg.IndexString", "internal/bytealg.CountString"], named := ["internal/bytealg.MaxLen", "unicode/utf8.first", "unicode/utf8.acceptRanges"], apart := false, laid := [("unicode/utf8.acceptRanges", laid_unicode_utf8_acceptRanges), ("unicode/utf8.first", laid_unicode_utf8_first)] }
def LevelParsesSaid : Prop := levelParsesRow.holds Tryd.pinned (OpenSpec.ofChange levelParsesSpec)

/-- ITS FALSE NEIGHBOUR: 'it returns false'. Refute it at one input. -/
def levelParsesWrong : ChangeSpec := { name := "levelParses", fn := fun _ => fun
  | [d1, d2] => { results := [.lit (.bool false)], args := [d1, d2] }
  | _ => none }
def LevelParsesWrongFalsely : Prop := levelParsesRow.holds Tryd.pinned (OpenSpec.ofChange levelParsesWrong)

/-- 'accesscontrollaw05.LevelSources': WHATEVER THE INPUT: true; the input reads as it did. -/
def levelSourcesSpec : ChangeSpec := { name := "levelSources", fn := fun _ => fun
  | [d1, d2] => { results := [.lit (.bool true)], args := [d1, d2] }
  | _ => none }
def levelSourcesRow : OpenClaim := { program := "yticbfdcfopilfaadoor", sum := "0a50f4f9f4961602fbb7a04eec3c22d3615aefeaa94e7d88c31a4b0d0dee3e2d", func := "accesscontrol/accesscontrollaw05.LevelSources", spec := "levelSources", inPlace := ["internal/abi.NoEscape", "internal/bytealg.MakeNoZero", "internal/bytealg.IndexByteString", "internal/bytealg.IndexString", "internal/bytealg.CountString"], named := ["internal/bytealg.MaxLen", "unicode/utf8.first", "unicode/utf8.acceptRanges"], apart := false, laid := [("unicode/utf8.acceptRanges", laid_unicode_utf8_acceptRanges), ("unicode/utf8.first", laid_unicode_utf8_first)] }
def LevelSourcesSaid : Prop := levelSourcesRow.holds Tryd.pinned (OpenSpec.ofChange levelSourcesSpec)

/-- ITS FALSE NEIGHBOUR: 'it returns false'. Refute it at one input. -/
def levelSourcesWrong : ChangeSpec := { name := "levelSources", fn := fun _ => fun
  | [d1, d2] => { results := [.lit (.bool false)], args := [d1, d2] }
  | _ => none }
def LevelSourcesWrongFalsely : Prop := levelSourcesRow.holds Tryd.pinned (OpenSpec.ofChange levelSourcesWrong)

/-- 'accesscontrollaw05.LevelRanges': WHATEVER THE INPUT: true; the input reads as it did. -/
def levelRangesSpec : ChangeSpec := { name := "levelRanges", fn := fun _ => fun
  | [d1, d2, d3] => { results := [.lit (.bool true)], args := [d1, d2, d3] }
  | _ => none }
def levelRangesRow : OpenClaim := { program := "yticbfdcfopilfaadoor", sum := "0a50f4f9f4961602fbb7a04eec3c22d3615aefeaa94e7d88c31a4b0d0dee3e2d", func := "accesscontrol/accesscontrollaw05.LevelRanges", spec := "levelRanges", inPlace := ["internal/abi.NoEscape", "internal/bytealg.MakeNoZero", "internal/bytealg.IndexByteString", "internal/bytealg.IndexString", "internal/bytealg.CountString"], named := ["internal/bytealg.MaxLen", "unicode/utf8.first", "unicode/utf8.acceptRanges"], apart := false, laid := [("unicode/utf8.acceptRanges", laid_unicode_utf8_acceptRanges), ("unicode/utf8.first", laid_unicode_utf8_first)] }
def LevelRangesSaid : Prop := levelRangesRow.holds Tryd.pinned (OpenSpec.ofChange levelRangesSpec)

/-- ITS FALSE NEIGHBOUR: 'it returns false'. Refute it at one input. -/
def levelRangesWrong : ChangeSpec := { name := "levelRanges", fn := fun _ => fun
  | [d1, d2, d3] => { results := [.lit (.bool false)], args := [d1, d2, d3] }
  | _ => none }
def LevelRangesWrongFalsely : Prop := levelRangesRow.holds Tryd.pinned (OpenSpec.ofChange levelRangesWrong)

/-- 'accesscontrollaw05.LevelShortest': WHATEVER THE INPUT: true; the input reads as it did. -/
def levelShortestSpec : ChangeSpec := { name := "levelShortest", fn := fun _ => fun
  | [d1, d2] => { results := [.lit (.bool true)], args := [d1, d2] }
  | _ => none }
def levelShortestRow : OpenClaim := { program := "yticbfdcfopilfaadoor", sum := "0a50f4f9f4961602fbb7a04eec3c22d3615aefeaa94e7d88c31a4b0d0dee3e2d", func := "accesscontrol/accesscontrollaw05.LevelShortest", spec := "levelShortest", inPlace := ["internal/abi.NoEscape", "internal/bytealg.MakeNoZero", "internal/bytealg.IndexByteString", "internal/bytealg.IndexString", "internal/bytealg.CountString"], named := ["internal/bytealg.MaxLen", "unicode/utf8.first", "unicode/utf8.acceptRanges"], apart := false, laid := [("unicode/utf8.acceptRanges", laid_unicode_utf8_acceptRanges), ("unicode/utf8.first", laid_unicode_utf8_first)] }
def LevelShortestSaid : Prop := levelShortestRow.holds Tryd.pinned (OpenSpec.ofChange levelShortestSpec)

/-- ITS FALSE NEIGHBOUR: 'it returns false'. Refute it at one input. -/
def levelShortestWrong : ChangeSpec := { name := "levelShortest", fn := fun _ => fun
  | [d1, d2] => { results := [.lit (.bool false)], args := [d1, d2] }
  | _ => none }
def LevelShortestWrongFalsely : Prop := levelShortestRow.holds Tryd.pinned (OpenSpec.ofChange levelShortestWrong)

/-- 'accesscontrollaw05.LevelRoundTrip': WHATEVER THE INPUT: true; the input reads as it did. -/
def levelRoundTripSpec : ChangeSpec := { name := "levelRoundTrip", fn := fun _ => fun
  | [d1, d2] => { results := [.lit (.bool true)], args := [d1, d2] }
  | _ => none }
def levelRoundTripRow : OpenClaim := { program := "yticbfdcfopilfaadoor", sum := "0a50f4f9f4961602fbb7a04eec3c22d3615aefeaa94e7d88c31a4b0d0dee3e2d", func := "accesscontrol/accesscontrollaw05.LevelRoundTrip", spec := "levelRoundTrip", inPlace := ["internal/abi.NoEscape", "internal/bytealg.MakeNoZero", "internal/bytealg.IndexByteString", "internal/bytealg.IndexString", "internal/bytealg.CountString"], named := ["internal/bytealg.MaxLen", "unicode/utf8.first", "unicode/utf8.acceptRanges"], apart := false, laid := [("unicode/utf8.acceptRanges", laid_unicode_utf8_acceptRanges), ("unicode/utf8.first", laid_unicode_utf8_first)] }
def LevelRoundTripSaid : Prop := levelRoundTripRow.holds Tryd.pinned (OpenSpec.ofChange levelRoundTripSpec)

/-- ITS FALSE NEIGHBOUR: 'it returns false'. Refute it at one input. -/
def levelRoundTripWrong : ChangeSpec := { name := "levelRoundTrip", fn := fun _ => fun
  | [d1, d2] => { results := [.lit (.bool false)], args := [d1, d2] }
  | _ => none }
def LevelRoundTripWrongFalsely : Prop := levelRoundTripRow.holds Tryd.pinned (OpenSpec.ofChange levelRoundTripWrong)

/- THE SECOND FORM. 'bulk': how many values and letters a reading holds, each counted each time it is reached (what is shared counts as often as it is met; a slice's spare places count too). A statement '..UptoSaid' is the law's where the arguments, and the package variables that the reading takes, are together of bulk at most 1048576: NARROWER than '..Said'. Prove '..Said' where nothing that the law and all that it calls make is longer than what came in: it says more and counts as full. Else prove '..UptoSaid'. A law counts once. -/
mutual
def uptoBulk {H : Type} : DataW H → Nat
  | .lit (.string bytes) => bytes.length + 1
  | .lit _ => 1
  | .nil => 1
  | .ptr d => uptoBulk d + 1
  | .slice elems spare => uptoBulkAll elems + uptoBulkAll spare + 1
  | .agg parts => uptoBulkAll parts + 1
  | .iface _ d => uptoBulk d + 1
  | .map entries => uptoBulkEntries entries + 1
  | .held _ => 1
def uptoBulkAll {H : Type} : List (DataW H) → Nat
  | [] => 0
  | d :: r => uptoBulk d + uptoBulkAll r
def uptoBulkEntries {H : Type} : List (Lit × DataW H) → Nat
  | [] => 0
  | x :: r => uptoBulkEntry x + uptoBulkEntries r
def uptoBulkEntry {H : Type} : Lit × DataW H → Nat
  | (.string bytes, d) => bytes.length + uptoBulk d + 1
  | (_, d) => uptoBulk d + 1
 end
def uptoSmall : (H : Type) → List (DataW H) → Bool := fun _ ds => decide (uptoBulkAll ds ≤ 1048576)
def OpenSpec.upto (s : _root_.Go.ChangeSpec) : _root_.Go.OpenSpec := { _root_.Go.OpenSpec.ofChange s with cond := some uptoSmall }

/-- 'accesscontrollaw05.LevelChecks', WHERE WHAT IT READS IS OF BULK AT MOST 1048576: true; the input reads as it did. -/
def levelChecksUptoRow : OpenClaim := { program := "yticbfdcfopilfaadoor", sum := "0a50f4f9f4961602fbb7a04eec3c22d3615aefeaa94e7d88c31a4b0d0dee3e2d", func := "accesscontrol/accesscontrollaw05.LevelChecks", spec := "levelChecks", inPlace := ["internal/abi.NoEscape", "internal/bytealg.MakeNoZero", "internal/bytealg.IndexByteString", "internal/bytealg.IndexString", "internal/bytealg.CountString"], named := ["internal/bytealg.MaxLen", "unicode/utf8.first", "unicode/utf8.acceptRanges"], apart := false, laid := [("unicode/utf8.acceptRanges", laid_unicode_utf8_acceptRanges), ("unicode/utf8.first", laid_unicode_utf8_first)], narrowed := true }
def LevelChecksUptoSaid : Prop := levelChecksUptoRow.holds Tryd.pinned (OpenSpec.upto levelChecksSpec)

/-- 'accesscontrollaw05.LevelRelates', WHERE WHAT IT READS IS OF BULK AT MOST 1048576: true; the input reads as it did. -/
def levelRelatesUptoRow : OpenClaim := { program := "yticbfdcfopilfaadoor", sum := "0a50f4f9f4961602fbb7a04eec3c22d3615aefeaa94e7d88c31a4b0d0dee3e2d", func := "accesscontrol/accesscontrollaw05.LevelRelates", spec := "levelRelates", inPlace := ["internal/abi.NoEscape", "internal/bytealg.MakeNoZero", "internal/bytealg.IndexByteString", "internal/bytealg.IndexString", "internal/bytealg.CountString"], named := ["internal/bytealg.MaxLen", "unicode/utf8.first", "unicode/utf8.acceptRanges"], apart := false, laid := [("unicode/utf8.acceptRanges", laid_unicode_utf8_acceptRanges), ("unicode/utf8.first", laid_unicode_utf8_first)], narrowed := true }
def LevelRelatesUptoSaid : Prop := levelRelatesUptoRow.holds Tryd.pinned (OpenSpec.upto levelRelatesSpec)

/-- 'accesscontrollaw05.LevelLattice', WHERE WHAT IT READS IS OF BULK AT MOST 1048576: true; the input reads as it did. -/
def levelLatticeUptoRow : OpenClaim := { program := "yticbfdcfopilfaadoor", sum := "0a50f4f9f4961602fbb7a04eec3c22d3615aefeaa94e7d88c31a4b0d0dee3e2d", func := "accesscontrol/accesscontrollaw05.LevelLattice", spec := "levelLattice", inPlace := ["internal/abi.NoEscape", "internal/bytealg.MakeNoZero", "internal/bytealg.IndexByteString", "internal/bytealg.IndexString", "internal/bytealg.CountString"], named := ["internal/bytealg.MaxLen", "unicode/utf8.first", "unicode/utf8.acceptRanges"], apart := false, laid := [("unicode/utf8.acceptRanges", laid_unicode_utf8_acceptRanges), ("unicode/utf8.first", laid_unicode_utf8_first)], narrowed := true }
def LevelLatticeUptoSaid : Prop := levelLatticeUptoRow.holds Tryd.pinned (OpenSpec.upto levelLatticeSpec)

/-- 'accesscontrollaw05.LevelTexts', WHERE WHAT IT READS IS OF BULK AT MOST 1048576: true; the input reads as it did. -/
def levelTextsUptoRow : OpenClaim := { program := "yticbfdcfopilfaadoor", sum := "0a50f4f9f4961602fbb7a04eec3c22d3615aefeaa94e7d88c31a4b0d0dee3e2d", func := "accesscontrol/accesscontrollaw05.LevelTexts", spec := "levelTexts", inPlace := ["internal/abi.NoEscape", "internal/bytealg.MakeNoZero", "internal/bytealg.IndexByteString", "internal/bytealg.IndexString", "internal/bytealg.CountString"], named := ["internal/bytealg.MaxLen", "unicode/utf8.first", "unicode/utf8.acceptRanges"], apart := false, laid := [("unicode/utf8.acceptRanges", laid_unicode_utf8_acceptRanges), ("unicode/utf8.first", laid_unicode_utf8_first)], narrowed := true }
def LevelTextsUptoSaid : Prop := levelTextsUptoRow.holds Tryd.pinned (OpenSpec.upto levelTextsSpec)

/-- 'accesscontrollaw05.LevelParses', WHERE WHAT IT READS IS OF BULK AT MOST 1048576: true; the input reads as it did. -/
def levelParsesUptoRow : OpenClaim := { program := "yticbfdcfopilfaadoor", sum := "0a50f4f9f4961602fbb7a04eec3c22d3615aefeaa94e7d88c31a4b0d0dee3e2d", func := "accesscontrol/accesscontrollaw05.LevelParses", spec := "levelParses", inPlace := ["internal/abi.NoEscape", "internal/bytealg.MakeNoZero", "internal/bytealg.IndexByteString", "internal/bytealg.IndexString", "internal/bytealg.CountString"], named := ["internal/bytealg.MaxLen", "unicode/utf8.first", "unicode/utf8.acceptRanges"], apart := false, laid := [("unicode/utf8.acceptRanges", laid_unicode_utf8_acceptRanges), ("unicode/utf8.first", laid_unicode_utf8_first)], narrowed := true }
def LevelParsesUptoSaid : Prop := levelParsesUptoRow.holds Tryd.pinned (OpenSpec.upto levelParsesSpec)

/-- 'accesscontrollaw05.LevelSources', WHERE WHAT IT READS IS OF BULK AT MOST 1048576: true; the input reads as it did. -/
def levelSourcesUptoRow : OpenClaim := { program := "yticbfdcfopilfaadoor", sum := "0a50f4f9f4961602fbb7a04eec3c22d3615aefeaa94e7d88c31a4b0d0dee3e2d", func := "accesscontrol/accesscontrollaw05.LevelSources", spec := "levelSources", inPlace := ["internal/abi.NoEscape", "internal/bytealg.MakeNoZero", "internal/bytealg.IndexByteString", "internal/bytealg.IndexString", "internal/bytealg.CountString"], named := ["internal/bytealg.MaxLen", "unicode/utf8.first", "unicode/utf8.acceptRanges"], apart := false, laid := [("unicode/utf8.acceptRanges", laid_unicode_utf8_acceptRanges), ("unicode/utf8.first", laid_unicode_utf8_first)], narrowed := true }
def LevelSourcesUptoSaid : Prop := levelSourcesUptoRow.holds Tryd.pinned (OpenSpec.upto levelSourcesSpec)

/-- 'accesscontrollaw05.LevelRanges', WHERE WHAT IT READS IS OF BULK AT MOST 1048576: true; the input reads as it did. -/
def levelRangesUptoRow : OpenClaim := { program := "yticbfdcfopilfaadoor", sum := "0a50f4f9f4961602fbb7a04eec3c22d3615aefeaa94e7d88c31a4b0d0dee3e2d", func := "accesscontrol/accesscontrollaw05.LevelRanges", spec := "levelRanges", inPlace := ["internal/abi.NoEscape", "internal/bytealg.MakeNoZero", "internal/bytealg.IndexByteString", "internal/bytealg.IndexString", "internal/bytealg.CountString"], named := ["internal/bytealg.MaxLen", "unicode/utf8.first", "unicode/utf8.acceptRanges"], apart := false, laid := [("unicode/utf8.acceptRanges", laid_unicode_utf8_acceptRanges), ("unicode/utf8.first", laid_unicode_utf8_first)], narrowed := true }
def LevelRangesUptoSaid : Prop := levelRangesUptoRow.holds Tryd.pinned (OpenSpec.upto levelRangesSpec)

/-- 'accesscontrollaw05.LevelShortest', WHERE WHAT IT READS IS OF BULK AT MOST 1048576: true; the input reads as it did. -/
def levelShortestUptoRow : OpenClaim := { program := "yticbfdcfopilfaadoor", sum := "0a50f4f9f4961602fbb7a04eec3c22d3615aefeaa94e7d88c31a4b0d0dee3e2d", func := "accesscontrol/accesscontrollaw05.LevelShortest", spec := "levelShortest", inPlace := ["internal/abi.NoEscape", "internal/bytealg.MakeNoZero", "internal/bytealg.IndexByteString", "internal/bytealg.IndexString", "internal/bytealg.CountString"], named := ["internal/bytealg.MaxLen", "unicode/utf8.first", "unicode/utf8.acceptRanges"], apart := false, laid := [("unicode/utf8.acceptRanges", laid_unicode_utf8_acceptRanges), ("unicode/utf8.first", laid_unicode_utf8_first)], narrowed := true }
def LevelShortestUptoSaid : Prop := levelShortestUptoRow.holds Tryd.pinned (OpenSpec.upto levelShortestSpec)

/-- 'accesscontrollaw05.LevelRoundTrip', WHERE WHAT IT READS IS OF BULK AT MOST 1048576: true; the input reads as it did. -/
def levelRoundTripUptoRow : OpenClaim := { program := "yticbfdcfopilfaadoor", sum := "0a50f4f9f4961602fbb7a04eec3c22d3615aefeaa94e7d88c31a4b0d0dee3e2d", func := "accesscontrol/accesscontrollaw05.LevelRoundTrip", spec := "levelRoundTrip", inPlace := ["internal/abi.NoEscape", "internal/bytealg.MakeNoZero", "internal/bytealg.IndexByteString", "internal/bytealg.IndexString", "internal/bytealg.CountString"], named := ["internal/bytealg.MaxLen", "unicode/utf8.first", "unicode/utf8.acceptRanges"], apart := false, laid := [("unicode/utf8.acceptRanges", laid_unicode_utf8_acceptRanges), ("unicode/utf8.first", laid_unicode_utf8_first)], narrowed := true }
def LevelRoundTripUptoSaid : Prop := levelRoundTripUptoRow.holds Tryd.pinned (OpenSpec.upto levelRoundTripSpec)

end Rows
end Go.Proofs.YticbfdcfopilfaaDoor
