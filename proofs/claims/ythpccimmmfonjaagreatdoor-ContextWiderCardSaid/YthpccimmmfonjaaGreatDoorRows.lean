/-
  NARROWER THAN 'FOR EVERY INPUT', by the rows' own cells (each row's printed sentence says how): ContextChecks: loops, laid · ContextTexts: loops, laid · ContextRoundTrip: loops, laid · ContextLists: loops, laid · ContextRanges: loops, laid · ContextWider: loops, laid · ContextMoves: loops, laid · ContextStays: loops, laid.
  DERIVED. THE GIVEN ROWS OF THIS SEAT. 8 by the template 'for every input the law returns true; each argument reads behind the call as it read before'; 0 by the template 'total and deterministic' (their statements: YthpccimmmfonjaaGreatDoorTotals.lean).
  GIVEN WITH THE SEED: the statements are not yours to turn. If you find one false, say at which input.
  Laid BY PROGRAM, IN A SANDBOX (cutbox-rows.mjs): the forced cells as the released guide's own fill.sh prints them over the translation ec68eb8d7131f432… (all of the seat's roots in one cut). By AI agents, Wed Nov 11 2026. No macro, syntax, notation, axiom, sorry.
-/
import Derived.Test.YthpccimmmfonjaaGreatDoorChecked
import GoSem.PinnedTables
import GoSem.Claim
import GoSem.ClaimJoined
import GoSem.ClaimMapViews
import Derived.JoinedTies
import Derived.KernelRfl
namespace Go.Proofs.YthpccimmmfonjaaGreatDoor
/- THE CELL 'sum', in the pinned program and in every row, IS THE sha256 OF THE DUMP (.gsa) THAT YthpccimmmfonjaaGreatDoorProg.lean LOADS. Nothing in Lean hashes anything: it is a label: what it is worth is what the hold of that sum in a sandbox is worth. -/
noncomputable def Tryz.pinned : Pinned := { name := "ythpccimmmfonjaagreatdoor", sum := "ec68eb8d7131f432ef87011047268b415d808e8ca2bac6c928d451680376c063", checked := Tryz.checked }
namespace Rows
def none {H : Type} : Left H := { results := [], args := [] }

/- WHAT THE LISTED PACKAGE-LEVEL VARIABLES READ AS WHEN THE CALL BEGINS. Each datum BY PROGRAM (the guide's laid-datum.mjs) off the statement by which the dump's own 'gosem.cut.vars' lays the variable. In a bare row this is a premise. The card (YthpccimmmfonjaaGreatDoorCards.lean) ties it to the program's text. -/
def laid_unicode_utf8_acceptRanges {H : Type} : DataW H := .agg [.agg [.lit (.int .u8 128), .lit (.int .u8 191)], .agg [.lit (.int .u8 160), .lit (.int .u8 191)], .agg [.lit (.int .u8 128), .lit (.int .u8 159)], .agg [.lit (.int .u8 144), .lit (.int .u8 191)], .agg [.lit (.int .u8 128), .lit (.int .u8 143)], .agg [.lit (.int .u8 0), .lit (.int .u8 0)], .agg [.lit (.int .u8 0), .lit (.int .u8 0)], .agg [.lit (.int .u8 0), .lit (.int .u8 0)], .agg [.lit (.int .u8 0), .lit (.int .u8 0)], .agg [.lit (.int .u8 0), .lit (.int .u8 0)], .agg [.lit (.int .u8 0), .lit (.int .u8 0)], .agg [.lit (.int .u8 0), .lit (.int .u8 0)], .agg [.lit (.int .u8 0), .lit (.int .u8 0)], .agg [.lit (.int .u8 0), .lit (.int .u8 0)], .agg [.lit (.int .u8 0), .lit (.int .u8 0)], .agg [.lit (.int .u8 0), .lit (.int .u8 0)]]
/-- One of Go's own tables, pinned by name: the form's constant. -/
def laid_unicode_utf8_first : DataW Unit := Go.Pinned.utf8First

/-- 'accesscontrollaw19.ContextChecks': WHATEVER THE INPUT: true; the input reads as it did. -/
def contextChecksSpec : ChangeSpec := { name := "contextChecks", fn := fun _ => fun
  | [d1, d2, d3] => { results := [.lit (.bool true)], args := [d1, d2, d3] }
  | _ => none }
def contextChecksRow : OpenClaim := { program := "ythpccimmmfonjaagreatdoor", sum := "ec68eb8d7131f432ef87011047268b415d808e8ca2bac6c928d451680376c063", func := "accesscontrol/accesscontrollaw19.ContextChecks", spec := "contextChecks", inPlace := ["internal/abi.NoEscape", "internal/bytealg.MakeNoZero", "internal/bytealg.IndexByteString", "internal/bytealg.IndexString", "internal/bytealg.CountString"], unfollowed := true, recurses := true, named := ["internal/bytealg.MaxLen", "unicode/utf8.first", "unicode/utf8.acceptRanges"], loops := true, apart := false, laid := [("unicode/utf8.acceptRanges", laid_unicode_utf8_acceptRanges), ("unicode/utf8.first", laid_unicode_utf8_first)] }
def ContextChecksSaid : Prop := contextChecksRow.holds Tryz.pinned (OpenSpec.ofChange contextChecksSpec)

/-- ITS FALSE NEIGHBOUR: 'it returns false'. Refute it at one input. -/
def contextChecksWrong : ChangeSpec := { name := "contextChecks", fn := fun _ => fun
  | [d1, d2, d3] => { results := [.lit (.bool false)], args := [d1, d2, d3] }
  | _ => none }
def ContextChecksWrongFalsely : Prop := contextChecksRow.holds Tryz.pinned (OpenSpec.ofChange contextChecksWrong)

/-- 'accesscontrollaw19.ContextTexts': WHATEVER THE INPUT: true; the input reads as it did. -/
def contextTextsSpec : ChangeSpec := { name := "contextTexts", fn := fun _ => fun
  | [d1, d2, d3] => { results := [.lit (.bool true)], args := [d1, d2, d3] }
  | _ => none }
def contextTextsRow : OpenClaim := { program := "ythpccimmmfonjaagreatdoor", sum := "ec68eb8d7131f432ef87011047268b415d808e8ca2bac6c928d451680376c063", func := "accesscontrol/accesscontrollaw19.ContextTexts", spec := "contextTexts", inPlace := ["internal/abi.NoEscape", "internal/bytealg.MakeNoZero", "internal/bytealg.IndexByteString", "internal/bytealg.IndexString", "internal/bytealg.CountString"], unfollowed := true, recurses := true, named := ["internal/bytealg.MaxLen", "unicode/utf8.first", "unicode/utf8.acceptRanges"], loops := true, apart := false, laid := [("unicode/utf8.acceptRanges", laid_unicode_utf8_acceptRanges), ("unicode/utf8.first", laid_unicode_utf8_first)] }
def ContextTextsSaid : Prop := contextTextsRow.holds Tryz.pinned (OpenSpec.ofChange contextTextsSpec)

/-- ITS FALSE NEIGHBOUR: 'it returns false'. Refute it at one input. -/
def contextTextsWrong : ChangeSpec := { name := "contextTexts", fn := fun _ => fun
  | [d1, d2, d3] => { results := [.lit (.bool false)], args := [d1, d2, d3] }
  | _ => none }
def ContextTextsWrongFalsely : Prop := contextTextsRow.holds Tryz.pinned (OpenSpec.ofChange contextTextsWrong)

/-- 'accesscontrollaw19.ContextRoundTrip': WHATEVER THE INPUT: true; the input reads as it did. -/
def contextRoundTripSpec : ChangeSpec := { name := "contextRoundTrip", fn := fun _ => fun
  | [d1, d2, d3] => { results := [.lit (.bool true)], args := [d1, d2, d3] }
  | _ => none }
def contextRoundTripRow : OpenClaim := { program := "ythpccimmmfonjaagreatdoor", sum := "ec68eb8d7131f432ef87011047268b415d808e8ca2bac6c928d451680376c063", func := "accesscontrol/accesscontrollaw19.ContextRoundTrip", spec := "contextRoundTrip", inPlace := ["internal/abi.NoEscape", "internal/bytealg.MakeNoZero", "internal/bytealg.IndexByteString", "internal/bytealg.IndexString", "internal/bytealg.CountString"], unfollowed := true, recurses := true, named := ["internal/bytealg.MaxLen", "unicode/utf8.first", "unicode/utf8.acceptRanges"], loops := true, apart := false, laid := [("unicode/utf8.acceptRanges", laid_unicode_utf8_acceptRanges), ("unicode/utf8.first", laid_unicode_utf8_first)] }
def ContextRoundTripSaid : Prop := contextRoundTripRow.holds Tryz.pinned (OpenSpec.ofChange contextRoundTripSpec)

/-- ITS FALSE NEIGHBOUR: 'it returns false'. Refute it at one input. -/
def contextRoundTripWrong : ChangeSpec := { name := "contextRoundTrip", fn := fun _ => fun
  | [d1, d2, d3] => { results := [.lit (.bool false)], args := [d1, d2, d3] }
  | _ => none }
def ContextRoundTripWrongFalsely : Prop := contextRoundTripRow.holds Tryz.pinned (OpenSpec.ofChange contextRoundTripWrong)

/-- 'accesscontrollaw19.ContextLists': WHATEVER THE INPUT: true; the input reads as it did. -/
def contextListsSpec : ChangeSpec := { name := "contextLists", fn := fun _ => fun
  | [d1, d2] => { results := [.lit (.bool true)], args := [d1, d2] }
  | _ => none }
def contextListsRow : OpenClaim := { program := "ythpccimmmfonjaagreatdoor", sum := "ec68eb8d7131f432ef87011047268b415d808e8ca2bac6c928d451680376c063", func := "accesscontrol/accesscontrollaw19.ContextLists", spec := "contextLists", inPlace := ["internal/abi.NoEscape", "internal/bytealg.MakeNoZero", "internal/bytealg.IndexByteString", "internal/bytealg.IndexString", "internal/bytealg.CountString"], unfollowed := true, recurses := true, named := ["internal/bytealg.MaxLen", "unicode/utf8.first", "unicode/utf8.acceptRanges"], loops := true, apart := false, laid := [("unicode/utf8.acceptRanges", laid_unicode_utf8_acceptRanges), ("unicode/utf8.first", laid_unicode_utf8_first)] }
def ContextListsSaid : Prop := contextListsRow.holds Tryz.pinned (OpenSpec.ofChange contextListsSpec)

/-- ITS FALSE NEIGHBOUR: 'it returns false'. Refute it at one input. -/
def contextListsWrong : ChangeSpec := { name := "contextLists", fn := fun _ => fun
  | [d1, d2] => { results := [.lit (.bool false)], args := [d1, d2] }
  | _ => none }
def ContextListsWrongFalsely : Prop := contextListsRow.holds Tryz.pinned (OpenSpec.ofChange contextListsWrong)

/-- 'accesscontrollaw19.ContextRanges': WHATEVER THE INPUT: true; the input reads as it did. -/
def contextRangesSpec : ChangeSpec := { name := "contextRanges", fn := fun _ => fun
  | [d1, d2, d3] => { results := [.lit (.bool true)], args := [d1, d2, d3] }
  | _ => none }
def contextRangesRow : OpenClaim := { program := "ythpccimmmfonjaagreatdoor", sum := "ec68eb8d7131f432ef87011047268b415d808e8ca2bac6c928d451680376c063", func := "accesscontrol/accesscontrollaw19.ContextRanges", spec := "contextRanges", inPlace := ["internal/abi.NoEscape", "internal/bytealg.MakeNoZero", "internal/bytealg.IndexByteString", "internal/bytealg.IndexString", "internal/bytealg.CountString"], unfollowed := true, recurses := true, named := ["internal/bytealg.MaxLen", "unicode/utf8.first", "unicode/utf8.acceptRanges"], loops := true, apart := false, laid := [("unicode/utf8.acceptRanges", laid_unicode_utf8_acceptRanges), ("unicode/utf8.first", laid_unicode_utf8_first)] }
def ContextRangesSaid : Prop := contextRangesRow.holds Tryz.pinned (OpenSpec.ofChange contextRangesSpec)

/-- ITS FALSE NEIGHBOUR: 'it returns false'. Refute it at one input. -/
def contextRangesWrong : ChangeSpec := { name := "contextRanges", fn := fun _ => fun
  | [d1, d2, d3] => { results := [.lit (.bool false)], args := [d1, d2, d3] }
  | _ => none }
def ContextRangesWrongFalsely : Prop := contextRangesRow.holds Tryz.pinned (OpenSpec.ofChange contextRangesWrong)

/-- 'accesscontrollaw19.ContextWider': WHATEVER THE INPUT: true; the input reads as it did. -/
def contextWiderSpec : ChangeSpec := { name := "contextWider", fn := fun _ => fun
  | [d1, d2, d3] => { results := [.lit (.bool true)], args := [d1, d2, d3] }
  | _ => none }
def contextWiderRow : OpenClaim := { program := "ythpccimmmfonjaagreatdoor", sum := "ec68eb8d7131f432ef87011047268b415d808e8ca2bac6c928d451680376c063", func := "accesscontrol/accesscontrollaw19.ContextWider", spec := "contextWider", inPlace := ["internal/abi.NoEscape", "internal/bytealg.MakeNoZero", "internal/bytealg.IndexByteString", "internal/bytealg.IndexString", "internal/bytealg.CountString"], unfollowed := true, recurses := true, named := ["internal/bytealg.MaxLen", "unicode/utf8.first", "unicode/utf8.acceptRanges"], loops := true, apart := false, laid := [("unicode/utf8.acceptRanges", laid_unicode_utf8_acceptRanges), ("unicode/utf8.first", laid_unicode_utf8_first)] }
def ContextWiderSaid : Prop := contextWiderRow.holds Tryz.pinned (OpenSpec.ofChange contextWiderSpec)

/-- ITS FALSE NEIGHBOUR: 'it returns false'. Refute it at one input. -/
def contextWiderWrong : ChangeSpec := { name := "contextWider", fn := fun _ => fun
  | [d1, d2, d3] => { results := [.lit (.bool false)], args := [d1, d2, d3] }
  | _ => none }
def ContextWiderWrongFalsely : Prop := contextWiderRow.holds Tryz.pinned (OpenSpec.ofChange contextWiderWrong)

/-- 'accesscontrollaw19.ContextMoves': WHATEVER THE INPUT: true; the input reads as it did. -/
def contextMovesSpec : ChangeSpec := { name := "contextMoves", fn := fun _ => fun
  | [d1, d2, d3] => { results := [.lit (.bool true)], args := [d1, d2, d3] }
  | _ => none }
def contextMovesRow : OpenClaim := { program := "ythpccimmmfonjaagreatdoor", sum := "ec68eb8d7131f432ef87011047268b415d808e8ca2bac6c928d451680376c063", func := "accesscontrol/accesscontrollaw19.ContextMoves", spec := "contextMoves", inPlace := ["internal/abi.NoEscape", "internal/bytealg.MakeNoZero", "internal/bytealg.IndexByteString", "internal/bytealg.IndexString", "internal/bytealg.CountString"], unfollowed := true, recurses := true, named := ["internal/bytealg.MaxLen", "unicode/utf8.first", "unicode/utf8.acceptRanges"], loops := true, apart := false, laid := [("unicode/utf8.acceptRanges", laid_unicode_utf8_acceptRanges), ("unicode/utf8.first", laid_unicode_utf8_first)] }
def ContextMovesSaid : Prop := contextMovesRow.holds Tryz.pinned (OpenSpec.ofChange contextMovesSpec)

/-- ITS FALSE NEIGHBOUR: 'it returns false'. Refute it at one input. -/
def contextMovesWrong : ChangeSpec := { name := "contextMoves", fn := fun _ => fun
  | [d1, d2, d3] => { results := [.lit (.bool false)], args := [d1, d2, d3] }
  | _ => none }
def ContextMovesWrongFalsely : Prop := contextMovesRow.holds Tryz.pinned (OpenSpec.ofChange contextMovesWrong)

/-- 'accesscontrollaw19.ContextStays': WHATEVER THE INPUT: true; the input reads as it did. -/
def contextStaysSpec : ChangeSpec := { name := "contextStays", fn := fun _ => fun
  | [d1, d2, d3] => { results := [.lit (.bool true)], args := [d1, d2, d3] }
  | _ => none }
def contextStaysRow : OpenClaim := { program := "ythpccimmmfonjaagreatdoor", sum := "ec68eb8d7131f432ef87011047268b415d808e8ca2bac6c928d451680376c063", func := "accesscontrol/accesscontrollaw19.ContextStays", spec := "contextStays", inPlace := ["internal/abi.NoEscape", "internal/bytealg.MakeNoZero", "internal/bytealg.IndexByteString", "internal/bytealg.IndexString", "internal/bytealg.CountString"], unfollowed := true, recurses := true, named := ["internal/bytealg.MaxLen", "unicode/utf8.first", "unicode/utf8.acceptRanges"], loops := true, apart := false, laid := [("unicode/utf8.acceptRanges", laid_unicode_utf8_acceptRanges), ("unicode/utf8.first", laid_unicode_utf8_first)] }
def ContextStaysSaid : Prop := contextStaysRow.holds Tryz.pinned (OpenSpec.ofChange contextStaysSpec)

/-- ITS FALSE NEIGHBOUR: 'it returns false'. Refute it at one input. -/
def contextStaysWrong : ChangeSpec := { name := "contextStays", fn := fun _ => fun
  | [d1, d2, d3] => { results := [.lit (.bool false)], args := [d1, d2, d3] }
  | _ => none }
def ContextStaysWrongFalsely : Prop := contextStaysRow.holds Tryz.pinned (OpenSpec.ofChange contextStaysWrong)

/- THE SECOND FORM. 'bulk': how many values and letters a reading holds, each counted each time it is reached (what is shared counts as often as it is met; a slice's spare places count too). A statement '..UptoSaid' is the law's where the arguments, and the package variables that the reading takes, are together of bulk at most 1048576: NARROWER than '..Said'. Prove '..Said' where nothing that the law and all that it calls make is longer than what came in: it says more and counts as full. Else prove '..UptoSaid'. A law counts once. -/
mutual
def uptoBulk {H : Type} : DataW H → Nat
  | .lit (.string bytes) => bytes.length + 1
  | .lit _ => 1
  | .nil => 1
  | .ptr d => uptoBulk d + 1
  | .slice elems spare => uptoBulkAll elems + uptoBulkAll spare + 1
  | .agg parts => uptoBulkAll parts + 1
  | .iface _ d => uptoBulk d + 1
  | .map entries => uptoBulkEntries entries + 1
  | .held _ => 1
def uptoBulkAll {H : Type} : List (DataW H) → Nat
  | [] => 0
  | d :: r => uptoBulk d + uptoBulkAll r
def uptoBulkEntries {H : Type} : List (Lit × DataW H) → Nat
  | [] => 0
  | x :: r => uptoBulkEntry x + uptoBulkEntries r
def uptoBulkEntry {H : Type} : Lit × DataW H → Nat
  | (.string bytes, d) => bytes.length + uptoBulk d + 1
  | (_, d) => uptoBulk d + 1
 end
def uptoSmall : (H : Type) → List (DataW H) → Bool := fun _ ds => decide (uptoBulkAll ds ≤ 1048576)
def OpenSpec.upto (s : _root_.Go.ChangeSpec) : _root_.Go.OpenSpec := { _root_.Go.OpenSpec.ofChange s with cond := some uptoSmall }

/-- 'accesscontrollaw19.ContextChecks', WHERE WHAT IT READS IS OF BULK AT MOST 1048576: true; the input reads as it did. -/
def contextChecksUptoRow : OpenClaim := { program := "ythpccimmmfonjaagreatdoor", sum := "ec68eb8d7131f432ef87011047268b415d808e8ca2bac6c928d451680376c063", func := "accesscontrol/accesscontrollaw19.ContextChecks", spec := "contextChecks", inPlace := ["internal/abi.NoEscape", "internal/bytealg.MakeNoZero", "internal/bytealg.IndexByteString", "internal/bytealg.IndexString", "internal/bytealg.CountString"], unfollowed := true, recurses := true, named := ["internal/bytealg.MaxLen", "unicode/utf8.first", "unicode/utf8.acceptRanges"], loops := true, apart := false, laid := [("unicode/utf8.acceptRanges", laid_unicode_utf8_acceptRanges), ("unicode/utf8.first", laid_unicode_utf8_first)], narrowed := true }
def ContextChecksUptoSaid : Prop := contextChecksUptoRow.holds Tryz.pinned (OpenSpec.upto contextChecksSpec)

/-- 'accesscontrollaw19.ContextTexts', WHERE WHAT IT READS IS OF BULK AT MOST 1048576: true; the input reads as it did. -/
def contextTextsUptoRow : OpenClaim := { program := "ythpccimmmfonjaagreatdoor", sum := "ec68eb8d7131f432ef87011047268b415d808e8ca2bac6c928d451680376c063", func := "accesscontrol/accesscontrollaw19.ContextTexts", spec := "contextTexts", inPlace := ["internal/abi.NoEscape", "internal/bytealg.MakeNoZero", "internal/bytealg.IndexByteString", "internal/bytealg.IndexString", "internal/bytealg.CountString"], unfollowed := true, recurses := true, named := ["internal/bytealg.MaxLen", "unicode/utf8.first", "unicode/utf8.acceptRanges"], loops := true, apart := false, laid := [("unicode/utf8.acceptRanges", laid_unicode_utf8_acceptRanges), ("unicode/utf8.first", laid_unicode_utf8_first)], narrowed := true }
def ContextTextsUptoSaid : Prop := contextTextsUptoRow.holds Tryz.pinned (OpenSpec.upto contextTextsSpec)

/-- 'accesscontrollaw19.ContextRoundTrip', WHERE WHAT IT READS IS OF BULK AT MOST 1048576: true; the input reads as it did. -/
def contextRoundTripUptoRow : OpenClaim := { program := "ythpccimmmfonjaagreatdoor", sum := "ec68eb8d7131f432ef87011047268b415d808e8ca2bac6c928d451680376c063", func := "accesscontrol/accesscontrollaw19.ContextRoundTrip", spec := "contextRoundTrip", inPlace := ["internal/abi.NoEscape", "internal/bytealg.MakeNoZero", "internal/bytealg.IndexByteString", "internal/bytealg.IndexString", "internal/bytealg.CountString"], unfollowed := true, recurses := true, named := ["internal/bytealg.MaxLen", "unicode/utf8.first", "unicode/utf8.acceptRanges"], loops := true, apart := false, laid := [("unicode/utf8.acceptRanges", laid_unicode_utf8_acceptRanges), ("unicode/utf8.first", laid_unicode_utf8_first)], narrowed := true }
def ContextRoundTripUptoSaid : Prop := contextRoundTripUptoRow.holds Tryz.pinned (OpenSpec.upto contextRoundTripSpec)

/-- 'accesscontrollaw19.ContextLists', WHERE WHAT IT READS IS OF BULK AT MOST 1048576: true; the input reads as it did. -/
def contextListsUptoRow : OpenClaim := { program := "ythpccimmmfonjaagreatdoor", sum := "ec68eb8d7131f432ef87011047268b415d808e8ca2bac6c928d451680376c063", func := "accesscontrol/accesscontrollaw19.ContextLists", spec := "contextLists", inPlace := ["internal/abi.NoEscape", "internal/bytealg.MakeNoZero", "internal/bytealg.IndexByteString", "internal/bytealg.IndexString", "internal/bytealg.CountString"], unfollowed := true, recurses := true, named := ["internal/bytealg.MaxLen", "unicode/utf8.first", "unicode/utf8.acceptRanges"], loops := true, apart := false, laid := [("unicode/utf8.acceptRanges", laid_unicode_utf8_acceptRanges), ("unicode/utf8.first", laid_unicode_utf8_first)], narrowed := true }
def ContextListsUptoSaid : Prop := contextListsUptoRow.holds Tryz.pinned (OpenSpec.upto contextListsSpec)

/-- 'accesscontrollaw19.ContextRanges', WHERE WHAT IT READS IS OF BULK AT MOST 1048576: true; the input reads as it did. -/
def contextRangesUptoRow : OpenClaim := { program := "ythpccimmmfonjaagreatdoor", sum := "ec68eb8d7131f432ef87011047268b415d808e8ca2bac6c928d451680376c063", func := "accesscontrol/accesscontrollaw19.ContextRanges", spec := "contextRanges", inPlace := ["internal/abi.NoEscape", "internal/bytealg.MakeNoZero", "internal/bytealg.IndexByteString", "internal/bytealg.IndexString", "internal/bytealg.CountString"], unfollowed := true, recurses := true, named := ["internal/bytealg.MaxLen", "unicode/utf8.first", "unicode/utf8.acceptRanges"], loops := true, apart := false, laid := [("unicode/utf8.acceptRanges", laid_unicode_utf8_acceptRanges), ("unicode/utf8.first", laid_unicode_utf8_first)], narrowed := true }
def ContextRangesUptoSaid : Prop := contextRangesUptoRow.holds Tryz.pinned (OpenSpec.upto contextRangesSpec)

/-- 'accesscontrollaw19.ContextWider', WHERE WHAT IT READS IS OF BULK AT MOST 1048576: true; the input reads as it did. -/
def contextWiderUptoRow : OpenClaim := { program := "ythpccimmmfonjaagreatdoor", sum := "ec68eb8d7131f432ef87011047268b415d808e8ca2bac6c928d451680376c063", func := "accesscontrol/accesscontrollaw19.ContextWider", spec := "contextWider", inPlace := ["internal/abi.NoEscape", "internal/bytealg.MakeNoZero", "internal/bytealg.IndexByteString", "internal/bytealg.IndexString", "internal/bytealg.CountString"], unfollowed := true, recurses := true, named := ["internal/bytealg.MaxLen", "unicode/utf8.first", "unicode/utf8.acceptRanges"], loops := true, apart := false, laid := [("unicode/utf8.acceptRanges", laid_unicode_utf8_acceptRanges), ("unicode/utf8.first", laid_unicode_utf8_first)], narrowed := true }
def ContextWiderUptoSaid : Prop := contextWiderUptoRow.holds Tryz.pinned (OpenSpec.upto contextWiderSpec)

/-- 'accesscontrollaw19.ContextMoves', WHERE WHAT IT READS IS OF BULK AT MOST 1048576: true; the input reads as it did. -/
def contextMovesUptoRow : OpenClaim := { program := "ythpccimmmfonjaagreatdoor", sum := "ec68eb8d7131f432ef87011047268b415d808e8ca2bac6c928d451680376c063", func := "accesscontrol/accesscontrollaw19.ContextMoves", spec := "contextMoves", inPlace := ["internal/abi.NoEscape", "internal/bytealg.MakeNoZero", "internal/bytealg.IndexByteString", "internal/bytealg.IndexString", "internal/bytealg.CountString"], unfollowed := true, recurses := true, named := ["internal/bytealg.MaxLen", "unicode/utf8.first", "unicode/utf8.acceptRanges"], loops := true, apart := false, laid := [("unicode/utf8.acceptRanges", laid_unicode_utf8_acceptRanges), ("unicode/utf8.first", laid_unicode_utf8_first)], narrowed := true }
def ContextMovesUptoSaid : Prop := contextMovesUptoRow.holds Tryz.pinned (OpenSpec.upto contextMovesSpec)

/-- 'accesscontrollaw19.ContextStays', WHERE WHAT IT READS IS OF BULK AT MOST 1048576: true; the input reads as it did. -/
def contextStaysUptoRow : OpenClaim := { program := "ythpccimmmfonjaagreatdoor", sum := "ec68eb8d7131f432ef87011047268b415d808e8ca2bac6c928d451680376c063", func := "accesscontrol/accesscontrollaw19.ContextStays", spec := "contextStays", inPlace := ["internal/abi.NoEscape", "internal/bytealg.MakeNoZero", "internal/bytealg.IndexByteString", "internal/bytealg.IndexString", "internal/bytealg.CountString"], unfollowed := true, recurses := true, named := ["internal/bytealg.MaxLen", "unicode/utf8.first", "unicode/utf8.acceptRanges"], loops := true, apart := false, laid := [("unicode/utf8.acceptRanges", laid_unicode_utf8_acceptRanges), ("unicode/utf8.first", laid_unicode_utf8_first)], narrowed := true }
def ContextStaysUptoSaid : Prop := contextStaysUptoRow.holds Tryz.pinned (OpenSpec.upto contextStaysSpec)

end Rows
end Go.Proofs.YthpccimmmfonjaaGreatDoor
