/-
  NARROWER THAN 'FOR EVERY INPUT', by the rows' own cells (each row's printed sentence says how): PathspecChecks: laid · PathspecMatch: laid · PathspecLess: laid · PathspecLookup: laid · PathspecOverlap: laid · PathspecLiteral: laid · PathspecStems: laid.
  DERIVED. THE GIVEN ROWS OF THIS SEAT. 7 by the template 'for every input the law returns true; each argument reads behind the call as it read before'; 0 by the template 'total and deterministic' (their statements: YtdnoonnanhnkaaaDoorTotals.lean).
  GIVEN WITH THE SEED: the statements are not yours to turn. If you find one false, say at which input.
  Laid BY PROGRAM, IN A SANDBOX (cutbox-rows.mjs): the forced cells as the released guide's own fill.sh prints them over the translation 295188322e5ba15a… (all of the seat's roots in one cut). By AI agents, Wed Nov 11 2026. No macro, syntax, notation, axiom, sorry.
-/
import Derived.Test.YtdnoonnanhnkaaaDoorChecked
import GoSem.PinnedTables
import GoSem.Claim
import GoSem.ClaimJoined
import GoSem.ClaimMapViews
import Derived.JoinedTies
import Derived.KernelRfl
namespace Go.Proofs.YtdnoonnanhnkaaaDoor
/- THE CELL 'sum', in the pinned program and in every row, IS THE sha256 OF THE DUMP (.gsa) THAT YtdnoonnanhnkaaaDoorProg.lean LOADS. Nothing in Lean hashes anything: it is a label: what it is worth is what the hold of that sum in a sandbox is worth. -/
noncomputable def Tryd.pinned : Pinned := { name := "ytdnoonnanhnkaaadoor", sum := "295188322e5ba15a8da7a574cbbc01103c2f5d186963859c64b66ab62a12fbe7", checked := Tryd.checked }
namespace Rows
def none {H : Type} : Left H := { results := [], args := [] }

/- WHAT THE LISTED PACKAGE-LEVEL VARIABLES READ AS WHEN THE CALL BEGINS. Each datum BY PROGRAM (the guide's laid-datum.mjs) off the statement by which the dump's own 'gosem.cut.vars' lays the variable. In a bare row this is a premise. The card (YtdnoonnanhnkaaaDoorCards.lean) ties it to the program's text. -/
def laid_unicode_utf8_acceptRanges {H : Type} : DataW H := .agg [.agg [.lit (.int .u8 128), .lit (.int .u8 191)], .agg [.lit (.int .u8 160), .lit (.int .u8 191)], .agg [.lit (.int .u8 128), .lit (.int .u8 159)], .agg [.lit (.int .u8 144), .lit (.int .u8 191)], .agg [.lit (.int .u8 128), .lit (.int .u8 143)], .agg [.lit (.int .u8 0), .lit (.int .u8 0)], .agg [.lit (.int .u8 0), .lit (.int .u8 0)], .agg [.lit (.int .u8 0), .lit (.int .u8 0)], .agg [.lit (.int .u8 0), .lit (.int .u8 0)], .agg [.lit (.int .u8 0), .lit (.int .u8 0)], .agg [.lit (.int .u8 0), .lit (.int .u8 0)], .agg [.lit (.int .u8 0), .lit (.int .u8 0)], .agg [.lit (.int .u8 0), .lit (.int .u8 0)], .agg [.lit (.int .u8 0), .lit (.int .u8 0)], .agg [.lit (.int .u8 0), .lit (.int .u8 0)], .agg [.lit (.int .u8 0), .lit (.int .u8 0)]]
/-- One of Go's own tables, pinned by name: the form's constant. -/
def laid_unicode_utf8_first : DataW Unit := Go.Pinned.utf8First

/-- 'accesscontrollaw33.PathspecChecks': WHATEVER THE INPUT: true; the input reads as it did. -/
def pathspecChecksSpec : ChangeSpec := { name := "pathspecChecks", fn := fun _ => fun
  | [d1, d2] => { results := [.lit (.bool true)], args := [d1, d2] }
  | _ => none }
def pathspecChecksRow : OpenClaim := { program := "ytdnoonnanhnkaaadoor", sum := "295188322e5ba15a8da7a574cbbc01103c2f5d186963859c64b66ab62a12fbe7", func := "accesscontrol/accesscontrollaw33.PathspecChecks", spec := "pathspecChecks", inPlace := ["internal/bytealg.CountString", "internal/bytealg.IndexByteString", "internal/bytealg.IndexString"], unfollowed := true, recurses := true, named := ["unicode/utf8.first", "unicode/utf8.acceptRanges", "internal/bytealg.MaxLen"], apart := false, laid := [("unicode/utf8.acceptRanges", laid_unicode_utf8_acceptRanges), ("unicode/utf8.first", laid_unicode_utf8_first)] }
def PathspecChecksSaid : Prop := pathspecChecksRow.holds Tryd.pinned (OpenSpec.ofChange pathspecChecksSpec)

/-- ITS FALSE NEIGHBOUR: 'it returns false'. Refute it at one input. -/
def pathspecChecksWrong : ChangeSpec := { name := "pathspecChecks", fn := fun _ => fun
  | [d1, d2] => { results := [.lit (.bool false)], args := [d1, d2] }
  | _ => none }
def PathspecChecksWrongFalsely : Prop := pathspecChecksRow.holds Tryd.pinned (OpenSpec.ofChange pathspecChecksWrong)

/-- 'accesscontrollaw33.PathspecMatch': WHATEVER THE INPUT: true; the input reads as it did. -/
def pathspecMatchSpec : ChangeSpec := { name := "pathspecMatch", fn := fun _ => fun
  | [d1, d2] => { results := [.lit (.bool true)], args := [d1, d2] }
  | _ => none }
def pathspecMatchRow : OpenClaim := { program := "ytdnoonnanhnkaaadoor", sum := "295188322e5ba15a8da7a574cbbc01103c2f5d186963859c64b66ab62a12fbe7", func := "accesscontrol/accesscontrollaw33.PathspecMatch", spec := "pathspecMatch", inPlace := ["internal/bytealg.CountString", "internal/bytealg.IndexByteString", "internal/bytealg.IndexString"], unfollowed := true, recurses := true, named := ["unicode/utf8.first", "unicode/utf8.acceptRanges", "internal/bytealg.MaxLen"], apart := false, laid := [("unicode/utf8.acceptRanges", laid_unicode_utf8_acceptRanges), ("unicode/utf8.first", laid_unicode_utf8_first)] }
def PathspecMatchSaid : Prop := pathspecMatchRow.holds Tryd.pinned (OpenSpec.ofChange pathspecMatchSpec)

/-- ITS FALSE NEIGHBOUR: 'it returns false'. Refute it at one input. -/
def pathspecMatchWrong : ChangeSpec := { name := "pathspecMatch", fn := fun _ => fun
  | [d1, d2] => { results := [.lit (.bool false)], args := [d1, d2] }
  | _ => none }
def PathspecMatchWrongFalsely : Prop := pathspecMatchRow.holds Tryd.pinned (OpenSpec.ofChange pathspecMatchWrong)

/-- 'accesscontrollaw33.PathspecLess': WHATEVER THE INPUT: true; the input reads as it did. -/
def pathspecLessSpec : ChangeSpec := { name := "pathspecLess", fn := fun _ => fun
  | [d1, d2, d3] => { results := [.lit (.bool true)], args := [d1, d2, d3] }
  | _ => none }
def pathspecLessRow : OpenClaim := { program := "ytdnoonnanhnkaaadoor", sum := "295188322e5ba15a8da7a574cbbc01103c2f5d186963859c64b66ab62a12fbe7", func := "accesscontrol/accesscontrollaw33.PathspecLess", spec := "pathspecLess", inPlace := ["internal/bytealg.CountString", "internal/bytealg.IndexByteString", "internal/bytealg.IndexString"], unfollowed := true, recurses := true, named := ["unicode/utf8.first", "unicode/utf8.acceptRanges", "internal/bytealg.MaxLen"], apart := false, laid := [("unicode/utf8.acceptRanges", laid_unicode_utf8_acceptRanges), ("unicode/utf8.first", laid_unicode_utf8_first)] }
def PathspecLessSaid : Prop := pathspecLessRow.holds Tryd.pinned (OpenSpec.ofChange pathspecLessSpec)

/-- ITS FALSE NEIGHBOUR: 'it returns false'. Refute it at one input. -/
def pathspecLessWrong : ChangeSpec := { name := "pathspecLess", fn := fun _ => fun
  | [d1, d2, d3] => { results := [.lit (.bool false)], args := [d1, d2, d3] }
  | _ => none }
def PathspecLessWrongFalsely : Prop := pathspecLessRow.holds Tryd.pinned (OpenSpec.ofChange pathspecLessWrong)

/-- 'accesscontrollaw33.PathspecLookup': WHATEVER THE INPUT: true; the input reads as it did. -/
def pathspecLookupSpec : ChangeSpec := { name := "pathspecLookup", fn := fun _ => fun
  | [d1, d2, d3] => { results := [.lit (.bool true)], args := [d1, d2, d3] }
  | _ => none }
def pathspecLookupRow : OpenClaim := { program := "ytdnoonnanhnkaaadoor", sum := "295188322e5ba15a8da7a574cbbc01103c2f5d186963859c64b66ab62a12fbe7", func := "accesscontrol/accesscontrollaw33.PathspecLookup", spec := "pathspecLookup", inPlace := ["internal/bytealg.CountString", "internal/bytealg.IndexByteString", "internal/bytealg.IndexString"], unfollowed := true, recurses := true, named := ["unicode/utf8.first", "unicode/utf8.acceptRanges", "internal/bytealg.MaxLen"], apart := false, laid := [("unicode/utf8.acceptRanges", laid_unicode_utf8_acceptRanges), ("unicode/utf8.first", laid_unicode_utf8_first)] }
def PathspecLookupSaid : Prop := pathspecLookupRow.holds Tryd.pinned (OpenSpec.ofChange pathspecLookupSpec)

/-- ITS FALSE NEIGHBOUR: 'it returns false'. Refute it at one input. -/
def pathspecLookupWrong : ChangeSpec := { name := "pathspecLookup", fn := fun _ => fun
  | [d1, d2, d3] => { results := [.lit (.bool false)], args := [d1, d2, d3] }
  | _ => none }
def PathspecLookupWrongFalsely : Prop := pathspecLookupRow.holds Tryd.pinned (OpenSpec.ofChange pathspecLookupWrong)

/-- 'accesscontrollaw33.PathspecOverlap': WHATEVER THE INPUT: true; the input reads as it did. -/
def pathspecOverlapSpec : ChangeSpec := { name := "pathspecOverlap", fn := fun _ => fun
  | [d1, d2, d3] => { results := [.lit (.bool true)], args := [d1, d2, d3] }
  | _ => none }
def pathspecOverlapRow : OpenClaim := { program := "ytdnoonnanhnkaaadoor", sum := "295188322e5ba15a8da7a574cbbc01103c2f5d186963859c64b66ab62a12fbe7", func := "accesscontrol/accesscontrollaw33.PathspecOverlap", spec := "pathspecOverlap", inPlace := ["internal/bytealg.CountString", "internal/bytealg.IndexByteString", "internal/bytealg.IndexString"], unfollowed := true, recurses := true, named := ["unicode/utf8.first", "unicode/utf8.acceptRanges", "internal/bytealg.MaxLen"], apart := false, laid := [("unicode/utf8.acceptRanges", laid_unicode_utf8_acceptRanges), ("unicode/utf8.first", laid_unicode_utf8_first)] }
def PathspecOverlapSaid : Prop := pathspecOverlapRow.holds Tryd.pinned (OpenSpec.ofChange pathspecOverlapSpec)

/-- ITS FALSE NEIGHBOUR: 'it returns false'. Refute it at one input. -/
def pathspecOverlapWrong : ChangeSpec := { name := "pathspecOverlap", fn := fun _ => fun
  | [d1, d2, d3] => { results := [.lit (.bool false)], args := [d1, d2, d3] }
  | _ => none }
def PathspecOverlapWrongFalsely : Prop := pathspecOverlapRow.holds Tryd.pinned (OpenSpec.ofChange pathspecOverlapWrong)

/-- 'accesscontrollaw33.PathspecLiteral': WHATEVER THE INPUT: true; the input reads as it did. -/
def pathspecLiteralSpec : ChangeSpec := { name := "pathspecLiteral", fn := fun _ => fun
  | [d1, d2] => { results := [.lit (.bool true)], args := [d1, d2] }
  | _ => none }
def pathspecLiteralRow : OpenClaim := { program := "ytdnoonnanhnkaaadoor", sum := "295188322e5ba15a8da7a574cbbc01103c2f5d186963859c64b66ab62a12fbe7", func := "accesscontrol/accesscontrollaw33.PathspecLiteral", spec := "pathspecLiteral", inPlace := ["internal/bytealg.CountString", "internal/bytealg.IndexByteString", "internal/bytealg.IndexString"], unfollowed := true, recurses := true, named := ["unicode/utf8.first", "unicode/utf8.acceptRanges", "internal/bytealg.MaxLen"], apart := false, laid := [("unicode/utf8.acceptRanges", laid_unicode_utf8_acceptRanges), ("unicode/utf8.first", laid_unicode_utf8_first)] }
def PathspecLiteralSaid : Prop := pathspecLiteralRow.holds Tryd.pinned (OpenSpec.ofChange pathspecLiteralSpec)

/-- ITS FALSE NEIGHBOUR: 'it returns false'. Refute it at one input. -/
def pathspecLiteralWrong : ChangeSpec := { name := "pathspecLiteral", fn := fun _ => fun
  | [d1, d2] => { results := [.lit (.bool false)], args := [d1, d2] }
  | _ => none }
def PathspecLiteralWrongFalsely : Prop := pathspecLiteralRow.holds Tryd.pinned (OpenSpec.ofChange pathspecLiteralWrong)

/-- 'accesscontrollaw33.PathspecStems': WHATEVER THE INPUT: true; the input reads as it did. -/
def pathspecStemsSpec : ChangeSpec := { name := "pathspecStems", fn := fun _ => fun
  | [d1, d2] => { results := [.lit (.bool true)], args := [d1, d2] }
  | _ => none }
def pathspecStemsRow : OpenClaim := { program := "ytdnoonnanhnkaaadoor", sum := "295188322e5ba15a8da7a574cbbc01103c2f5d186963859c64b66ab62a12fbe7", func := "accesscontrol/accesscontrollaw33.PathspecStems", spec := "pathspecStems", inPlace := ["internal/bytealg.CountString", "internal/bytealg.IndexByteString", "internal/bytealg.IndexString"], unfollowed := true, recurses := true, named := ["unicode/utf8.first", "unicode/utf8.acceptRanges", "internal/bytealg.MaxLen"], apart := false, laid := [("unicode/utf8.acceptRanges", laid_unicode_utf8_acceptRanges), ("unicode/utf8.first", laid_unicode_utf8_first)] }
def PathspecStemsSaid : Prop := pathspecStemsRow.holds Tryd.pinned (OpenSpec.ofChange pathspecStemsSpec)

/-- ITS FALSE NEIGHBOUR: 'it returns false'. Refute it at one input. -/
def pathspecStemsWrong : ChangeSpec := { name := "pathspecStems", fn := fun _ => fun
  | [d1, d2] => { results := [.lit (.bool false)], args := [d1, d2] }
  | _ => none }
def PathspecStemsWrongFalsely : Prop := pathspecStemsRow.holds Tryd.pinned (OpenSpec.ofChange pathspecStemsWrong)

/- THE SECOND FORM. 'bulk': how many values and letters a reading holds, each counted each time it is reached (what is shared counts as often as it is met; a slice's spare places count too). A statement '..UptoSaid' is the law's where the arguments, and the package variables that the reading takes, are together of bulk at most 1048576: NARROWER than '..Said'. Prove '..Said' where nothing that the law and all that it calls make is longer than what came in: it says more and counts as full. Else prove '..UptoSaid'. A law counts once. -/
mutual
def uptoBulk {H : Type} : DataW H → Nat
  | .lit (.string bytes) => bytes.length + 1
  | .lit _ => 1
  | .nil => 1
  | .ptr d => uptoBulk d + 1
  | .slice elems spare => uptoBulkAll elems + uptoBulkAll spare + 1
  | .agg parts => uptoBulkAll parts + 1
  | .iface _ d => uptoBulk d + 1
  | .map entries => uptoBulkEntries entries + 1
  | .held _ => 1
def uptoBulkAll {H : Type} : List (DataW H) → Nat
  | [] => 0
  | d :: r => uptoBulk d + uptoBulkAll r
def uptoBulkEntries {H : Type} : List (Lit × DataW H) → Nat
  | [] => 0
  | x :: r => uptoBulkEntry x + uptoBulkEntries r
def uptoBulkEntry {H : Type} : Lit × DataW H → Nat
  | (.string bytes, d) => bytes.length + uptoBulk d + 1
  | (_, d) => uptoBulk d + 1
 end
def uptoSmall : (H : Type) → List (DataW H) → Bool := fun _ ds => decide (uptoBulkAll ds ≤ 1048576)
def OpenSpec.upto (s : _root_.Go.ChangeSpec) : _root_.Go.OpenSpec := { _root_.Go.OpenSpec.ofChange s with cond := some uptoSmall }

/-- 'accesscontrollaw33.PathspecChecks', WHERE WHAT IT READS IS OF BULK AT MOST 1048576: true; the input reads as it did. -/
def pathspecChecksUptoRow : OpenClaim := { program := "ytdnoonnanhnkaaadoor", sum := "295188322e5ba15a8da7a574cbbc01103c2f5d186963859c64b66ab62a12fbe7", func := "accesscontrol/accesscontrollaw33.PathspecChecks", spec := "pathspecChecks", inPlace := ["internal/bytealg.CountString", "internal/bytealg.IndexByteString", "internal/bytealg.IndexString"], unfollowed := true, recurses := true, named := ["unicode/utf8.first", "unicode/utf8.acceptRanges", "internal/bytealg.MaxLen"], apart := false, laid := [("unicode/utf8.acceptRanges", laid_unicode_utf8_acceptRanges), ("unicode/utf8.first", laid_unicode_utf8_first)], narrowed := true }
def PathspecChecksUptoSaid : Prop := pathspecChecksUptoRow.holds Tryd.pinned (OpenSpec.upto pathspecChecksSpec)

/-- 'accesscontrollaw33.PathspecMatch', WHERE WHAT IT READS IS OF BULK AT MOST 1048576: true; the input reads as it did. -/
def pathspecMatchUptoRow : OpenClaim := { program := "ytdnoonnanhnkaaadoor", sum := "295188322e5ba15a8da7a574cbbc01103c2f5d186963859c64b66ab62a12fbe7", func := "accesscontrol/accesscontrollaw33.PathspecMatch", spec := "pathspecMatch", inPlace := ["internal/bytealg.CountString", "internal/bytealg.IndexByteString", "internal/bytealg.IndexString"], unfollowed := true, recurses := true, named := ["unicode/utf8.first", "unicode/utf8.acceptRanges", "internal/bytealg.MaxLen"], apart := false, laid := [("unicode/utf8.acceptRanges", laid_unicode_utf8_acceptRanges), ("unicode/utf8.first", laid_unicode_utf8_first)], narrowed := true }
def PathspecMatchUptoSaid : Prop := pathspecMatchUptoRow.holds Tryd.pinned (OpenSpec.upto pathspecMatchSpec)

/-- 'accesscontrollaw33.PathspecLess', WHERE WHAT IT READS IS OF BULK AT MOST 1048576: true; the input reads as it did. -/
def pathspecLessUptoRow : OpenClaim := { program := "ytdnoonnanhnkaaadoor", sum := "295188322e5ba15a8da7a574cbbc01103c2f5d186963859c64b66ab62a12fbe7", func := "accesscontrol/accesscontrollaw33.PathspecLess", spec := "pathspecLess", inPlace := ["internal/bytealg.CountString", "internal/bytealg.IndexByteString", "internal/bytealg.IndexString"], unfollowed := true, recurses := true, named := ["unicode/utf8.first", "unicode/utf8.acceptRanges", "internal/bytealg.MaxLen"], apart := false, laid := [("unicode/utf8.acceptRanges", laid_unicode_utf8_acceptRanges), ("unicode/utf8.first", laid_unicode_utf8_first)], narrowed := true }
def PathspecLessUptoSaid : Prop := pathspecLessUptoRow.holds Tryd.pinned (OpenSpec.upto pathspecLessSpec)

/-- 'accesscontrollaw33.PathspecLookup', WHERE WHAT IT READS IS OF BULK AT MOST 1048576: true; the input reads as it did. -/
def pathspecLookupUptoRow : OpenClaim := { program := "ytdnoonnanhnkaaadoor", sum := "295188322e5ba15a8da7a574cbbc01103c2f5d186963859c64b66ab62a12fbe7", func := "accesscontrol/accesscontrollaw33.PathspecLookup", spec := "pathspecLookup", inPlace := ["internal/bytealg.CountString", "internal/bytealg.IndexByteString", "internal/bytealg.IndexString"], unfollowed := true, recurses := true, named := ["unicode/utf8.first", "unicode/utf8.acceptRanges", "internal/bytealg.MaxLen"], apart := false, laid := [("unicode/utf8.acceptRanges", laid_unicode_utf8_acceptRanges), ("unicode/utf8.first", laid_unicode_utf8_first)], narrowed := true }
def PathspecLookupUptoSaid : Prop := pathspecLookupUptoRow.holds Tryd.pinned (OpenSpec.upto pathspecLookupSpec)

/-- 'accesscontrollaw33.PathspecOverlap', WHERE WHAT IT READS IS OF BULK AT MOST 1048576: true; the input reads as it did. -/
def pathspecOverlapUptoRow : OpenClaim := { program := "ytdnoonnanhnkaaadoor", sum := "295188322e5ba15a8da7a574cbbc01103c2f5d186963859c64b66ab62a12fbe7", func := "accesscontrol/accesscontrollaw33.PathspecOverlap", spec := "pathspecOverlap", inPlace := ["internal/bytealg.CountString", "internal/bytealg.IndexByteString", "internal/bytealg.IndexString"], unfollowed := true, recurses := true, named := ["unicode/utf8.first", "unicode/utf8.acceptRanges", "internal/bytealg.MaxLen"], apart := false, laid := [("unicode/utf8.acceptRanges", laid_unicode_utf8_acceptRanges), ("unicode/utf8.first", laid_unicode_utf8_first)], narrowed := true }
def PathspecOverlapUptoSaid : Prop := pathspecOverlapUptoRow.holds Tryd.pinned (OpenSpec.upto pathspecOverlapSpec)

/-- 'accesscontrollaw33.PathspecLiteral', WHERE WHAT IT READS IS OF BULK AT MOST 1048576: true; the input reads as it did. -/
def pathspecLiteralUptoRow : OpenClaim := { program := "ytdnoonnanhnkaaadoor", sum := "295188322e5ba15a8da7a574cbbc01103c2f5d186963859c64b66ab62a12fbe7", func := "accesscontrol/accesscontrollaw33.PathspecLiteral", spec := "pathspecLiteral", inPlace := ["internal/bytealg.CountString", "internal/bytealg.IndexByteString", "internal/bytealg.IndexString"], unfollowed := true, recurses := true, named := ["unicode/utf8.first", "unicode/utf8.acceptRanges", "internal/bytealg.MaxLen"], apart := false, laid := [("unicode/utf8.acceptRanges", laid_unicode_utf8_acceptRanges), ("unicode/utf8.first", laid_unicode_utf8_first)], narrowed := true }
def PathspecLiteralUptoSaid : Prop := pathspecLiteralUptoRow.holds Tryd.pinned (OpenSpec.upto pathspecLiteralSpec)

/-- 'accesscontrollaw33.PathspecStems', WHERE WHAT IT READS IS OF BULK AT MOST 1048576: true; the input reads as it did. -/
def pathspecStemsUptoRow : OpenClaim := { program := "ytdnoonnanhnkaaadoor", sum := "295188322e5ba15a8da7a574cbbc01103c2f5d186963859c64b66ab62a12fbe7", func := "accesscontrol/accesscontrollaw33.PathspecStems", spec := "pathspecStems", inPlace := ["internal/bytealg.CountString", "internal/bytealg.IndexByteString", "internal/bytealg.IndexString"], unfollowed := true, recurses := true, named := ["unicode/utf8.first", "unicode/utf8.acceptRanges", "internal/bytealg.MaxLen"], apart := false, laid := [("unicode/utf8.acceptRanges", laid_unicode_utf8_acceptRanges), ("unicode/utf8.first", laid_unicode_utf8_first)], narrowed := true }
def PathspecStemsUptoSaid : Prop := pathspecStemsUptoRow.holds Tryd.pinned (OpenSpec.upto pathspecStemsSpec)

end Rows
end Go.Proofs.YtdnoonnanhnkaaaDoor
