/-
  NARROWER THAN 'FOR EVERY INPUT', by the rows' own cells (each row's printed sentence says how): ObjectsFull: laid · ObjectsFinds: laid · ObjectsOrder: laid · ObjectsModel: laid · ObjectsCopies: laid · ObjectsNil: laid.
  DERIVED. THE GIVEN ROWS OF THIS SEAT. 6 by the template 'for every input the law returns true; each argument reads behind the call as it read before'; 0 by the template 'total and deterministic' (their statements: YtklepphkbbjbjaaDoorTotals.lean).
  GIVEN WITH THE SEED: the statements are not yours to turn. If you find one false, say at which input.
  Laid BY PROGRAM, IN A SANDBOX (cutbox-rows.mjs): the forced cells as the released guide's own fill.sh prints them over the translation 6c7ad1dfa54c9ea4… (all of the seat's roots in one cut). By AI agents, Wed Nov 11 2026. No macro, syntax, notation, axiom, sorry.
-/
import Derived.Test.YtklepphkbbjbjaaDoorChecked
import GoSem.PinnedTables
import GoSem.Claim
import GoSem.ClaimJoined
import GoSem.ClaimMapViews
import Derived.JoinedTies
import Derived.KernelRfl
namespace Go.Proofs.YtklepphkbbjbjaaDoor
/- THE CELL 'sum', in the pinned program and in every row, IS THE sha256 OF THE DUMP (.gsa) THAT YtklepphkbbjbjaaDoorProg.lean LOADS. Nothing in Lean hashes anything: it is a label: what it is worth is what the hold of that sum in a sandbox is worth. -/
noncomputable def Tryd.pinned : Pinned := { name := "ytklepphkbbjbjaadoor", sum := "6c7ad1dfa54c9ea4e01073d237a380dce0121c102c2c67095351104cfc326857", checked := Tryd.checked }
namespace Rows
def none {H : Type} : Left H := { results := [], args := [] }

/- WHAT THE LISTED PACKAGE-LEVEL VARIABLES READ AS WHEN THE CALL BEGINS. Each datum BY PROGRAM (the guide's laid-datum.mjs) off the statement by which the dump's own 'gosem.cut.vars' lays the variable. In a bare row this is a premise. The card (YtklepphkbbjbjaaDoorCards.lean) ties it to the program's text. -/
def laid_unicode_utf8_acceptRanges {H : Type} : DataW H := .agg [.agg [.lit (.int .u8 128), .lit (.int .u8 191)], .agg [.lit (.int .u8 160), .lit (.int .u8 191)], .agg [.lit (.int .u8 128), .lit (.int .u8 159)], .agg [.lit (.int .u8 144), .lit (.int .u8 191)], .agg [.lit (.int .u8 128), .lit (.int .u8 143)], .agg [.lit (.int .u8 0), .lit (.int .u8 0)], .agg [.lit (.int .u8 0), .lit (.int .u8 0)], .agg [.lit (.int .u8 0), .lit (.int .u8 0)], .agg [.lit (.int .u8 0), .lit (.int .u8 0)], .agg [.lit (.int .u8 0), .lit (.int .u8 0)], .agg [.lit (.int .u8 0), .lit (.int .u8 0)], .agg [.lit (.int .u8 0), .lit (.int .u8 0)], .agg [.lit (.int .u8 0), .lit (.int .u8 0)], .agg [.lit (.int .u8 0), .lit (.int .u8 0)], .agg [.lit (.int .u8 0), .lit (.int .u8 0)], .agg [.lit (.int .u8 0), .lit (.int .u8 0)]]
/-- One of Go's own tables, pinned by name: the form's constant. -/
def laid_unicode_utf8_first : DataW Unit := Go.Pinned.utf8First

/-- 'accesscontrollaw34.ObjectsFull': WHATEVER THE INPUT: true; the input reads as it did. -/
def objectsFullSpec : ChangeSpec := { name := "objectsFull", fn := fun _ => fun
  | [d] => { results := [.lit (.bool true)], args := [d] }
  | _ => none }
def objectsFullRow : OpenClaim := { program := "ytklepphkbbjbjaadoor", sum := "6c7ad1dfa54c9ea4e01073d237a380dce0121c102c2c67095351104cfc326857", func := "accesscontrol/accesscontrollaw34.ObjectsFull", spec := "objectsFull", inPlace := ["internal/bytealg.IndexByteString", "internal/bytealg.CountString", "internal/bytealg.IndexString"], unfollowed := true, recurses := true, named := ["unicode/utf8.first", "unicode/utf8.acceptRanges", "internal/bytealg.MaxLen"], apart := false, laid := [("unicode/utf8.acceptRanges", laid_unicode_utf8_acceptRanges), ("unicode/utf8.first", laid_unicode_utf8_first)] }
def ObjectsFullSaid : Prop := objectsFullRow.holds Tryd.pinned (OpenSpec.ofChange objectsFullSpec)

/-- ITS FALSE NEIGHBOUR: 'it returns false'. Refute it at one input. -/
def objectsFullWrong : ChangeSpec := { name := "objectsFull", fn := fun _ => fun
  | [d] => { results := [.lit (.bool false)], args := [d] }
  | _ => none }
def ObjectsFullWrongFalsely : Prop := objectsFullRow.holds Tryd.pinned (OpenSpec.ofChange objectsFullWrong)

/-- 'accesscontrollaw34.ObjectsFinds': WHATEVER THE INPUT: true; the input reads as it did. -/
def objectsFindsSpec : ChangeSpec := { name := "objectsFinds", fn := fun _ => fun
  | [d1, d2, d3] => { results := [.lit (.bool true)], args := [d1, d2, d3] }
  | _ => none }
def objectsFindsRow : OpenClaim := { program := "ytklepphkbbjbjaadoor", sum := "6c7ad1dfa54c9ea4e01073d237a380dce0121c102c2c67095351104cfc326857", func := "accesscontrol/accesscontrollaw34.ObjectsFinds", spec := "objectsFinds", inPlace := ["internal/bytealg.IndexByteString", "internal/bytealg.CountString", "internal/bytealg.IndexString"], unfollowed := true, recurses := true, named := ["unicode/utf8.first", "unicode/utf8.acceptRanges", "internal/bytealg.MaxLen"], apart := false, laid := [("unicode/utf8.acceptRanges", laid_unicode_utf8_acceptRanges), ("unicode/utf8.first", laid_unicode_utf8_first)] }
def ObjectsFindsSaid : Prop := objectsFindsRow.holds Tryd.pinned (OpenSpec.ofChange objectsFindsSpec)

/-- ITS FALSE NEIGHBOUR: 'it returns false'. Refute it at one input. -/
def objectsFindsWrong : ChangeSpec := { name := "objectsFinds", fn := fun _ => fun
  | [d1, d2, d3] => { results := [.lit (.bool false)], args := [d1, d2, d3] }
  | _ => none }
def ObjectsFindsWrongFalsely : Prop := objectsFindsRow.holds Tryd.pinned (OpenSpec.ofChange objectsFindsWrong)

/-- 'accesscontrollaw34.ObjectsOrder': WHATEVER THE INPUT: true; the input reads as it did. -/
def objectsOrderSpec : ChangeSpec := { name := "objectsOrder", fn := fun _ => fun
  | [d] => { results := [.lit (.bool true)], args := [d] }
  | _ => none }
def objectsOrderRow : OpenClaim := { program := "ytklepphkbbjbjaadoor", sum := "6c7ad1dfa54c9ea4e01073d237a380dce0121c102c2c67095351104cfc326857", func := "accesscontrol/accesscontrollaw34.ObjectsOrder", spec := "objectsOrder", inPlace := ["internal/bytealg.IndexByteString", "internal/bytealg.CountString", "internal/bytealg.IndexString"], unfollowed := true, recurses := true, named := ["unicode/utf8.first", "unicode/utf8.acceptRanges", "internal/bytealg.MaxLen"], apart := false, laid := [("unicode/utf8.acceptRanges", laid_unicode_utf8_acceptRanges), ("unicode/utf8.first", laid_unicode_utf8_first)] }
def ObjectsOrderSaid : Prop := objectsOrderRow.holds Tryd.pinned (OpenSpec.ofChange objectsOrderSpec)

/-- ITS FALSE NEIGHBOUR: 'it returns false'. Refute it at one input. -/
def objectsOrderWrong : ChangeSpec := { name := "objectsOrder", fn := fun _ => fun
  | [d] => { results := [.lit (.bool false)], args := [d] }
  | _ => none }
def ObjectsOrderWrongFalsely : Prop := objectsOrderRow.holds Tryd.pinned (OpenSpec.ofChange objectsOrderWrong)

/-- 'accesscontrollaw34.ObjectsModel': WHATEVER THE INPUT: true; the input reads as it did. -/
def objectsModelSpec : ChangeSpec := { name := "objectsModel", fn := fun _ => fun
  | [d1, d2] => { results := [.lit (.bool true)], args := [d1, d2] }
  | _ => none }
def objectsModelRow : OpenClaim := { program := "ytklepphkbbjbjaadoor", sum := "6c7ad1dfa54c9ea4e01073d237a380dce0121c102c2c67095351104cfc326857", func := "accesscontrol/accesscontrollaw34.ObjectsModel", spec := "objectsModel", inPlace := ["internal/bytealg.IndexByteString", "internal/bytealg.CountString", "internal/bytealg.IndexString"], unfollowed := true, recurses := true, named := ["unicode/utf8.first", "unicode/utf8.acceptRanges", "internal/bytealg.MaxLen"], apart := false, laid := [("unicode/utf8.acceptRanges", laid_unicode_utf8_acceptRanges), ("unicode/utf8.first", laid_unicode_utf8_first)] }
def ObjectsModelSaid : Prop := objectsModelRow.holds Tryd.pinned (OpenSpec.ofChange objectsModelSpec)

/-- ITS FALSE NEIGHBOUR: 'it returns false'. Refute it at one input. -/
def objectsModelWrong : ChangeSpec := { name := "objectsModel", fn := fun _ => fun
  | [d1, d2] => { results := [.lit (.bool false)], args := [d1, d2] }
  | _ => none }
def ObjectsModelWrongFalsely : Prop := objectsModelRow.holds Tryd.pinned (OpenSpec.ofChange objectsModelWrong)

/-- 'accesscontrollaw34.ObjectsCopies': WHATEVER THE INPUT: true; the input reads as it did. -/
def objectsCopiesSpec : ChangeSpec := { name := "objectsCopies", fn := fun _ => fun
  | [d1, d2] => { results := [.lit (.bool true)], args := [d1, d2] }
  | _ => none }
def objectsCopiesRow : OpenClaim := { program := "ytklepphkbbjbjaadoor", sum := "6c7ad1dfa54c9ea4e01073d237a380dce0121c102c2c67095351104cfc326857", func := "accesscontrol/accesscontrollaw34.ObjectsCopies", spec := "objectsCopies", inPlace := ["internal/bytealg.IndexByteString", "internal/bytealg.CountString", "internal/bytealg.IndexString", "maps.clone"], unfollowed := true, recurses := true, named := ["unicode/utf8.first", "unicode/utf8.acceptRanges", "internal/bytealg.MaxLen"], apart := false, laid := [("unicode/utf8.acceptRanges", laid_unicode_utf8_acceptRanges), ("unicode/utf8.first", laid_unicode_utf8_first)] }
def ObjectsCopiesSaid : Prop := objectsCopiesRow.holds Tryd.pinned (OpenSpec.ofChange objectsCopiesSpec)

/-- ITS FALSE NEIGHBOUR: 'it returns false'. Refute it at one input. -/
def objectsCopiesWrong : ChangeSpec := { name := "objectsCopies", fn := fun _ => fun
  | [d1, d2] => { results := [.lit (.bool false)], args := [d1, d2] }
  | _ => none }
def ObjectsCopiesWrongFalsely : Prop := objectsCopiesRow.holds Tryd.pinned (OpenSpec.ofChange objectsCopiesWrong)

/-- 'accesscontrollaw34.ObjectsNil': WHATEVER THE INPUT: true; the input reads as it did. -/
def objectsNilSpec : ChangeSpec := { name := "objectsNil", fn := fun _ => fun
  | [d] => { results := [.lit (.bool true)], args := [d] }
  | _ => none }
def objectsNilRow : OpenClaim := { program := "ytklepphkbbjbjaadoor", sum := "6c7ad1dfa54c9ea4e01073d237a380dce0121c102c2c67095351104cfc326857", func := "accesscontrol/accesscontrollaw34.ObjectsNil", spec := "objectsNil", inPlace := ["internal/bytealg.IndexByteString", "internal/bytealg.CountString", "internal/bytealg.IndexString", "maps.clone"], unfollowed := true, recurses := true, named := ["unicode/utf8.first", "unicode/utf8.acceptRanges", "internal/bytealg.MaxLen"], apart := false, laid := [("unicode/utf8.acceptRanges", laid_unicode_utf8_acceptRanges), ("unicode/utf8.first", laid_unicode_utf8_first)] }
def ObjectsNilSaid : Prop := objectsNilRow.holds Tryd.pinned (OpenSpec.ofChange objectsNilSpec)

/-- ITS FALSE NEIGHBOUR: 'it returns false'. Refute it at one input. -/
def objectsNilWrong : ChangeSpec := { name := "objectsNil", fn := fun _ => fun
  | [d] => { results := [.lit (.bool false)], args := [d] }
  | _ => none }
def ObjectsNilWrongFalsely : Prop := objectsNilRow.holds Tryd.pinned (OpenSpec.ofChange objectsNilWrong)

/- THE SECOND FORM. 'bulk': how many values and letters a reading holds, each counted each time it is reached (what is shared counts as often as it is met; a slice's spare places count too). A statement '..UptoSaid' is the law's where the arguments, and the package variables that the reading takes, are together of bulk at most 1048576: NARROWER than '..Said'. Prove '..Said' where nothing that the law and all that it calls make is longer than what came in: it says more and counts as full. Else prove '..UptoSaid'. A law counts once. -/
mutual
def uptoBulk {H : Type} : DataW H → Nat
  | .lit (.string bytes) => bytes.length + 1
  | .lit _ => 1
  | .nil => 1
  | .ptr d => uptoBulk d + 1
  | .slice elems spare => uptoBulkAll elems + uptoBulkAll spare + 1
  | .agg parts => uptoBulkAll parts + 1
  | .iface _ d => uptoBulk d + 1
  | .map entries => uptoBulkEntries entries + 1
  | .held _ => 1
def uptoBulkAll {H : Type} : List (DataW H) → Nat
  | [] => 0
  | d :: r => uptoBulk d + uptoBulkAll r
def uptoBulkEntries {H : Type} : List (Lit × DataW H) → Nat
  | [] => 0
  | x :: r => uptoBulkEntry x + uptoBulkEntries r
def uptoBulkEntry {H : Type} : Lit × DataW H → Nat
  | (.string bytes, d) => bytes.length + uptoBulk d + 1
  | (_, d) => uptoBulk d + 1
 end
def uptoSmall : (H : Type) → List (DataW H) → Bool := fun _ ds => decide (uptoBulkAll ds ≤ 1048576)
def OpenSpec.upto (s : _root_.Go.ChangeSpec) : _root_.Go.OpenSpec := { _root_.Go.OpenSpec.ofChange s with cond := some uptoSmall }

/-- 'accesscontrollaw34.ObjectsFull', WHERE WHAT IT READS IS OF BULK AT MOST 1048576: true; the input reads as it did. -/
def objectsFullUptoRow : OpenClaim := { program := "ytklepphkbbjbjaadoor", sum := "6c7ad1dfa54c9ea4e01073d237a380dce0121c102c2c67095351104cfc326857", func := "accesscontrol/accesscontrollaw34.ObjectsFull", spec := "objectsFull", inPlace := ["internal/bytealg.IndexByteString", "internal/bytealg.CountString", "internal/bytealg.IndexString"], unfollowed := true, recurses := true, named := ["unicode/utf8.first", "unicode/utf8.acceptRanges", "internal/bytealg.MaxLen"], apart := false, laid := [("unicode/utf8.acceptRanges", laid_unicode_utf8_acceptRanges), ("unicode/utf8.first", laid_unicode_utf8_first)], narrowed := true }
def ObjectsFullUptoSaid : Prop := objectsFullUptoRow.holds Tryd.pinned (OpenSpec.upto objectsFullSpec)

/-- 'accesscontrollaw34.ObjectsFinds', WHERE WHAT IT READS IS OF BULK AT MOST 1048576: true; the input reads as it did. -/
def objectsFindsUptoRow : OpenClaim := { program := "ytklepphkbbjbjaadoor", sum := "6c7ad1dfa54c9ea4e01073d237a380dce0121c102c2c67095351104cfc326857", func := "accesscontrol/accesscontrollaw34.ObjectsFinds", spec := "objectsFinds", inPlace := ["internal/bytealg.IndexByteString", "internal/bytealg.CountString", "internal/bytealg.IndexString"], unfollowed := true, recurses := true, named := ["unicode/utf8.first", "unicode/utf8.acceptRanges", "internal/bytealg.MaxLen"], apart := false, laid := [("unicode/utf8.acceptRanges", laid_unicode_utf8_acceptRanges), ("unicode/utf8.first", laid_unicode_utf8_first)], narrowed := true }
def ObjectsFindsUptoSaid : Prop := objectsFindsUptoRow.holds Tryd.pinned (OpenSpec.upto objectsFindsSpec)

/-- 'accesscontrollaw34.ObjectsOrder', WHERE WHAT IT READS IS OF BULK AT MOST 1048576: true; the input reads as it did. -/
def objectsOrderUptoRow : OpenClaim := { program := "ytklepphkbbjbjaadoor", sum := "6c7ad1dfa54c9ea4e01073d237a380dce0121c102c2c67095351104cfc326857", func := "accesscontrol/accesscontrollaw34.ObjectsOrder", spec := "objectsOrder", inPlace := ["internal/bytealg.IndexByteString", "internal/bytealg.CountString", "internal/bytealg.IndexString"], unfollowed := true, recurses := true, named := ["unicode/utf8.first", "unicode/utf8.acceptRanges", "internal/bytealg.MaxLen"], apart := false, laid := [("unicode/utf8.acceptRanges", laid_unicode_utf8_acceptRanges), ("unicode/utf8.first", laid_unicode_utf8_first)], narrowed := true }
def ObjectsOrderUptoSaid : Prop := objectsOrderUptoRow.holds Tryd.pinned (OpenSpec.upto objectsOrderSpec)

/-- 'accesscontrollaw34.ObjectsModel', WHERE WHAT IT READS IS OF BULK AT MOST 1048576: true; the input reads as it did. -/
def objectsModelUptoRow : OpenClaim := { program := "ytklepphkbbjbjaadoor", sum := "6c7ad1dfa54c9ea4e01073d237a380dce0121c102c2c67095351104cfc326857", func := "accesscontrol/accesscontrollaw34.ObjectsModel", spec := "objectsModel", inPlace := ["internal/bytealg.IndexByteString", "internal/bytealg.CountString", "internal/bytealg.IndexString"], unfollowed := true, recurses := true, named := ["unicode/utf8.first", "unicode/utf8.acceptRanges", "internal/bytealg.MaxLen"], apart := false, laid := [("unicode/utf8.acceptRanges", laid_unicode_utf8_acceptRanges), ("unicode/utf8.first", laid_unicode_utf8_first)], narrowed := true }
def ObjectsModelUptoSaid : Prop := objectsModelUptoRow.holds Tryd.pinned (OpenSpec.upto objectsModelSpec)

/-- 'accesscontrollaw34.ObjectsCopies', WHERE WHAT IT READS IS OF BULK AT MOST 1048576: true; the input reads as it did. -/
def objectsCopiesUptoRow : OpenClaim := { program := "ytklepphkbbjbjaadoor", sum := "6c7ad1dfa54c9ea4e01073d237a380dce0121c102c2c67095351104cfc326857", func := "accesscontrol/accesscontrollaw34.ObjectsCopies", spec := "objectsCopies", inPlace := ["internal/bytealg.IndexByteString", "internal/bytealg.CountString", "internal/bytealg.IndexString", "maps.clone"], unfollowed := true, recurses := true, named := ["unicode/utf8.first", "unicode/utf8.acceptRanges", "internal/bytealg.MaxLen"], apart := false, laid := [("unicode/utf8.acceptRanges", laid_unicode_utf8_acceptRanges), ("unicode/utf8.first", laid_unicode_utf8_first)], narrowed := true }
def ObjectsCopiesUptoSaid : Prop := objectsCopiesUptoRow.holds Tryd.pinned (OpenSpec.upto objectsCopiesSpec)

/-- 'accesscontrollaw34.ObjectsNil', WHERE WHAT IT READS IS OF BULK AT MOST 1048576: true; the input reads as it did. -/
def objectsNilUptoRow : OpenClaim := { program := "ytklepphkbbjbjaadoor", sum := "6c7ad1dfa54c9ea4e01073d237a380dce0121c102c2c67095351104cfc326857", func := "accesscontrol/accesscontrollaw34.ObjectsNil", spec := "objectsNil", inPlace := ["internal/bytealg.IndexByteString", "internal/bytealg.CountString", "internal/bytealg.IndexString", "maps.clone"], unfollowed := true, recurses := true, named := ["unicode/utf8.first", "unicode/utf8.acceptRanges", "internal/bytealg.MaxLen"], apart := false, laid := [("unicode/utf8.acceptRanges", laid_unicode_utf8_acceptRanges), ("unicode/utf8.first", laid_unicode_utf8_first)], narrowed := true }
def ObjectsNilUptoSaid : Prop := objectsNilUptoRow.holds Tryd.pinned (OpenSpec.upto objectsNilSpec)

end Rows
end Go.Proofs.YtklepphkbbjbjaaDoor
