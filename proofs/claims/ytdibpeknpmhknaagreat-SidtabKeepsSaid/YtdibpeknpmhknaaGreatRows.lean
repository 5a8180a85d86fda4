/-
  NARROWER THAN 'FOR EVERY INPUT', by the rows' own cells (each row's printed sentence says how): SidtabModel: loops · SidtabConvert: loops · SidtabKeeps: loops · SidtabCopies: loops · SidtabNil: loops.
  DERIVED. THE GIVEN ROWS OF THIS SEAT. 5 by the template 'for every input the law returns true; each argument reads behind the call as it read before'; 0 by the template 'total and deterministic' (their statements: YtdibpeknpmhknaaGreatTotals.lean).
  GIVEN WITH THE SEED: the statements are not yours to turn. If you find one false, say at which input.
  Laid BY PROGRAM, IN A SANDBOX (cutbox-rows.mjs): the forced cells as the released guide's own fill.sh prints them over the translation 05b7e62a4a486c6d… (all of the seat's roots in one cut). By AI agents, Wed Nov 11 2026. No macro, syntax, notation, axiom, sorry.
-/
import Derived.Test.YtdibpeknpmhknaaGreatChecked
import GoSem.Claim
import GoSem.ClaimJoined
import GoSem.ClaimMapViews
import Derived.JoinedTies
import Derived.KernelRfl
namespace Go.Proofs.YtdibpeknpmhknaaGreat
/- THE CELL 'sum', in the pinned program and in every row, IS THE sha256 OF THE DUMP (.gsa) THAT YtdibpeknpmhknaaGreatProg.lean LOADS. Nothing in Lean hashes anything: it is a label: what it is worth is what the hold of that sum in a sandbox is worth. -/
noncomputable def Tryz.pinned : Pinned := { name := "ytdibpeknpmhknaagreat", sum := "05b7e62a4a486c6d756f20341ea50f6a27a8d7a9d4206afafc30ab3858cd9eaf", checked := Tryz.checked }
namespace Rows
def none {H : Type} : Left H := { results := [], args := [] }

/-- 'accesscontrollaw27.SidtabModel': WHATEVER THE INPUT: true; the input reads as it did. -/
def sidtabModelSpec : ChangeSpec := { name := "sidtabModel", fn := fun _ => fun
  | [d1, d2] => { results := [.lit (.bool true)], args := [d1, d2] }
  | _ => none }
def sidtabModelRow : OpenClaim := { program := "ytdibpeknpmhknaagreat", sum := "05b7e62a4a486c6d756f20341ea50f6a27a8d7a9d4206afafc30ab3858cd9eaf", func := "accesscontrol/accesscontrollaw27.SidtabModel", spec := "sidtabModel", inPlace := ["internal/abi.NoEscape", "internal/bytealg.MakeNoZero"], unfollowed := true, recurses := true, loops := true, plainKeys := false, apart := false }
def SidtabModelSaid : Prop := sidtabModelRow.holds Tryz.pinned (OpenSpec.ofChange sidtabModelSpec)

/-- ITS FALSE NEIGHBOUR: 'it returns false'. Refute it at one input. -/
def sidtabModelWrong : ChangeSpec := { name := "sidtabModel", fn := fun _ => fun
  | [d1, d2] => { results := [.lit (.bool false)], args := [d1, d2] }
  | _ => none }
def SidtabModelWrongFalsely : Prop := sidtabModelRow.holds Tryz.pinned (OpenSpec.ofChange sidtabModelWrong)

/-- 'accesscontrollaw27.SidtabConvert': WHATEVER THE INPUT: true; the input reads as it did. -/
def sidtabConvertSpec : ChangeSpec := { name := "sidtabConvert", fn := fun _ => fun
  | [d] => { results := [.lit (.bool true)], args := [d] }
  | _ => none }
def sidtabConvertRow : OpenClaim := { program := "ytdibpeknpmhknaagreat", sum := "05b7e62a4a486c6d756f20341ea50f6a27a8d7a9d4206afafc30ab3858cd9eaf", func := "accesscontrol/accesscontrollaw27.SidtabConvert", spec := "sidtabConvert", inPlace := ["internal/abi.NoEscape", "internal/bytealg.MakeNoZero"], unfollowed := true, recurses := true, loops := true, plainKeys := false, apart := false }
def SidtabConvertSaid : Prop := sidtabConvertRow.holds Tryz.pinned (OpenSpec.ofChange sidtabConvertSpec)

/-- ITS FALSE NEIGHBOUR: 'it returns false'. Refute it at one input. -/
def sidtabConvertWrong : ChangeSpec := { name := "sidtabConvert", fn := fun _ => fun
  | [d] => { results := [.lit (.bool false)], args := [d] }
  | _ => none }
def SidtabConvertWrongFalsely : Prop := sidtabConvertRow.holds Tryz.pinned (OpenSpec.ofChange sidtabConvertWrong)

/-- 'accesscontrollaw27.SidtabKeeps': WHATEVER THE INPUT: true; the input reads as it did. -/
def sidtabKeepsSpec : ChangeSpec := { name := "sidtabKeeps", fn := fun _ => fun
  | [d1, d2] => { results := [.lit (.bool true)], args := [d1, d2] }
  | _ => none }
def sidtabKeepsRow : OpenClaim := { program := "ytdibpeknpmhknaagreat", sum := "05b7e62a4a486c6d756f20341ea50f6a27a8d7a9d4206afafc30ab3858cd9eaf", func := "accesscontrol/accesscontrollaw27.SidtabKeeps", spec := "sidtabKeeps", inPlace := ["internal/abi.NoEscape", "internal/bytealg.MakeNoZero"], unfollowed := true, recurses := true, loops := true, plainKeys := false, apart := false }
def SidtabKeepsSaid : Prop := sidtabKeepsRow.holds Tryz.pinned (OpenSpec.ofChange sidtabKeepsSpec)

/-- ITS FALSE NEIGHBOUR: 'it returns false'. Refute it at one input. -/
def sidtabKeepsWrong : ChangeSpec := { name := "sidtabKeeps", fn := fun _ => fun
  | [d1, d2] => { results := [.lit (.bool false)], args := [d1, d2] }
  | _ => none }
def SidtabKeepsWrongFalsely : Prop := sidtabKeepsRow.holds Tryz.pinned (OpenSpec.ofChange sidtabKeepsWrong)

/-- 'accesscontrollaw27.SidtabCopies': WHATEVER THE INPUT: true; the input reads as it did. -/
def sidtabCopiesSpec : ChangeSpec := { name := "sidtabCopies", fn := fun _ => fun
  | [d1, d2, d3] => { results := [.lit (.bool true)], args := [d1, d2, d3] }
  | _ => none }
def sidtabCopiesRow : OpenClaim := { program := "ytdibpeknpmhknaagreat", sum := "05b7e62a4a486c6d756f20341ea50f6a27a8d7a9d4206afafc30ab3858cd9eaf", func := "accesscontrol/accesscontrollaw27.SidtabCopies", spec := "sidtabCopies", inPlace := ["internal/abi.NoEscape", "internal/bytealg.MakeNoZero"], unfollowed := true, recurses := true, loops := true, plainKeys := false, apart := false }
def SidtabCopiesSaid : Prop := sidtabCopiesRow.holds Tryz.pinned (OpenSpec.ofChange sidtabCopiesSpec)

/-- ITS FALSE NEIGHBOUR: 'it returns false'. Refute it at one input. -/
def sidtabCopiesWrong : ChangeSpec := { name := "sidtabCopies", fn := fun _ => fun
  | [d1, d2, d3] => { results := [.lit (.bool false)], args := [d1, d2, d3] }
  | _ => none }
def SidtabCopiesWrongFalsely : Prop := sidtabCopiesRow.holds Tryz.pinned (OpenSpec.ofChange sidtabCopiesWrong)

/-- 'accesscontrollaw27.SidtabNil': WHATEVER THE INPUT: true; the input reads as it did. -/
def sidtabNilSpec : ChangeSpec := { name := "sidtabNil", fn := fun _ => fun
  | [d1, d2, d3] => { results := [.lit (.bool true)], args := [d1, d2, d3] }
  | _ => none }
def sidtabNilRow : OpenClaim := { program := "ytdibpeknpmhknaagreat", sum := "05b7e62a4a486c6d756f20341ea50f6a27a8d7a9d4206afafc30ab3858cd9eaf", func := "accesscontrol/accesscontrollaw27.SidtabNil", spec := "sidtabNil", inPlace := ["internal/abi.NoEscape", "internal/bytealg.MakeNoZero"], unfollowed := true, recurses := true, loops := true, plainKeys := false, apart := false }
def SidtabNilSaid : Prop := sidtabNilRow.holds Tryz.pinned (OpenSpec.ofChange sidtabNilSpec)

/-- ITS FALSE NEIGHBOUR: 'it returns false'. Refute it at one input. -/
def sidtabNilWrong : ChangeSpec := { name := "sidtabNil", fn := fun _ => fun
  | [d1, d2, d3] => { results := [.lit (.bool false)], args := [d1, d2, d3] }
  | _ => none }
def SidtabNilWrongFalsely : Prop := sidtabNilRow.holds Tryz.pinned (OpenSpec.ofChange sidtabNilWrong)

/- THE SECOND FORM. 'bulk': how many values and letters a reading holds, each counted each time it is reached (what is shared counts as often as it is met; a slice's spare places count too). A statement '..UptoSaid' is the law's where the arguments, and the package variables that the reading takes, are together of bulk at most 1048576: NARROWER than '..Said'. Prove '..Said' where nothing that the law and all that it calls make is longer than what came in: it says more and counts as full. Else prove '..UptoSaid'. A law counts once. -/
mutual
def uptoBulk {H : Type} : DataW H → Nat
  | .lit (.string bytes) => bytes.length + 1
  | .lit _ => 1
  | .nil => 1
  | .ptr d => uptoBulk d + 1
  | .slice elems spare => uptoBulkAll elems + uptoBulkAll spare + 1
  | .agg parts => uptoBulkAll parts + 1
  | .iface _ d => uptoBulk d + 1
  | .map entries => uptoBulkEntries entries + 1
  | .held _ => 1
def uptoBulkAll {H : Type} : List (DataW H) → Nat
  | [] => 0
  | d :: r => uptoBulk d + uptoBulkAll r
def uptoBulkEntries {H : Type} : List (Lit × DataW H) → Nat
  | [] => 0
  | x :: r => uptoBulkEntry x + uptoBulkEntries r
def uptoBulkEntry {H : Type} : Lit × DataW H → Nat
  | (.string bytes, d) => bytes.length + uptoBulk d + 1
  | (_, d) => uptoBulk d + 1
 end
def uptoSmall : (H : Type) → List (DataW H) → Bool := fun _ ds => decide (uptoBulkAll ds ≤ 1048576)
def OpenSpec.upto (s : _root_.Go.ChangeSpec) : _root_.Go.OpenSpec := { _root_.Go.OpenSpec.ofChange s with cond := some uptoSmall }

/-- 'accesscontrollaw27.SidtabModel', WHERE WHAT IT READS IS OF BULK AT MOST 1048576: true; the input reads as it did. -/
def sidtabModelUptoRow : OpenClaim := { program := "ytdibpeknpmhknaagreat", sum := "05b7e62a4a486c6d756f20341ea50f6a27a8d7a9d4206afafc30ab3858cd9eaf", func := "accesscontrol/accesscontrollaw27.SidtabModel", spec := "sidtabModel", inPlace := ["internal/abi.NoEscape", "internal/bytealg.MakeNoZero"], unfollowed := true, recurses := true, loops := true, plainKeys := false, apart := false, narrowed := true }
def SidtabModelUptoSaid : Prop := sidtabModelUptoRow.holds Tryz.pinned (OpenSpec.upto sidtabModelSpec)

/-- 'accesscontrollaw27.SidtabConvert', WHERE WHAT IT READS IS OF BULK AT MOST 1048576: true; the input reads as it did. -/
def sidtabConvertUptoRow : OpenClaim := { program := "ytdibpeknpmhknaagreat", sum := "05b7e62a4a486c6d756f20341ea50f6a27a8d7a9d4206afafc30ab3858cd9eaf", func := "accesscontrol/accesscontrollaw27.SidtabConvert", spec := "sidtabConvert", inPlace := ["internal/abi.NoEscape", "internal/bytealg.MakeNoZero"], unfollowed := true, recurses := true, loops := true, plainKeys := false, apart := false, narrowed := true }
def SidtabConvertUptoSaid : Prop := sidtabConvertUptoRow.holds Tryz.pinned (OpenSpec.upto sidtabConvertSpec)

/-- 'accesscontrollaw27.SidtabKeeps', WHERE WHAT IT READS IS OF BULK AT MOST 1048576: true; the input reads as it did. -/
def sidtabKeepsUptoRow : OpenClaim := { program := "ytdibpeknpmhknaagreat", sum := "05b7e62a4a486c6d756f20341ea50f6a27a8d7a9d4206afafc30ab3858cd9eaf", func := "accesscontrol/accesscontrollaw27.SidtabKeeps", spec := "sidtabKeeps", inPlace := ["internal/abi.NoEscape", "internal/bytealg.MakeNoZero"], unfollowed := true, recurses := true, loops := true, plainKeys := false, apart := false, narrowed := true }
def SidtabKeepsUptoSaid : Prop := sidtabKeepsUptoRow.holds Tryz.pinned (OpenSpec.upto sidtabKeepsSpec)

/-- 'accesscontrollaw27.SidtabCopies', WHERE WHAT IT READS IS OF BULK AT MOST 1048576: true; the input reads as it did. -/
def sidtabCopiesUptoRow : OpenClaim := { program := "ytdibpeknpmhknaagreat", sum := "05b7e62a4a486c6d756f20341ea50f6a27a8d7a9d4206afafc30ab3858cd9eaf", func := "accesscontrol/accesscontrollaw27.SidtabCopies", spec := "sidtabCopies", inPlace := ["internal/abi.NoEscape", "internal/bytealg.MakeNoZero"], unfollowed := true, recurses := true, loops := true, plainKeys := false, apart := false, narrowed := true }
def SidtabCopiesUptoSaid : Prop := sidtabCopiesUptoRow.holds Tryz.pinned (OpenSpec.upto sidtabCopiesSpec)

/-- 'accesscontrollaw27.SidtabNil', WHERE WHAT IT READS IS OF BULK AT MOST 1048576: true; the input reads as it did. -/
def sidtabNilUptoRow : OpenClaim := { program := "ytdibpeknpmhknaagreat", sum := "05b7e62a4a486c6d756f20341ea50f6a27a8d7a9d4206afafc30ab3858cd9eaf", func := "accesscontrol/accesscontrollaw27.SidtabNil", spec := "sidtabNil", inPlace := ["internal/abi.NoEscape", "internal/bytealg.MakeNoZero"], unfollowed := true, recurses := true, loops := true, plainKeys := false, apart := false, narrowed := true }
def SidtabNilUptoSaid : Prop := sidtabNilUptoRow.holds Tryz.pinned (OpenSpec.upto sidtabNilSpec)

end Rows
end Go.Proofs.YtdibpeknpmhknaaGreat
