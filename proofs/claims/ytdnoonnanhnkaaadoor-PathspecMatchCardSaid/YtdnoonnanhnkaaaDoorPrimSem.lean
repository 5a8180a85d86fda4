/- What library functions that enter by their contracts answer. -/
import Derived.Test.YtdnoonnanhnkaaaDoorSimDefs
import Derived.Lib.IndexMore
import Derived.Lib.Split
import Derived.Lib.IndexAny
import Derived.Lib.CountLaws
namespace Go.Proofs.YtdnoonnanhnkaaaDoor
open Go

def strsOf : List (List DVal) → Option (List (List UInt8))
  | [] => some []
  | [.str s] :: es => (strsOf es).map (s :: ·)
  | _ => none

def cutSem : List DVal → Option DVal
  | [.str s, .str sep] => if s.length < 4294967281 then some (.tup [.str (Lib.cut s sep).1, .str (Lib.cut s sep).2.1, .bool (Lib.cut s sep).2.2]) else none
  | _ => none

def genSplitSem : List DVal → Option DVal
  | [.str s, .str sep, .int .i64 0, .int .i64 (-1)] => if s.length < 4294967281 ∧ 1 ≤ sep.length then some (.slice false 0 1 ((Lib.splitN s sep (Lib.count s sep + 1)).map fun x => [.str x])) else none
  | _ => none

def containsSem : List DVal → Option DVal
  | [.str s, .str sub] => if s.length < 4294967281 then some (.bool (Lib.contains s sub)) else none
  | _ => none

/-- strings.Count of one byte. -/
def countSem : List DVal → Option DVal
  | [.str s, .str [c]] => some (goI (s.count c))
  | _ => none

/-- strings.ContainsRune of an ASCII rune. -/
def containsRuneSem : List DVal → Option DVal
  | [.str s, .int .i32 r] => if 0 ≤ r ∧ r < 128 then some (.bool (s.contains r.toNat.toUInt8)) else none
  | _ => none

/-- strings.ContainsAny of ASCII bytes. -/
def containsAnySem : List DVal → Option DVal
  | [.str s, .str cs] => if s.length < 4294967281 ∧ cs.length < 4294967281 ∧ (s.all fun b => Nat.blt b.toNat 128) = true ∧ (cs.all fun b => Nat.blt b.toNat 128) = true then some (.bool (s.any fun b => cs.contains b)) else none
  | _ => none

end Go.Proofs.YtdnoonnanhnkaaaDoor
