/- What library functions that enter by their contracts answer: strings.Cut, Join and genSplit. -/
import Derived.Test.YticbfdcfopilfaaDoorSimDefs
import Derived.Lib.IndexMore
import Derived.Lib.Join
import Derived.Lib.Split
namespace Go.Proofs.YticbfdcfopilfaaDoor
open Go

def strsOf : List (List DVal) → Option (List (List UInt8))
  | [] => some []
  | [.str s] :: es => (strsOf es).map (s :: ·)
  | _ => none

def cutSem : List DVal → Option DVal
  | [.str s, .str sep] => if s.length < 4294967281 then some (.tup [.str (Lib.cut s sep).1, .str (Lib.cut s sep).2.1, .bool (Lib.cut s sep).2.2]) else none
  | _ => none

def joinSem : List DVal → Option DVal
  | [.slice false _ 1 es, .str sep] => (strsOf es).bind fun xs => if xs.length ≤ 140737488355328 ∧ (Lib.join xs sep).length ≤ 140737488355328 then some (.str (Lib.join xs sep)) else none
  | [.nils, .str sep] => some (.str [])
  | _ => none

def genSplitSem : List DVal → Option DVal
  | [.str s, .str sep, .int .i64 0, .int .i64 (-1)] => if s.length < 4294967281 ∧ 1 ≤ sep.length then some (.slice false 0 1 ((Lib.splitN s sep (Lib.count s sep + 1)).map fun x => [.str x])) else none
  | _ => none

end Go.Proofs.YticbfdcfopilfaaDoor
