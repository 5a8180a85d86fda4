/- From a function's loaded code to the small language. The hints (what a pointer's slot is for; how a callee is called) come from outside: nothing rests on them, for the semantics looks at the values. -/
import Derived.Test.YtdnoonnanhnkaaaDoorSimDefs
set_option linter.unusedVariables false
namespace Go.Proofs.YtdnoonnanhnkaaaDoor
open Go

def ofCell : Value → Option DVal
  | .bool b => some (.bool b)
  | .int k n => some (.int k n)
  | .string s => some (.str s.data.toList)
  | .pointer none => some .nilp
  | .slice none 0 0 => some .nils
  | .map none => some .nilm
  | .nilFunc => some .nilf
  | .nilIface => some .nilI
  | _ => none

def ofCells : List Value → Option (List DVal)
  | [] => some []
  | v :: vs => match ofCell v, ofCells vs with
    | some d, some ds => some (d :: ds)
    | _, _ => none

def ofVal : Value → Option DVal
  | .agg cs => (ofCells cs.toList).map .agg
  | v => ofCell v

def opd : Operand → Option Opd
  | .tmp t => some (.t t)
  | .const v => (ofVal v).map .c
  | .func f => some (.c (.func f []))
  | .global _ => none

def opds : List Operand → Option (List Opd)
  | [] => some []
  | x :: xs => match opd x, opds xs with
    | some d, some ds => some (d :: ds)
    | _, _ => none

def szOf (P : Program) (t : TypeId) : Option Nat := (P.info? t).map (·.size)

/-- The cells of a type's variables, if it is a struct or an array. -/
def aggSz (P : Program) (t : TypeId) : Option (Option Nat) :=
  match P.underlying t with
  | some (.struct _) | some (.array _ _) => (P.info? t).map fun i => some i.size
  | some _ => some none
  | none => none

/-- May addresses lie in a type's cells (strings apart)? -/
def hasPtr (P : Program) : Nat → TypeId → Bool
  | 0, _ => true
  | n + 1, t =>
    match P.underlying t with
    | some .bool | some (.int _) | some .string => false
    | some (.slice e) => hasPtr P n e
    | some (.array _ e) => hasPtr P n e
    | some (.struct fs) => fs.toList.any fun f => hasPtr P n f.type
    | some (.interface _) => false
    | _ => true

def eqFields (P : Program) (rec : TypeId → Option (List CK)) (off : Nat) : List Field → Option (List CK)
  | [] => some []
  | f :: fs => if f.name ≠ "_" && f.offset = off && szOf P f.type = some ((rec f.type).getD []).length && ((rec f.type).getD []).length ≠ 0 then
      match rec f.type, eqFields P rec (off + ((rec f.type).getD []).length) fs with
      | some ks, some ls => some (ks ++ ls)
      | _, _ => none
    else none

/-- The kinds of a type's cells, if '==' goes by the cells. -/
def eqKinds (P : Program) : Nat → TypeId → Option (List CK)
  | 0, _ => none
  | n + 1, t =>
    match P.underlying t with
    | some .bool => some [.b]
    | some (.int k) => some [.i k]
    | some .string => some [.s]
    | some (.array len e) => if szOf P e = some ((eqKinds P n e).getD []).length then (eqKinds P n e).map fun ks => (List.replicate len ks).flatten else none
    | some (.struct fs) => if P.stoodInHeld t then none else eqFields P (eqKinds P n) 0 fs.toList
    | _ => none

/-- Hints: of a slot: 0 it holds the address of an object, 1 that of an element, r + 2 that of the root r; of a callee: 0 pure, 1 pure and its result may be fresh, else it shares the store. -/
structure Hint where
  slot : Nat → Nat
  fn : Nat → Nat
  pt : Nat → Bool := fun _ => false

def Hint.at (h : Hint) : Operand → Nat
  | .tmp t => h.slot t
  | _ => 0

def isNeq : BinOp → Bool
  | .neq => true
  | _ => false

/-- The nil of a type, as a constant. -/
def nilKind : TypeDesc → Operand → Option Nat
  | .slice _, .const (.slice none 0 0) => some 0
  | .pointer _, .const (.pointer none) => some 1
  | .map _ _, .const (.map none) => some 2
  | .func _ _ _, .const .nilFunc => some 3
  | _, _ => none

def one (x : Operand) (f : IOp) : Option (IOp × List Opd) := (opd x).map fun a => (f, [a])
def two (x y : Operand) (f : IOp) : Option (IOp × List Opd) :=
  match opd x, opd y with
  | some a, some b => some (f, [a, b])
  | _, _ => none

def compBin (P : Program) (op : BinOp) (t : TypeId) (x y : Operand) : Option (IOp × List Opd) :=
  match op with
  | .eql | .neq =>
    match P.underlying t with
    | some .bool => two x y (.p (.eqb (isNeq op)))
    | some (.int _) | some .string => two x y (.p (.bin op))
    | some (.struct _) | some (.array _ _) => if P.eqGuardType P.depth t then none else (eqKinds P 100 t).bind fun ks => two x y (.p (.eqa (isNeq op) ks))
    | some d => match nilKind d y with
      | some k => one x (.p (.isnil k (isNeq op)))
      | none => none
    | none => none
  | _ => two x y (.p (.bin op))

def compField (P : Program) (t : TypeId) (f : Nat) : Option Field :=
  match P.underlying t with
  | some (.struct fs) => fs[f]?
  | _ => none

def places (P : Program) (fs : Array Field) : List Nat → Option (List (Nat × Nat))
  | [] => some []
  | i :: is => match fs[i]?, places P fs is with
    | some f, some ps => (szOf P f.type).map fun n => (f.offset, n) :: ps
    | _, _ => none

def optCount : Option Operand → List Operand
  | some x => [x]
  | none => []

/-- The methods of a name that are called without a step in between: dynamic types and functions. -/
def methodOf (P : Program) (name : String) (t : TypeId) : Option FuncId :=
  match P.info? t, P.underlying t with
  | some i, some u =>
    match u with
    | .pointer _ => none
    | _ => match i.methods.find? (·.name == name) with
      | some m => if m.path.isEmpty then (match m.func with | some (f, false) => some f | _ => none) else none
      | none => none
  | _, _ => none

def methodTbl (P : Program) (name : String) : Nat → List (Nat × Nat)
  | 0 => []
  | n + 1 => match methodOf P name n with
    | some f => (n, f) :: methodTbl P name n
    | none => methodTbl P name n

def compOp (P : Program) (h : Hint) (dst : Option Nat) (op : Go.Op) : Option (IOp × List Opd) :=
  match op with
  | .move x | .assign x => one x (.p .mv)
  | .pick c a b => (opds [c, a, b]).map fun xs => (.p .pick, xs)
  | .alloc e =>
    match ((P.info? e).bind (·.zero)).bind ofVal, dst with
    | some z, some d => if h.slot d = d + 2 then some (.lw d (.alloc z.cells), []) else some (.s true (.alloc z.cells), [])
    | _, _ => none
  | .box _ x =>
    match dst with
    | some d => one x (if h.slot d = d + 2 then .lw d .box else .s true .box)
    | none => none
  | .build t parts =>
    match P.underlying t, ((P.info? t).bind (·.zero)).bind ofVal with
    | some (.struct fs), some (.agg z) =>
      if (fs.toList.all fun f => (szOf P f.type).isSome) then
        match places P fs (parts.toList.map (·.1)), opds (parts.toList.map (·.2)) with
        | some ps, some xs => some (.p (.build z ps), xs)
        | _, _ => none
      else none
    | some (.array _ e), some (.agg z) =>
      match szOf P e, opds (parts.toList.map (·.2)) with
      | some k, some xs => some (.p (.build z (parts.toList.map fun p => (p.1 * k, k))), xs)
      | _, _ => none
    | _, _ => none
  | .buildSlice t len parts =>
    match P.underlying t with
    | some (.slice e) =>
      match P.info? e with
      | some i =>
        if 0 < i.size && i.zero.isSome && (len * i.size ≤ 2 ^ 24) && parts.toList.map (·.1) == List.range len then
          (opds (parts.toList.map (·.2))).map fun xs => (.p (.bslice (h.pt e || hasPtr P 20 e) i.size), xs)
        else none
      | none => none
    | _ => none
  | .load t a =>
    match aggSz P t with
    | some sz => one a (match h.at a with | 0 => .s false (.ld sz) | 1 => .p (.ldE sz) | r + 2 => .lr r sz)
    | none => none
  | .store t a x =>
    match szOf P t with
    | some n => match h.at a with
      | 0 => two a x (.s true (.st n))
      | 1 => none
      | r + 2 => two a x (.lw r (.st n))
    | none => none
  | .nilCheck x => one x (.p .nilchk)
  | .binOp op t x y _ => compBin P op t x y
  | .unOp op _ x => one x (.p (.un op))
  | .convert s d x =>
    match P.underlying s, P.underlying d with
    | some (.int _), some (.int k) => one x (.p (.conv k))
    | some .string, some .string => one x (.p .convS)
    | _, _ => none
  | .fieldAddr t x f =>
    match compField P t f with
    | some fl => match szOf P fl.type with
      | some (n + 1) => one x (.p (.off fl.offset))
      | _ => none
    | none => none
  | .field t x f =>
    match compField P t f with
    | some fl => match aggSz P fl.type with
      | some sz => one x (.p (.fld fl.offset sz))
      | none => none
    | none => none
  | .indexAddr t x i =>
    match P.underlying t with
    | some (.slice e) => match szOf P e with
      | some sz => two x i (.p (.idxS sz))
      | none => none
    | some (.array len e) => match szOf P e with
      | some sz => two x i (.p (.idxA len sz))
      | none => none
    | _ => none
  | .index t x i =>
    match P.underlying t with
    | some .string => two x i (.p .idxStr)
    | _ => none
  | .slice t x lo hi mx =>
    match P.underlying t with
    | some .string => if mx.isNone then (opds (x :: optCount lo ++ optCount hi)).map fun xs => (.p (.slcS lo.isSome hi.isSome), xs) else none
    | some (.slice e) => match szOf P e with
      | some sz => (opds (x :: optCount lo ++ optCount hi ++ optCount mx)).map fun xs => (.p (.slcV sz lo.isSome hi.isSome mx.isSome), xs)
      | none => none
    | _ => none
  | .extract t i => one t (.p (.ext i))
  | .makeFunc (.func f) first captured => if first.isEmpty then (opds captured.toList).map fun xs => (.p (.mkfunc f), xs) else none
  | .range t x =>
    match P.underlying t, dst with
    | some .string, some d => one x (.lw d .rng)
    | _, _ => none
  | .next it true =>
    match h.at it with
    | r + 2 => one it (.lw r .next)
    | _ => none
  | .makeInterface t x =>
    match P.underlying t with
    | some (.interface _) => none
    | some _ => one x (.p (.mkI t))
    | none => none
  | .typeAssert x _ u true =>
    match P.underlying u with
    | some (.interface _) => none
    | some _ => match ((P.info? u).bind (·.zero)).bind ofVal with
      | some z => one x (.p (.tyA u z))
      | none => none
    | none => none
  | .makeSlice t l c =>
    match P.underlying t with
    | some (.slice e) =>
      match P.info? e with
      | some i => match i.zero.bind ofVal with
        | some z => if 0 < i.size ∧ i.bytes ≤ 1024 ∧ z.cells.length = i.size then two l c (.s true (.make z.cells)) else none
        | none => none
      | none => none
    | _ => none
  | .call c =>
    match c.callee with
    | .invoke r name => (opds (r :: c.args.toList)).map fun xs => (.p (.callM (methodTbl P name P.types.size)), xs)
    | .value (.func f) => (opds c.args.toList).map fun xs => (match h.fn f with | 0 => .p (.call f) | 1 => .s true (.callF f) | _ => .s true (.callI f), xs)
    | .value (.tmp t) => (opds c.args.toList).map fun xs => (.s true .callV, .t t :: xs)
    | .builtin .len =>
      match c.args.toList, (c.argTypes[0]?).bind P.underlying with
      | [x], some .string => one x (.p .lenStr)
      | [x], some (.slice _) => one x (.p .lenSl)
      | [x], some (.array n _) => one x (.p (.lenArr n))
      | _, _ => none
    | .builtin .append =>
      match c.args.toList, c.argTypes.toList with
      | [s, x], [t, u] =>
        match P.underlying t with
        | some (.slice e) =>
          match P.info? e with
          | some i =>
            match i.zero with
            | some z => if t = u ∧ 0 < i.size ∧ i.bytes ≤ 1024 ∧ z.cells.size = i.size then two s x (.s true (.app (h.pt e || hasPtr P 20 e) i.size)) else none
            | none => none
          | none => none
        | _ => none
      | _, _ => none
    | .builtin .max => match c.args.toList with
      | [x, y] => two x y (.p .mx)
      | _ => none
    | .builtin .min => match c.args.toList with
      | [x, y] => two x y (.p .mn)
      | _ => none
    | _ => none
  | _ => none

def slotOk (nt : Nat) : Option Nat → Bool
  | some d => d < nt
  | none => true

def compGuard (ops : List Oper) : Option (Nat × Bool) → Option (Option (Nat × Bool))
  | none => some none
  | some (j, b) => match ops[j]? with
    | some o => o.dst.map fun d => some (d, b)
    | none => none

def compOper (P : Program) (h : Hint) (nt : Nat) (ops : List Oper) (o : Oper) : Option IOper :=
  match compOp P h o.dst o.op, compGuard ops o.guard with
  | some (op, xs), some g => if slotOk nt o.dst then some { dst := o.dst, op, xs, guard := g } else none
  | _, _ => none

def compOpers (P : Program) (h : Hint) (nt : Nat) (ops : List Oper) : List Oper → Option (List IOper)
  | [] => some []
  | o :: os => match compOper P h nt ops o, compOpers P h nt ops os with
    | some i, some is => some (i :: is)
    | _, _ => none

/-! Regions whose order is open -/

def IOper.uses (o : IOper) : List Nat :=
  (o.xs.filterMap fun | .t n => some n | _ => none) ++ (match o.guard with | some (g, _) => [g] | none => [])

def accOk : IOp → IOp → Bool
  | .p _, _ | _, .p _ => true
  | .lr _ _, .lr _ _ => true
  | .lr r _, .lw q _ | .lw q _, .lr r _ | .lw r _, .lw q _ => r != q
  | .s false (.ld _), .s false (.ld _) => true
  | .s _ _, .s _ _ => false
  | .lr _ _, .s _ _ | .lw _ _, .s _ _ | .s _ _, .lr _ _ | .s _ _, .lw _ _ => true

def freeOf : Option Nat → List Nat → Bool
  | some d, l => !l.contains d
  | none, _ => true

def indep (a b : IOper) : Bool :=
  accOk a.op b.op && freeOf a.dst b.uses && freeOf b.dst a.uses && freeOf a.dst b.dst.toList

/-- The operations that come ahead of one: a mask; acc: those of the earlier ones. -/
def ahead (acc : List Nat) (o : Oper) : Nat :=
  o.after.toList.foldl (fun s e => if Region.binds .any e then s ||| 2 ^ e.on ||| acc.getD e.on 0 else s) 0

def aheads (acc : List Nat) : List Oper → List Nat
  | [] => acc
  | o :: os => aheads (acc ++ [ahead acc o]) os

/-- Operation j against the earlier ones (counted from i on). -/
def drawRow (m : Nat) (b : IOper) (i : Nat) : List IOper → Bool
  | [] => true
  | a :: as => (m.testBit i || indep a b) && drawRow m b (i + 1) as

def drawAll (done : List IOper) : List Nat → List IOper → Bool
  | m :: ms, b :: bs => drawRow m b 0 done && drawAll (done ++ [b]) ms bs
  | _, [] => true
  | [], _ :: _ => false

def edgesBack (i : Nat) : List Oper → Bool
  | [] => true
  | o :: os => (o.after.toList.all fun e => !Region.binds .any e || e.on < i) && edgesBack (i + 1) os

def drawOk (P : Program) (ops : List Oper) (ios : List IOper) : Bool :=
  P.follows .mixedOrders && edgesBack 0 ops && drawAll [] (aheads [] ops) ios

def compCode (P : Program) (h : Hint) (nt : Nat) : Code → Option ICode
  | .skip | .label _ => some .skip
  | .ret => some .ret
  | .exit id => some (.exit id)
  | .region _ ops draw => (compOpers P h nt ops.toList ops.toList).bind fun ios => if !draw || drawOk P ops.toList ios then some (.reg ios) else none
  | .seq a b => match compCode P h nt a, compCode P h nt b with
    | some x, some y => some (.seq x y)
    | _, _ => none
  | .cond c a b => match opd c, compCode P h nt a, compCode P h nt b with
    | some d, some x, some y => some (.cond d x y)
    | _, _, _ => none
  | .block id a => (compCode P h nt a).map (.block id)
  | .loop a => (compCode P h nt a).map .loop
  | .scope a => compCode P h nt a
  | _ => none

def compRes (P : Program) (h : Hint) : List ResultVar → Option (List IRes)
  | [] => some []
  | .tmp t :: rs => (compRes P h rs).map (.t t :: ·)
  | .cell a t :: rs => match aggSz P t, compRes P h rs with
    | some sz, some is => if h.slot a = a + 2 then some (.cell a sz :: is) else none
    | _, _ => none

def compFunc (P : Program) (h : Hint) (fn : Func) : Option IFunc :=
  match fn.body with
  | some c => match compCode P h fn.ntmps c, compRes P h fn.results.toList with
    | some b, some rs => if fn.params.size + fn.nfree ≤ fn.ntmps then some { npar := fn.params.size + fn.nfree, res := rs, body := b } else none
    | _, _ => none
  | none => none

end Go.Proofs.YtdnoonnanhnkaaaDoor
