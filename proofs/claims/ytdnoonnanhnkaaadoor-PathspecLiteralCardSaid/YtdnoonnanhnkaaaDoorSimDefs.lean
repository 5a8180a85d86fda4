/- A small language of values for a fragment of the translated programs, and its semantics: slices are immutable lists of elements, struct variables are local roots, objects behind pointers lie in a small store. Nothing is claimed here; the theorems are in the texts that import this one. -/
import Derived.Control
import Derived.Below
set_option linter.unusedVariables false
namespace Go.Proofs.YtdnoonnanhnkaaaDoor
open Go

/-- Values. 'loc r ep off': the address of cell off of the local variable of root r in its incarnation ep. 'obj id off': the address of a cell of an object of the store. 'elem cells off': the address of a cell of an element of an immutable slice. 'slice pt own sz elems': a slice that is not nil; sz: cells of an element; own: 0 no right to append in place, 1 its capacity is its length, 2 fresh (results of calls alone), 3 and more: a token. pt: its elements may hold addresses. 'iface t d': an interface value of the dynamic type t. 'mslice id off len cap': a slice of a store object's cells, that may be written. -/
inductive DVal where
  | undef
  | bool (b : Bool)
  | int (k : IntKind) (n : Int)
  | str (s : List UInt8)
  | nilp
  | nils
  | nilm
  | nilf
  | loc (r ep off : Nat)
  | obj (id off : Nat)
  | elem (cells : List DVal) (off : Nat)
  | slice (pt : Bool) (own sz : Nat) (elems : List (List DVal))
  | map (id : Nat)
  | func (f : Nat) (caps : List DVal)
  | nilI
  | iface (t : Nat) (d : DVal)
  | mslice (id off len cap : Nat)
  | agg (cells : List DVal)
  | tup (vs : List DVal)

instance : Inhabited DVal := ⟨.undef⟩

/-- The cells of a value. -/
def DVal.cells : DVal → List DVal
  | .agg cs => cs
  | v => [v]

/-- Plain data without addresses. -/
def DVal.plainCell : DVal → Bool
  | .bool _ | .int _ _ | .str _ => true
  | _ => false
def DVal.plain : DVal → Bool
  | .agg cs => cs.all DVal.plainCell
  | v => v.plainCell

/-- What may stand in a cell that outlives the frame. -/
def DVal.okCell : DVal → Bool
  | .undef | .loc .. | .agg _ | .tup _ | .elem .. => false
  | .slice _ own _ _ => own != 2
  | .iface _ d => d.plain
  | _ => true

/-- What may stand in a cell of an argument or result of a pure call, and in an element of a closed slice, with its right to append struck. -/
def DVal.sealCell : DVal → Option DVal
  | .bool b => some (.bool b)
  | .int k n => some (.int k n)
  | .str s => some (.str s)
  | .nilp => some .nilp
  | .nils => some .nils
  | .nilm => some .nilm
  | .nilf => some .nilf
  | .slice false own sz es => some (.slice false (if own = 1 then 1 else 0) sz es)
  | .nilI => some .nilI
  | .iface t d => if d.plain then some (.iface t d) else none
  | _ => none

def sealCells : List DVal → Option (List DVal)
  | [] => some []
  | c :: cs => match c.sealCell, sealCells cs with
    | some d, some ds => some (d :: ds)
    | _, _ => none

/-- A value that crosses a pure call. -/
def DVal.sealVal : DVal → Option DVal
  | .agg cs => (sealCells cs).map .agg
  | v => v.sealCell

def sealVals : List DVal → Option (List DVal)
  | [] => some []
  | c :: cs => match c.sealVal, sealVals cs with
    | some d, some ds => some (d :: ds)
    | _, _ => none

/-- A fresh slice that nobody is to append to. -/
def DVal.stale : DVal → DVal
  | .slice pt 2 sz es => .slice pt 0 sz es
  | v => v

/-- A value that crosses another call. -/
def DVal.okVal : DVal → Bool
  | .agg cs => cs.all DVal.okCell
  | v => v.okCell

/-- Operands. -/
inductive Opd where
  | t (n : Nat)
  | c (v : DVal)

/-- The kinds of cells that '==' compares. -/
inductive CK where
  | b
  | i (k : IntKind)
  | s

/-- Operations on operands' values alone. -/
inductive POp where
  | mv
  | pick
  | bin (op : BinOp)
  | eqb (neg : Bool)
  | eqa (neg : Bool) (ks : List CK)
  | isnil (k : Nat) (neg : Bool)
  | un (op : UnOp)
  | conv (k : IntKind)
  | convS
  | off (n : Nat)
  | idxS (sz : Nat)
  | idxA (len sz : Nat)
  | idxStr
  | fld (off : Nat) (sz : Option Nat)
  | ldE (sz : Option Nat)
  | ext (i : Nat)
  | build (zero : List DVal) (parts : List (Nat × Nat))
  | bslice (pt : Bool) (sz : Nat)
  | slcS (lo hi : Bool)
  | slcV (sz : Nat) (lo hi mx : Bool)
  | lenStr
  | lenSl
  | lenArr (n : Nat)
  | mx
  | mn
  | mkfunc (f : Nat)
  | nilchk
  | call (f : Nat)
  | mkI (t : Nat)
  | tyA (t : Nat) (zero : DVal)
  | callM (tbl : List (Nat × Nat))

/-- Operations that write a local root. -/
inductive LOp where
  | box
  | alloc (zero : List DVal)
  | st (n : Nat)
  | rng
  | next

/-- Operations on the store. -/
inductive SOp where
  | ld (sz : Option Nat)
  | st (n : Nat)
  | box
  | alloc (zero : List DVal)
  | app (pt : Bool) (sz : Nat)
  | make (zero : List DVal)
  | callF (f : Nat)
  | callI (f : Nat)
  | callV

inductive IOp where
  | p (o : POp)
  | lr (r : Nat) (sz : Option Nat)
  | lw (r : Nat) (o : LOp)
  | s (w : Bool) (o : SOp)

structure IOper where
  dst : Option Nat
  op : IOp
  xs : List Opd
  guard : Option (Nat × Bool)

inductive ICode where
  | skip
  | ret
  | exit (id : Nat)
  | reg (ops : List IOper)
  | seq (a b : ICode)
  | cond (c : Opd) (a b : ICode)
  | block (id : Nat) (a : ICode)
  | loop (a : ICode)

inductive IRes where
  | t (n : Nat)
  | cell (r : Nat) (sz : Option Nat)

structure IFunc where
  npar : Nat
  res : List IRes
  body : ICode

/-! ## Semantics -/

def intBits (op : BinOp) (k : IntKind) (x y : Int) : Int :=
  match op with
  | .and => k.wrap (BitVec.ofInt k.bits x &&& BitVec.ofInt k.bits y).toNat
  | .or => k.wrap (BitVec.ofInt k.bits x ||| BitVec.ofInt k.bits y).toNat
  | .xor => k.wrap (BitVec.ofInt k.bits x ^^^ BitVec.ofInt k.bits y).toNat
  | _ => k.wrap (BitVec.ofInt k.bits x &&& ~~~ BitVec.ofInt k.bits y).toNat

def binInt (op : BinOp) (k : IntKind) (a b : Int) : Option DVal :=
  match op with
  | .add => some (.int k (k.wrap (a + b)))
  | .sub => some (.int k (k.wrap (a - b)))
  | .mul => some (.int k (k.wrap (a * b)))
  | .quo => if b = 0 then none else some (.int k (k.wrap (a.tdiv b)))
  | .rem => if b = 0 then none else some (.int k (a.tmod b))
  | .and => some (.int k (intBits .and k a b))
  | .or => some (.int k (intBits .or k a b))
  | .xor => some (.int k (intBits .xor k a b))
  | .andNot => some (.int k (intBits .andNot k a b))
  | .eql => some (.bool (a == b))
  | .neq => some (.bool (a != b))
  | .lss => some (.bool (a < b))
  | .leq => some (.bool (a ≤ b))
  | .gtr => some (.bool (a > b))
  | .geq => some (.bool (a ≥ b))
  | _ => none

def binStr (op : BinOp) (x y : List UInt8) : Option DVal :=
  match op with
  | .add => if x.length + y.length ≤ 4611686018427387904 then some (.str (x ++ y)) else none
  | .eql => some (.bool (x == y))
  | .neq => some (.bool !(x == y))
  | .lss => some (.bool (Op.bytesLess x y))
  | .leq => some (.bool (Op.bytesLess x y || x == y))
  | .gtr => some (.bool !(Op.bytesLess x y || x == y))
  | .geq => some (.bool !(Op.bytesLess x y))
  | _ => none

def binSem (op : BinOp) : DVal → DVal → Option DVal
  | .int k a, .int k' b =>
    match op with
    | .shl => if b < 0 then none else some (.int k (k.wrap (a * 2 ^ min b.toNat k.bits)))
    | .shr => if b < 0 then none else some (.int k (a.fdiv (2 ^ min b.toNat k.bits)))
    | op => if k = k' then binInt op k a b else none
  | .str x, .str y => binStr op x y
  | _, _ => none

def cellEq : CK → DVal → DVal → Option Bool
  | .i q, .int k a, .int k' b => if k = q ∧ k' = q then some (a == b) else none
  | .s, .str a, .str b => some (a == b)
  | .b, .bool a, .bool b => some (a == b)
  | _, _, _ => none

def cellsEq : List CK → List DVal → List DVal → Option Bool
  | [], [], [] => some true
  | k :: ks, x :: xs, y :: ys => match cellEq k x y, cellsEq ks xs ys with
    | some b, some c => some (b && c)
    | _, _ => none
  | _, _, _ => none

/-- Is it nil? k: 0 slices, 1 pointers, 2 maps, 3 functions, 4 interfaces. -/
def DVal.isNil (k : Nat) : DVal → Option Bool
  | .nilp => if k = 1 then some true else none
  | .nils => if k = 0 then some true else none
  | .nilm => if k = 2 then some true else none
  | .nilf => if k = 3 then some true else none
  | .loc .. | .obj .. | .elem .. => if k = 1 then some false else none
  | .slice .. => if k = 0 then some false else none
  | .map _ => if k = 2 then some false else none
  | .func .. => if k = 3 then some false else none
  | .nilI => if k = 4 then some true else none
  | .iface .. => if k = 4 then some false else none
  | .mslice .. => if k = 0 then some false else none
  | _ => none

def DVal.shift (n : Nat) : DVal → Option DVal
  | .loc r ep off => some (.loc r ep (off + n))
  | .obj id off => some (.obj id (off + n))
  | .elem cs off => some (.elem cs (off + n))
  | _ => none

/-- A value of the cells from off on. -/
def readCells (cs : List DVal) (off : Nat) : Option Nat → Option DVal
  | none => cs[off]?
  | some n => if off + n ≤ cs.length then some (.agg ((cs.drop off).take n)) else none

/-- The cells with others from off on. -/
def writeCells (cs : List DVal) (off : Nat) (new : List DVal) : Option (List DVal) :=
  if off + new.length ≤ cs.length then some (cs.take off ++ (new ++ cs.drop (off + new.length))) else none

def fillCells (cs : List DVal) : List (Nat × Nat) → List DVal → Option (List DVal)
  | [], [] => some cs
  | (off, n) :: ps, v :: vs => if v.cells.length = n then (writeCells cs off v.cells).bind (fillCells · ps vs) else none
  | _, _ => none

/-- The elements of a slice that is written out. -/
def sealElems (pt : Bool) (sz : Nat) : List DVal → Option (List (List DVal))
  | [] => some []
  | v :: vs => if v.cells.length = sz then
      match (if pt then (if v.cells.all DVal.okCell then some v.cells else none) else sealCells v.cells), sealElems pt sz vs with
      | some e, some es => some (e :: es)
      | _, _ => none
    else none

/-- The bounds of a slice expression: operands behind the first one. -/
def bounds (lo hi mx : Bool) (len : Nat) (xs : List DVal) : Option (Nat × Nat) :=
  let low (v : DVal) (h : Nat) : Option (Nat × Nat) := match v with
    | .int _ i => if 0 ≤ i ∧ i ≤ h then some (i.toNat, h) else none
    | _ => none
  match lo, hi, mx, xs with
  | false, false, false, [] => some (0, len)
  | true, false, false, [l] => low l len
  | false, true, false, [.int _ j] => if 0 ≤ j ∧ j ≤ len then some (0, j.toNat) else none
  | true, true, false, [l, .int _ j] => if 0 ≤ j ∧ j ≤ len then low l j.toNat else none
  | false, true, true, [.int _ j, .int _ m] => if 0 ≤ j ∧ j ≤ len ∧ m = j then some (0, j.toNat) else none
  | true, true, true, [l, .int _ j, .int _ m] => if 0 ≤ j ∧ j ≤ len ∧ m = j then low l j.toNat else none
  | _, _, _, _ => none

def goI (n : Nat) : DVal := .int .i64 n

def mvSem : List DVal → Option DVal
  | [x] => some x
  | _ => none
def pickSem : List DVal → Option DVal
  | [.bool c, a, b] => some (if c then a else b)
  | _ => none
def bin2Sem (op : BinOp) : List DVal → Option DVal
  | [x, y] => binSem op x y
  | _ => none
def eqbSem (neg : Bool) : List DVal → Option DVal
  | [.bool x, .bool y] => some (.bool (if neg then !(x == y) else x == y))
  | _ => none
def eqaSem (neg : Bool) (ks : List CK) : List DVal → Option DVal
  | [.agg x, .agg y] => (cellsEq ks x y).map fun b => .bool (if neg then !b else b)
  | _ => none
def isnilSem (k : Nat) (neg : Bool) : List DVal → Option DVal
  | [x] => (x.isNil k).map fun b => .bool (if neg then !b else b)
  | _ => none
def unSem (op : UnOp) : List DVal → Option DVal
  | [.bool b] => match op with
    | .not => some (.bool !b)
    | _ => none
  | [.int k n] => match op with
    | .neg => some (.int k (k.wrap (0 - n)))
    | .xor => some (.int k (intBits .xor k (if k.signed then -1 else k.max) n))
    | _ => none
  | _ => none
def convSem (k : IntKind) : List DVal → Option DVal
  | [.int _ n] => some (.int k (k.wrap n))
  | _ => none
def convSSem : List DVal → Option DVal
  | [.str s] => some (.str s)
  | _ => none
def offSem (n : Nat) : List DVal → Option DVal
  | [x] => x.shift n
  | _ => none
def idxSSem (sz : Nat) : List DVal → Option DVal
  | [.slice _ _ sz' es, .int _ i] => if sz' = sz ∧ 0 ≤ i then (es[i.toNat]?).map fun e => .elem e 0 else none
  | [.mslice id off len _, .int _ i] => if 0 ≤ i ∧ i < len then some (.obj id (off + i.toNat * sz)) else none
  | _ => none
def idxASem (len sz : Nat) : List DVal → Option DVal
  | [x, .int _ i] => if 0 ≤ i ∧ i < len then x.shift (i.toNat * sz) else none
  | _ => none
def idxStrSem : List DVal → Option DVal
  | [.str s, .int _ i] => if 0 ≤ i then (s[i.toNat]?).map fun b => .int .u8 b.toNat else none
  | _ => none
def fldSem (o : Nat) (sz : Option Nat) : List DVal → Option DVal
  | [.agg cs] => readCells cs o sz
  | _ => none
def ldESem (sz : Option Nat) : List DVal → Option DVal
  | [.elem cs o] => readCells cs o sz
  | _ => none
def extSem (i : Nat) : List DVal → Option DVal
  | [.tup vs] => vs[i]?
  | _ => none
def slcSSem (lo hi : Bool) : List DVal → Option DVal
  | .str s :: xs => (bounds lo hi false s.length xs).map fun b => .str ((s.drop b.1).take (b.2 - b.1))
  | _ => none
def slcVSem (sz : Nat) (lo hi m : Bool) : List DVal → Option DVal
  | .slice pt own sz' es :: xs =>
    if sz' = sz then (bounds lo hi m es.length xs).map fun b => .slice pt (if m then 1 else if lo then 0 else if own = 1 then 0 else own) sz ((es.drop b.1).take (b.2 - b.1)) else none
  | .nils :: xs => (bounds lo hi m 0 xs).map fun _ => .nils
  | _ => none
def lenStrSem : List DVal → Option DVal
  | [.str s] => some (goI s.length)
  | _ => none
def lenSlSem : List DVal → Option DVal
  | [.slice _ _ _ es] => some (goI es.length)
  | [.nils] => some (goI 0)
  | [.mslice _ _ len _] => some (goI len)
  | _ => none
def mxSem : List DVal → Option DVal
  | [.int k x, .int k' y] => if k = k' then some (.int k (if y > x then y else x)) else none
  | _ => none
def mnSem : List DVal → Option DVal
  | [.int k x, .int k' y] => if k = k' then some (.int k (if y < x then y else x)) else none
  | _ => none
def nilchkSem : List DVal → Option DVal
  | [x] => match x with
    | .loc .. | .obj .. | .elem .. | .func .. => some x
    | _ => none
  | _ => none

def mkISem (t : Nat) : List DVal → Option DVal
  | [x] => some (.iface t x)
  | _ => none
def tyASem (t : Nat) (zero : DVal) : List DVal → Option DVal
  | [.iface u d] => some (.tup (if u = t then [d, .bool true] else [zero, .bool false]))
  | [.nilI] => some (.tup [zero, .bool false])
  | _ => none
def callMSem (call : Nat → List DVal → Option DVal) (tbl : List (Nat × Nat)) : List DVal → Option DVal
  | .iface t d :: xs => match tbl.lookup t with
    | some f => (sealVals (d :: xs)).bind fun ys => (call f ys).map DVal.stale
    | none => none
  | _ => none

def POp.sem (call : Nat → List DVal → Option DVal) (xs : List DVal) : POp → Option DVal
  | .mv => mvSem xs
  | .pick => pickSem xs
  | .bin op => bin2Sem op xs
  | .eqb neg => eqbSem neg xs
  | .eqa neg ks => eqaSem neg ks xs
  | .isnil k neg => isnilSem k neg xs
  | .un op => unSem op xs
  | .conv k => convSem k xs
  | .convS => convSSem xs
  | .off n => offSem n xs
  | .idxS sz => idxSSem sz xs
  | .idxA len sz => idxASem len sz xs
  | .idxStr => idxStrSem xs
  | .fld o sz => fldSem o sz xs
  | .ldE sz => ldESem sz xs
  | .ext i => extSem i xs
  | .build zero parts => (fillCells zero parts xs).map .agg
  | .bslice pt sz => (sealElems pt sz xs).map fun es => .slice pt 1 sz es
  | .slcS lo hi => slcSSem lo hi xs
  | .slcV sz lo hi m => slcVSem sz lo hi m xs
  | .lenStr => lenStrSem xs
  | .lenSl => lenSlSem xs
  | .lenArr n => some (goI n)
  | .mx => mxSem xs
  | .mn => mnSem xs
  | .mkfunc f => if xs.all DVal.okCell then some (.func f xs) else none
  | .nilchk => nilchkSem xs
  | .call f => (sealVals xs).bind fun ys => (call f ys).map DVal.stale
  | .mkI t => mkISem t xs
  | .tyA t z => tyASem t z xs
  | .callM tbl => callMSem call tbl xs

structure Sto where
  nobj : Nat
  obj : Nat → DVal
  ntok : Nat
  fr : Nat → Nat

def upd {α : Type} (f : Nat → α) (a : Nat) (v : α) : Nat → α := fun b => if b = a then v else f b

/-- Reading a local root. -/
def readLoc (r : Nat) (sz : Option Nat) (m : Nat × DVal) : List DVal → Option DVal
  | [.loc r' ep off] => if r' = r ∧ ep = m.1 then
      match m.2 with
      | .agg cs => readCells cs off sz
      | _ => none
    else none
  | _ => none

def boxLSem (r : Nat) (m : Nat × DVal) : List DVal → Option (DVal × (Nat × DVal))
  | [x] => if x.cells.all DVal.okCell then some (.loc r (m.1 + 1) 0, (m.1 + 1, .agg x.cells)) else none
  | _ => none
def allocLSem (r : Nat) (m : Nat × DVal) (zero : List DVal) : List DVal → Option (DVal × (Nat × DVal))
  | [] => some (.loc r (m.1 + 1) 0, (m.1 + 1, .agg zero))
  | _ => none
def stLSem (r : Nat) (m : Nat × DVal) (n : Nat) : List DVal → Option (DVal × (Nat × DVal))
  | [.loc r' ep off, v] => if r' = r ∧ ep = m.1 ∧ v.cells.length = n ∧ v.cells.all DVal.okCell then
      match m.2 with
      | .agg cs => (writeCells cs off v.cells).map fun cs' => (.undef, (m.1, .agg cs'))
      | _ => none
    else none
  | _ => none
def rngSem (r : Nat) (m : Nat × DVal) : List DVal → Option (DVal × (Nat × DVal))
  | [.str s] => some (.loc r (m.1 + 1) 0, (m.1 + 1, .tup [.str s, goI 0]))
  | _ => none
def nextSem (r : Nat) (m : Nat × DVal) : List DVal → Option (DVal × (Nat × DVal))
  | [.loc r' ep off] => if r' = r ∧ ep = m.1 ∧ off = 0 then
      match m.2 with
      | .tup [.str s, .int .i64 pos] =>
        if pos < s.length then
          some (.tup [.bool true, .int .i64 pos, .int .i32 (Utf8.decode ⟨s.toArray⟩ pos.toNat).1], (m.1, .tup [.str s, goI (pos.toNat + (Utf8.decode ⟨s.toArray⟩ pos.toNat).2)]))
        else some (.tup [.bool false], m)
      | _ => none
    else none
  | _ => none

/-- Writing a local root: the result, and what the root holds then. -/
def LOp.sem (r : Nat) (m : Nat × DVal) (xs : List DVal) : LOp → Option (DVal × (Nat × DVal))
  | .box => boxLSem r m xs
  | .alloc zero => allocLSem r m zero xs
  | .st n => stLSem r m n xs
  | .rng => rngSem r m xs
  | .next => nextSem r m xs

/-- The elements that are appended. -/
def elemsOf : DVal → Option (Bool × List (List DVal))
  | .nils => some (false, [])
  | .slice pt _ _ es => some (pt, es)
  | _ => none

def DVal.szOk (sz : Nat) : DVal → Bool
  | .slice _ _ sz' _ => sz' == sz
  | _ => true

def maxAppend : Nat := 4294967296

/-- append. -/
def appSem (pt : Bool) (sz : Nat) (σ : Sto) (s x : DVal) : Option (DVal × Sto) :=
  match elemsOf x with
  | some (px, new) =>
    if (px && !pt) || !x.szOk sz then none else
    match s with
    | .nils => if new.isEmpty then some (.nils, σ) else
        if new.length ≤ maxAppend then some (.slice pt (σ.ntok + 3) sz new, { σ with ntok := σ.ntok + 1, fr := upd σ.fr σ.ntok (new.length * sz) }) else none
    | .slice ps own sz' es =>
      if ps = pt ∧ sz' = sz ∧ es.length + new.length ≤ maxAppend then
        if new.isEmpty then some (.slice ps own sz' es, σ) else
        if own = 1 then some (.slice pt (σ.ntok + 3) sz (es ++ new), { σ with ntok := σ.ntok + 1, fr := upd σ.fr σ.ntok ((es.length + new.length) * sz) })
        else if 3 ≤ own ∧ σ.fr (own - 3) = es.length * sz then
          some (.slice pt own sz (es ++ new), { σ with fr := upd σ.fr (own - 3) ((es.length + new.length) * sz) })
        else none
      else none
    | _ => none
  | none => none

/-- A fresh slice gets a token. -/
def importVal (σ : Sto) : DVal → DVal × Sto
  | .slice pt 2 sz es => (.slice pt (σ.ntok + 3) sz es, { σ with ntok := σ.ntok + 1, fr := upd σ.fr σ.ntok (es.length * sz) })
  | v => (v, σ)

def ldOSem (σ : Sto) (sz : Option Nat) : List DVal → Option (DVal × Sto)
  | [.obj id off] => if id < σ.nobj then
      match σ.obj id with
      | .agg cs => (readCells cs off sz).map fun v => (v, σ)
      | _ => none
    else none
  | [.elem cs off] => (readCells cs off sz).map fun v => (v, σ)
  | _ => none
def stOSem (σ : Sto) (n : Nat) : List DVal → Option (DVal × Sto)
  | [.obj id off, v] => if id < σ.nobj ∧ v.cells.length = n ∧ v.cells.all DVal.okCell then
      match σ.obj id with
      | .agg cs => (writeCells cs off v.cells).map fun cs' => (.undef, { σ with obj := upd σ.obj id (.agg cs') })
      | _ => none
    else none
  | _ => none
def boxOSem (σ : Sto) : List DVal → Option (DVal × Sto)
  | [x] => if x.cells.all DVal.okCell then some (.obj σ.nobj 0, { σ with nobj := σ.nobj + 1, obj := upd σ.obj σ.nobj (.agg x.cells) }) else none
  | _ => none
def allocOSem (σ : Sto) (zero : List DVal) : List DVal → Option (DVal × Sto)
  | [] => some (.obj σ.nobj 0, { σ with nobj := σ.nobj + 1, obj := upd σ.obj σ.nobj (.agg zero) })
  | _ => none
def makeSem (σ : Sto) (zero : List DVal) : List DVal → Option (DVal × Sto)
  | [.int .i64 n, .int .i64 m] => if n = m ∧ 0 ≤ n ∧ n ≤ 1048576 then
      some (.mslice σ.nobj 0 n.toNat n.toNat, { σ with nobj := σ.nobj + 1, obj := upd σ.obj σ.nobj (.agg (List.replicate n.toNat zero).flatten) }) else none
  | _ => none
def app2Sem (pt : Bool) (sz : Nat) (σ : Sto) : List DVal → Option (DVal × Sto)
  | [s, x] => appSem pt sz σ s x
  | _ => none
def callVSem (calli : Nat → List DVal → Sto → Option (DVal × Sto)) (σ : Sto) : List DVal → Option (DVal × Sto)
  | .func f caps :: xs => if xs.all DVal.okVal then calli f (xs ++ caps) σ else none
  | _ => none

def SOp.sem (call : Nat → List DVal → Option DVal) (calli : Nat → List DVal → Sto → Option (DVal × Sto)) (σ : Sto) (xs : List DVal) : SOp → Option (DVal × Sto)
  | .ld sz => ldOSem σ sz xs
  | .st n => stOSem σ n xs
  | .box => boxOSem σ xs
  | .alloc zero => allocOSem σ zero xs
  | .app pt sz => app2Sem pt sz σ xs
  | .make zero => makeSem σ zero xs
  | .callF f => (sealVals xs).bind fun ys => (call f ys).map (importVal σ)
  | .callI f => if xs.all DVal.okVal then calli f xs σ else none
  | .callV => callVSem calli σ xs

structure St where
  env : Nat → DVal
  loc : Nat → Nat × DVal
  sto : Sto

def Opd.val (env : Nat → DVal) : Opd → DVal
  | .t n => env n
  | .c v => v

def St.put (st : St) : Option Nat → DVal → St
  | some d, v => { st with env := upd st.env d v }
  | none, _ => st

def DVal.isB (b : Bool) : DVal → Bool
  | .bool c => c == b
  | _ => false

/-- An operation that is wanted. -/
def execOp' (call : Nat → List DVal → Option DVal) (calli : Nat → List DVal → Sto → Option (DVal × Sto)) (dst : Option Nat) (op : IOp) (xs : List Opd) (st : St) : Option St :=
  match op with
  | .p o => (o.sem call (xs.map (Opd.val st.env))).map (st.put dst)
  | .lr r sz => (readLoc r sz (st.loc r) (xs.map (Opd.val st.env))).map (st.put dst)
  | .lw r o => (o.sem r (st.loc r) (xs.map (Opd.val st.env))).map fun x => { st with loc := upd st.loc r x.2 }.put dst x.1
  | .s _ o => (o.sem call calli st.sto (xs.map (Opd.val st.env))).map fun x => { st with sto := x.2 }.put dst x.1

def stepOp (call : Nat → List DVal → Option DVal) (calli : Nat → List DVal → Sto → Option (DVal × Sto)) (o : IOper) (st : St) : Option St :=
  match o.guard with
  | none => execOp' call calli o.dst o.op o.xs st
  | some (g, b) => if (st.env g).isB b then execOp' call calli o.dst o.op o.xs st else some (st.put o.dst .undef)

def runOps (call : Nat → List DVal → Option DVal) (calli : Nat → List DVal → Sto → Option (DVal × Sto)) : List IOper → St → Option St
  | [], st => some st
  | o :: os, st => (stepOp call calli o st).bind (runOps call calli os)

def iter (f : St → Option (Exit × St)) : Nat → St → Option (Exit × St)
  | 0, _ => none
  | n + 1, st => match f st with
    | some (.normal, st') => iter f n st'
    | r => r

def runCode (call : Nat → List DVal → Option DVal) (calli : Nat → List DVal → Sto → Option (DVal × Sto)) (n : Nat) : ICode → St → Option (Exit × St)
  | .skip, st => some (.normal, st)
  | .ret, st => some (.ret, st)
  | .exit id, st => some (.exit id, st)
  | .reg ops, st => (runOps call calli ops st).map fun st' => (.normal, st')
  | .seq a b, st => match runCode call calli n a st with
    | some (.normal, st') => runCode call calli n b st'
    | r => r
  | .cond c a b, st => match c.val st.env with
    | .bool true => runCode call calli n a st
    | .bool false => runCode call calli n b st
    | _ => none
  | .block id a, st => match runCode call calli n a st with
    | some (.exit i, st') => if i = id then some (.normal, st') else some (.exit i, st')
    | r => r
  | .loop a, st => iter (runCode call calli n a) n st

def IRes.val (st : St) : IRes → Option DVal
  | .t n => some (st.env n)
  | .cell r sz => readLoc r sz (st.loc r) [st.env r]

def resVals (st : St) : List IRes → Option (List DVal)
  | [] => some []
  | r :: rs => match r.val st, resVals st rs with
    | some v, some vs => if v.okVal then some (v :: vs) else none
    | _, _ => none

def resVal (st : St) (rs : List IRes) : Option DVal :=
  match resVals st rs with
  | some [v] => some v
  | some vs => some (.tup vs)
  | none => none

def enter (args : List DVal) (σ : Sto) : St :=
  { env := fun i => args.getD i .undef, loc := fun _ => (0, .undef), sto := σ }

inductive IFun where
  | body (f : IFunc)
  | prim (sem : List DVal → Option DVal)

abbrev IProg := Nat → Option IFun

def emptySto : Sto := { nobj := 0, obj := fun _ => .undef, ntok := 0, fr := fun _ => 0 }

/-- What a pure call hands back: sealed; a slice that may be appended to by whoever gets it is marked fresh. -/
def DVal.handBack (σ : Sto) : DVal → Option DVal
  | .slice false own sz es => some (.slice false (if own = 1 then 1 else if 3 ≤ own ∧ σ.fr (own - 3) = es.length * sz then 2 else 0) sz es)
  | .tup vs => (sealVals vs).map .tup
  | v => v.sealVal

def runFun (call : Nat → List DVal → Option DVal) (calli : Nat → List DVal → Sto → Option (DVal × Sto)) (n : Nat) (F : IFunc) (args : List DVal) (σ : Sto) : Option (DVal × Sto) :=
  if args.length = F.npar then
    match runCode call calli n F.body (enter args σ) with
    | some (.ret, st) | some (.normal, st) => (resVal st F.res).map fun v => (v, st.sto)
    | _ => none
  else none

/-- A call, at most n calls deep and n rounds of each loop: with the caller's store, or without one: a pure call. -/
def ev (prog : IProg) : Nat → Nat → List DVal → Option Sto → Option (DVal × Sto)
  | 0, _, _, _ => none
  | n + 1, f, args, none =>
    match prog f with
    | some (.body F) => (runFun (fun g xs => (ev prog n g xs none).map (·.1)) (fun g xs τ => ev prog n g xs (some τ)) n F args emptySto).bind fun x => (x.1.handBack x.2).map fun v => (v, emptySto)
    | some (.prim sem) => (sem args).map fun v => (v, emptySto)
    | none => none
  | n + 1, f, args, some σ =>
    match prog f with
    | some (.body F) => runFun (fun g xs => (ev prog n g xs none).map (·.1)) (fun g xs τ => ev prog n g xs (some τ)) n F args σ
    | _ => none

def evalP (prog : IProg) (n : Nat) (f : Nat) (args : List DVal) : Option DVal := (ev prog n f args none).map (·.1)
def evalI (prog : IProg) (n : Nat) (f : Nat) (args : List DVal) (σ : Sto) : Option (DVal × Sto) := ev prog n f args (some σ)

end Go.Proofs.YtdnoonnanhnkaaaDoor
