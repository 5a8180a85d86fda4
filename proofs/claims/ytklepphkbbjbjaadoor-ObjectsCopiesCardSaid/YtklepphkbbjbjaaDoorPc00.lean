/- Texts of this proof, part 0: see the card for what is proved. -/
import Derived.Control
import Derived.Below
import Derived.Laws.Sem
import Derived.Laws.AppendOwn
import Derived.Laws.StructEq
import Derived.WalkKit
import Derived.MapKept
import Derived.Maps.RangeRun
import Derived.WalkSpells
namespace Go.Proofs.YtklepphkbbjbjaaDoor
set_option linter.unusedVariables false
open Go
inductive DVal where
  | undef
  | bool (b : Bool)
  | int (k : IntKind) (n : Int)
  | str (s : List UInt8)
  | nilp
  | nils
  | nilm
  | nilf
  | loc (r ep off : Nat)
  | obj (id off : Nat)
  | elem (cells : List DVal) (off : Nat)
  | slice (pt : Bool) (own sz : Nat) (elems : List (List DVal))
  | map (id : Nat)
  | func (f : Nat) (caps : List DVal)
  | nilI
  | iface (t : Nat) (d : DVal)
  | mslice (sz id off len : Nat) (cap : Option Nat)
  | empt
  | agg (cells : List DVal)
  | tup (vs : List DVal)
  | err
instance : Inhabited DVal := ⟨.undef⟩
def DVal.cells : DVal → List DVal
  | .agg cs => cs
  | v => [v]
def DVal.plainCell : DVal → Bool
  | .bool _ | .int _ _ | .str _ => true
  | _ => false
def DVal.plain : DVal → Bool
  | .agg cs => cs.all DVal.plainCell
  | v => v.plainCell
def DVal.okCell : DVal → Bool
  | .undef | .loc .. | .agg _ | .tup _ | .elem .. => false
  | .slice _ own _ _ => own != 2
  | .iface _ d => d.plain
  | _ => true
def DVal.sealCell : DVal → Option DVal
  | .bool b => some (.bool b)
  | .int k n => some (.int k n)
  | .str s => some (.str s)
  | .nilp => some .nilp
  | .nils => some .nils
  | .nilm => some .nilm
  | .nilf => some .nilf
  | .slice false own sz es => some (.slice false (if own = 1 then 1 else 0) sz es)
  | .nilI => some .nilI
  | .iface t d => if d.plain then some (.iface t d) else none
  | .empt => some .empt
  | .err => some .err
  | _ => none
def sealCells : List DVal → Option (List DVal)
  | [] => some []
  | c :: cs => match c.sealCell, sealCells cs with
    | some d, some ds => some (d :: ds)
    | _, _ => none
def DVal.sealVal : DVal → Option DVal
  | .agg cs => (sealCells cs).map .agg
  | v => v.sealCell
def sealVals : List DVal → Option (List DVal)
  | [] => some []
  | c :: cs => match c.sealVal, sealVals cs with
    | some d, some ds => some (d :: ds)
    | _, _ => none
def DVal.stale : DVal → DVal
  | .slice pt 2 sz es => .slice pt 0 sz es
  | v => v
def DVal.okVal : DVal → Bool
  | .agg cs => cs.all DVal.okCell
  | v => v.okCell
inductive Opd where
  | t (n : Nat)
  | c (v : DVal)
inductive CK where
  | b
  | i (k : IntKind)
  | s
inductive POp where
  | mv
  | pick
  | bin (op : BinOp)
  | eqb (neg : Bool)
  | eqa (neg : Bool) (ks : List CK)
  | isnil (k : Nat) (neg : Bool)
  | un (op : UnOp)
  | conv (k : IntKind)
  | convS
  | off (n : Nat)
  | idxS (sz : Nat)
  | idxA (len sz : Nat)
  | idxStr
  | fld (off : Nat) (sz : Option Nat)
  | ldE (sz : Option Nat)
  | ext (i : Nat)
  | build (zero : List DVal) (parts : List (Nat × Nat))
  | bslice (pt : Bool) (sz : Nat)
  | slcS (lo hi : Bool)
  | slcV (sz : Nat) (lo hi mx : Bool)
  | lenStr
  | lenSl
  | lenArr (n : Nat)
  | mx
  | mn
  | mkfunc (f : Nat)
  | nilchk
  | call (f : Nat)
  | mkI (t : Nat)
  | tyA (t : Nat) (zero : DVal)
  | callM (tbl : List (Nat × Nat))
  | stuck
  | convB
inductive LOp where
  | box
  | alloc (zero : List DVal)
  | st (n : Nat)
  | rng
  | next
inductive SOp where
  | ld (sz : Option Nat)
  | st (n : Nat)
  | box
  | alloc (zero : List DVal)
  | app (pt : Bool) (sz : Nat)
  | make (zero : List DVal)
  | callF (f : Nat)
  | callI (f : Nat)
  | callV
  | callS (f : Nat)
  | appM (sz : Nat)
  | appX (sz : Nat)
  | mkmap
  | look (ag : Bool) (ks : List CK) (zero : DVal) (ok : Bool)
  | mupd (ag : Bool) (ks : List CK)
  | mdel (ag : Bool) (ks : List CK)
  | lenM
  | rngM
  | entM
  | nextM
inductive IOp where
  | p (o : POp)
  | lr (r : Nat) (sz : Option Nat)
  | lw (r : Nat) (o : LOp)
  | s (w : Bool) (o : SOp)
def IOp.det : IOp → Bool
  | .s _ .nextM => false
  | _ => true
structure IOper where
  dst : Option Nat
  op : IOp
  xs : List Opd
  guard : Option (Nat × Bool)
inductive ICode where
  | skip
  | ret
  | exit (id : Nat)
  | reg (ops : List IOper)
  | seq (a b : ICode)
  | cond (c : Opd) (a b : ICode)
  | block (id : Nat) (a : ICode)
  | loop (a : ICode)
inductive IRes where
  | t (n : Nat)
  | cell (r : Nat) (sz : Option Nat)
structure IFunc where
  npar : Nat
  res : List IRes
  body : ICode
def intBits (op : BinOp) (k : IntKind) (x y : Int) : Int :=
  match op with
  | .and => k.wrap (BitVec.ofInt k.bits x &&& BitVec.ofInt k.bits y).toNat
  | .or => k.wrap (BitVec.ofInt k.bits x ||| BitVec.ofInt k.bits y).toNat
  | .xor => k.wrap (BitVec.ofInt k.bits x ^^^ BitVec.ofInt k.bits y).toNat
  | _ => k.wrap (BitVec.ofInt k.bits x &&& ~~~ BitVec.ofInt k.bits y).toNat
def binInt (op : BinOp) (k : IntKind) (a b : Int) : Option DVal :=
  match op with
  | .add => some (.int k (k.wrap (a + b)))
  | .sub => some (.int k (k.wrap (a - b)))
  | .mul => some (.int k (k.wrap (a * b)))
  | .quo => if b = 0 then none else some (.int k (k.wrap (a.tdiv b)))
  | .rem => if b = 0 then none else some (.int k (a.tmod b))
  | .and => some (.int k (intBits .and k a b))
  | .or => some (.int k (intBits .or k a b))
  | .xor => some (.int k (intBits .xor k a b))
  | .andNot => some (.int k (intBits .andNot k a b))
  | .eql => some (.bool (a == b))
  | .neq => some (.bool (a != b))
  | .lss => some (.bool (a < b))
  | .leq => some (.bool (a ≤ b))
  | .gtr => some (.bool (a > b))
  | .geq => some (.bool (a ≥ b))
  | _ => none
def binStr (op : BinOp) (x y : List UInt8) : Option DVal :=
  match op with
  | .add => if x.length + y.length ≤ 4611686018427387904 then some (.str (x ++ y)) else none
  | .eql => some (.bool (x == y))
  | .neq => some (.bool !(x == y))
  | .lss => some (.bool (Op.bytesLess x y))
  | .leq => some (.bool (Op.bytesLess x y || x == y))
  | .gtr => some (.bool !(Op.bytesLess x y || x == y))
  | .geq => some (.bool !(Op.bytesLess x y))
  | _ => none
def binSem (op : BinOp) : DVal → DVal → Option DVal
  | .int k a, .int k' b =>
    match op with
    | .shl => if b < 0 then none else some (.int k (k.wrap (a * 2 ^ min b.toNat k.bits)))
    | .shr => if b < 0 then none else some (.int k (a.fdiv (2 ^ min b.toNat k.bits)))
    | op => if k = k' then binInt op k a b else none
  | .str x, .str y => binStr op x y
  | _, _ => none
def cellEq : CK → DVal → DVal → Option Bool
  | .i q, .int k a, .int k' b => if k = q ∧ k' = q then some (a == b) else none
  | .s, .str a, .str b => some (a == b)
  | .b, .bool a, .bool b => some (a == b)
  | _, _, _ => none
def cellsEq : List CK → List DVal → List DVal → Option Bool
  | [], [], [] => some true
  | k :: ks, x :: xs, y :: ys => match cellEq k x y, cellsEq ks xs ys with
    | some b, some c => some (b && c)
    | _, _ => none
  | _, _, _ => none
def DVal.isNil (k : Nat) : DVal → Option Bool
  | .nilp => if k = 1 then some true else none
  | .nils => if k = 0 then some true else none
  | .nilm => if k = 2 then some true else none
  | .nilf => if k = 3 then some true else none
  | .loc .. | .obj .. | .elem .. => if k = 1 then some false else none
  | .slice .. => if k = 0 then some false else none
  | .map _ => if k = 2 then some false else none
  | .func .. => if k = 3 then some false else none
  | .nilI => if k = 4 then some true else none
  | .iface .. => if k = 4 then some false else none
  | .mslice .. => if k = 0 then some false else none
  | .empt => if k = 0 then some false else none
  | .err => if k = 4 then some false else none
  | _ => none
def DVal.shift (n : Nat) : DVal → Option DVal
  | .loc r ep off => some (.loc r ep (off + n))
  | .obj id off => some (.obj id (off + n))
  | .elem cs off => some (.elem cs (off + n))
  | _ => none
def readCells (cs : List DVal) (off : Nat) : Option Nat → Option DVal
  | none => cs[off]?
  | some n => if off + n ≤ cs.length then some (.agg ((cs.drop off).take n)) else none
def writeCells (cs : List DVal) (off : Nat) (new : List DVal) : Option (List DVal) :=
  if off + new.length ≤ cs.length then some (cs.take off ++ (new ++ cs.drop (off + new.length))) else none
def fillCells (cs : List DVal) : List (Nat × Nat) → List DVal → Option (List DVal)
  | [], [] => some cs
  | (off, n) :: ps, v :: vs => if v.cells.length = n then (writeCells cs off v.cells).bind (fillCells · ps vs) else none
  | _, _ => none
def sealElems (pt : Bool) (sz : Nat) : List DVal → Option (List (List DVal))
  | [] => some []
  | v :: vs => if v.cells.length = sz then
      match (if pt then (if v.cells.all DVal.okCell then some v.cells else none) else sealCells v.cells), sealElems pt sz vs with
      | some e, some es => some (e :: es)
      | _, _ => none
    else none
def bounds (lo hi mx : Bool) (len : Nat) (xs : List DVal) : Option (Nat × Nat) :=
  let low (v : DVal) (h : Nat) : Option (Nat × Nat) := match v with
    | .int _ i => if 0 ≤ i ∧ i ≤ h then some (i.toNat, h) else none
    | _ => none
  match lo, hi, mx, xs with
  | false, false, false, [] => some (0, len)
  | true, false, false, [l] => low l len
  | false, true, false, [.int _ j] => if 0 ≤ j ∧ j ≤ len then some (0, j.toNat) else none
  | true, true, false, [l, .int _ j] => if 0 ≤ j ∧ j ≤ len then low l j.toNat else none
  | false, true, true, [.int _ j, .int _ m] => if 0 ≤ j ∧ j ≤ len ∧ m = j then some (0, j.toNat) else none
  | true, true, true, [l, .int _ j, .int _ m] => if 0 ≤ j ∧ j ≤ len ∧ m = j then low l j.toNat else none
  | _, _, _, _ => none
def goI (n : Nat) : DVal := .int .i64 n
def mvSem : List DVal → Option DVal
  | [x] => some x
  | _ => none
def pickSem : List DVal → Option DVal
  | [.bool c, a, b] => some (if c then a else b)
  | _ => none
def bin2Sem (op : BinOp) : List DVal → Option DVal
  | [x, y] => binSem op x y
  | _ => none
def eqbSem (neg : Bool) : List DVal → Option DVal
  | [.bool x, .bool y] => some (.bool (if neg then !(x == y) else x == y))
  | _ => none
def eqaSem (neg : Bool) (ks : List CK) : List DVal → Option DVal
  | [.agg x, .agg y] => (cellsEq ks x y).map fun b => .bool (if neg then !b else b)
  | _ => none
def isnilSem (k : Nat) (neg : Bool) : List DVal → Option DVal
  | [x] => (x.isNil k).map fun b => .bool (if neg then !b else b)
  | _ => none
def unSem (op : UnOp) : List DVal → Option DVal
  | [.bool b] => match op with
    | .not => some (.bool !b)
    | _ => none
  | [.int k n] => match op with
    | .neg => some (.int k (k.wrap (0 - n)))
    | .xor => some (.int k (intBits .xor k (if k.signed then -1 else k.max) n))
    | _ => none
  | _ => none
def convSem (k : IntKind) : List DVal → Option DVal
  | [.int _ n] => some (.int k (k.wrap n))
  | _ => none
def bytesOf : List (List DVal) → Option (List UInt8)
  | [] => some []
  | [.int .u8 n] :: es => if 0 ≤ n ∧ n < 256 then (bytesOf es).map (n.toNat.toUInt8 :: ·) else none
  | _ => none
def convBSem : List DVal → Option DVal
  | [.slice _ _ 1 es] => (bytesOf es).map .str
  | _ => none
def convSSem : List DVal → Option DVal
  | [.str s] => some (.str s)
  | _ => none
def offSem (n : Nat) : List DVal → Option DVal
  | [x] => x.shift n
  | _ => none
def idxSSem (sz : Nat) : List DVal → Option DVal
  | [.slice _ _ sz' es, .int _ i] => if sz' = sz ∧ 0 ≤ i then (es[i.toNat]?).map fun e => .elem e 0 else none
  | [.mslice sz' id off len _, .int _ i] => if sz' = sz ∧ 0 ≤ i ∧ i < len then some (.obj id (off + i.toNat * sz)) else none
  | _ => none
def idxASem (len sz : Nat) : List DVal → Option DVal
  | [x, .int _ i] => if 0 ≤ i ∧ i < len then x.shift (i.toNat * sz) else none
  | _ => none
def idxStrSem : List DVal → Option DVal
  | [.str s, .int _ i] => if 0 ≤ i then (s[i.toNat]?).map fun b => .int .u8 b.toNat else none
  | _ => none
def fldSem (o : Nat) (sz : Option Nat) : List DVal → Option DVal
  | [.agg cs] => readCells cs o sz
  | _ => none
def ldESem (sz : Option Nat) : List DVal → Option DVal
  | [.elem cs o] => readCells cs o sz
  | _ => none
def extSem (i : Nat) : List DVal → Option DVal
  | [.tup vs] => vs[i]?
  | _ => none
def slcSSem (lo hi : Bool) : List DVal → Option DVal
  | .str s :: xs => (bounds lo hi false s.length xs).map fun b => .str ((s.drop b.1).take (b.2 - b.1))
  | _ => none
def slcVSem (sz : Nat) (lo hi m : Bool) : List DVal → Option DVal
  | .slice pt own sz' es :: xs =>
    if sz' = sz then (bounds lo hi m es.length xs).map fun b => .slice pt (if m then 1 else if lo then 0 else if own = 1 then 0 else own) sz ((es.drop b.1).take (b.2 - b.1)) else none
  | .nils :: xs => (bounds lo hi m 0 xs).map fun _ => .nils
  | .empt :: xs => (bounds lo hi m 0 xs).map fun _ => .empt
  | .mslice sz' id off len cap :: xs => if sz' = sz then (bounds lo hi m len xs).bind fun b => if b.1 < b.2 then some (.mslice sz id (off + b.1 * sz) (b.2 - b.1) (if m then some (b.2 - b.1) else cap.map (· - b.1))) else none else none
  | _ => none
def lenStrSem : List DVal → Option DVal
  | [.str s] => some (goI s.length)
  | _ => none
def lenSlSem : List DVal → Option DVal
  | [.slice _ _ _ es] => some (goI es.length)
  | [.nils] => some (goI 0)
  | [.mslice _ _ _ len _] => some (goI len)
  | [.empt] => some (goI 0)
  | _ => none
def mxSem : List DVal → Option DVal
  | [.int k x, .int k' y] => if k = k' then some (.int k (if y > x then y else x)) else none
  | _ => none
def mnSem : List DVal → Option DVal
  | [.int k x, .int k' y] => if k = k' then some (.int k (if y < x then y else x)) else none
  | _ => none
def nilchkSem : List DVal → Option DVal
  | [x] => match x with
    | .loc .. | .obj .. | .elem .. | .func .. => some x
    | _ => none
  | _ => none
def mkISem (t : Nat) : List DVal → Option DVal
  | [x] => some (.iface t x)
  | _ => none
def tyASem (t : Nat) (zero : DVal) : List DVal → Option DVal
  | [.iface u d] => some (.tup (if u = t then [d, .bool true] else [zero, .bool false]))
  | [.nilI] => some (.tup [zero, .bool false])
  | _ => none
def callMSem (call : Nat → List DVal → Option DVal) (tbl : List (Nat × Nat)) : List DVal → Option DVal
  | .iface t d :: xs => match tbl.lookup t with
    | some f => (sealVals (d :: xs)).bind fun ys => (call f ys).map DVal.stale
    | none => none
  | _ => none
def POp.sem (call : Nat → List DVal → Option DVal) (xs : List DVal) : POp → Option DVal
  | .mv => mvSem xs
  | .pick => pickSem xs
  | .bin op => bin2Sem op xs
  | .eqb neg => eqbSem neg xs
  | .eqa neg ks => eqaSem neg ks xs
  | .isnil k neg => isnilSem k neg xs
  | .un op => unSem op xs
  | .conv k => convSem k xs
  | .convS => convSSem xs
  | .off n => offSem n xs
  | .idxS sz => idxSSem sz xs
  | .idxA len sz => idxASem len sz xs
  | .idxStr => idxStrSem xs
  | .fld o sz => fldSem o sz xs
  | .ldE sz => ldESem sz xs
  | .ext i => extSem i xs
  | .build zero parts => (fillCells zero parts xs).map .agg
  | .bslice pt sz => (sealElems pt sz xs).map fun es => .slice pt 1 sz es
  | .slcS lo hi => slcSSem lo hi xs
  | .slcV sz lo hi m => slcVSem sz lo hi m xs
  | .lenStr => lenStrSem xs
  | .lenSl => lenSlSem xs
  | .lenArr n => some (goI n)
  | .mx => mxSem xs
  | .mn => mnSem xs
  | .mkfunc f => if xs.all DVal.okCell then some (.func f xs) else none
  | .nilchk => nilchkSem xs
  | .call f => (sealVals xs).bind fun ys => (call f ys).map DVal.stale
  | .mkI t => mkISem t xs
  | .tyA t z => tyASem t z xs
  | .callM tbl => callMSem call tbl xs
  | .stuck => none
  | .convB => convBSem xs
structure Sto where
  nobj : Nat
  obj : Nat → DVal
  ntok : Nat
  fr : Nat → Nat
  ora : Nat → Nat := fun _ => 0
def upd {α : Type} (f : Nat → α) (a : Nat) (v : α) : Nat → α := fun b => if b = a then v else f b
def readLoc (r : Nat) (sz : Option Nat) (m : Nat × DVal) : List DVal → Option DVal
  | [.loc r' ep off] => if r' = r ∧ ep = m.1 then
      match m.2 with
      | .agg cs => readCells cs off sz
      | _ => none
    else none
  | _ => none
def boxLSem (r : Nat) (m : Nat × DVal) : List DVal → Option (DVal × (Nat × DVal))
  | [x] => if x.cells.all DVal.okCell then some (.loc r (m.1 + 1) 0, (m.1 + 1, .agg x.cells)) else none
  | _ => none
def allocLSem (r : Nat) (m : Nat × DVal) (zero : List DVal) : List DVal → Option (DVal × (Nat × DVal))
  | [] => some (.loc r (m.1 + 1) 0, (m.1 + 1, .agg zero))
  | _ => none
def stLSem (r : Nat) (m : Nat × DVal) (n : Nat) : List DVal → Option (DVal × (Nat × DVal))
  | [.loc r' ep off, v] => if r' = r ∧ ep = m.1 ∧ v.cells.length = n ∧ v.cells.all DVal.okCell then
      match m.2 with
      | .agg cs => (writeCells cs off v.cells).map fun cs' => (.undef, (m.1, .agg cs'))
      | _ => none
    else none
  | _ => none
def rngSem (r : Nat) (m : Nat × DVal) : List DVal → Option (DVal × (Nat × DVal))
  | [.str s] => some (.loc r (m.1 + 1) 0, (m.1 + 1, .tup [.str s, goI 0]))
  | _ => none
def nextSem (r : Nat) (m : Nat × DVal) : List DVal → Option (DVal × (Nat × DVal))
  | [.loc r' ep off] => if r' = r ∧ ep = m.1 ∧ off = 0 then
      match m.2 with
      | .tup [.str s, .int .i64 pos] =>
        if pos < s.length then
          some (.tup [.bool true, .int .i64 pos, .int .i32 (Utf8.decode ⟨s.toArray⟩ pos.toNat).1], (m.1, .tup [.str s, goI (pos.toNat + (Utf8.decode ⟨s.toArray⟩ pos.toNat).2)]))
        else some (.tup [.bool false], m)
      | _ => none
    else none
  | _ => none
def LOp.sem (r : Nat) (m : Nat × DVal) (xs : List DVal) : LOp → Option (DVal × (Nat × DVal))
  | .box => boxLSem r m xs
  | .alloc zero => allocLSem r m zero xs
  | .st n => stLSem r m n xs
  | .rng => rngSem r m xs
  | .next => nextSem r m xs
def snapRows (sz : Nat) : Nat → List DVal → Option (List (List DVal))
  | 0, _ => some []
  | n + 1, cs => if sz ≤ cs.length then
      match sealCells (cs.take sz), snapRows sz n (cs.drop sz) with
      | some e, some es => some (e :: es)
      | _, _ => none
    else none
def snapM (σ : Sto) (sz id off len : Nat) : Option (List (List DVal)) :=
  if id < σ.nobj then
    match σ.obj id with
    | .agg cs => snapRows sz len (cs.drop off)
    | _ => none
  else none
def DVal.snapCell (σ : Sto) : DVal → Option DVal
  | .mslice sz id off len _ => (snapM σ sz id off len).map (.slice false 0 sz)
  | v => v.sealCell
def snapCells (σ : Sto) : List DVal → Option (List DVal)
  | [] => some []
  | c :: cs => match c.snapCell σ, snapCells σ cs with
    | some d, some ds => some (d :: ds)
    | _, _ => none
def DVal.snapVal (σ : Sto) : DVal → Option DVal
  | .agg cs => (snapCells σ cs).map .agg
  | v => v.snapCell σ
def snapVals (σ : Sto) : List DVal → Option (List DVal)
  | [] => some []
  | c :: cs => match c.snapVal σ, snapVals σ cs with
    | some d, some ds => some (d :: ds)
    | _, _ => none
def DVal.plainRes : DVal → Bool
  | .tup vs => vs.all DVal.plain
  | .nils => true
  | .slice false own _ [] => Nat.ble own 1
  | v => v.plain
def elemsOf : DVal → Option (Bool × List (List DVal))
  | .nils => some (false, [])
  | .slice pt _ _ es => some (pt, es)
  | .empt => some (false, [])
  | _ => none
def elemsM (σ : Sto) : DVal → Option (Bool × List (List DVal))
  | .mslice sz id off len _ => (snapM σ sz id off len).map (false, ·)
  | v => elemsOf v
def DVal.szOk (sz : Nat) : DVal → Bool
  | .slice _ _ sz' _ => sz' == sz
  | .mslice sz' _ _ _ _ => sz' == sz
  | _ => true
def maxAppend : Nat := 4294967296
def appSem (pt : Bool) (sz : Nat) (σ : Sto) (s x : DVal) : Option (DVal × Sto) :=
  match elemsM σ x with
  | some (px, new) =>
    if (px && !pt) || !x.szOk sz then none else
    match s with
    | .nils => if new.isEmpty then some (.nils, σ) else
        if new.length ≤ maxAppend then some (.slice pt (σ.ntok + 3) sz new, { σ with ntok := σ.ntok + 1, fr := upd σ.fr σ.ntok (new.length * sz) }) else none
    | .slice ps own sz' es =>
      if ps = pt ∧ sz' = sz ∧ es.length + new.length ≤ maxAppend then
        if new.isEmpty then some (.slice ps own sz' es, σ) else
        if own = 1 then some (.slice pt (σ.ntok + 3) sz (es ++ new), { σ with ntok := σ.ntok + 1, fr := upd σ.fr σ.ntok ((es.length + new.length) * sz) })
        else if 3 ≤ own ∧ σ.fr (own - 3) = es.length * sz then
          some (.slice pt own sz (es ++ new), { σ with fr := upd σ.fr (own - 3) ((es.length + new.length) * sz) })
        else none
      else none
    | _ => none
  | none => none
def tightOf (σ : Sto) (sz : Nat) : DVal → Option (List (List DVal))
  | .nils => some []
  | .empt => some []
  | .slice false own sz' es => if own = 1 ∧ sz' = sz then some es else none
  | .mslice sz' id off len cap => if sz' = sz ∧ cap = some len then snapM σ sz id off len else none
  | _ => none
def appMSem (sz : Nat) (σ : Sto) : List DVal → Option (DVal × Sto)
  | [s, x] => match elemsM σ x with
    | some (false, new) =>
      if !x.szOk sz then none else
      match tightOf σ sz s with
      | some es =>
        if new.isEmpty then some (s, σ) else
        if es.length + new.length ≤ maxAppend then
          some (.mslice sz σ.nobj 0 (es.length + new.length) none, { σ with nobj := σ.nobj + 1, obj := upd σ.obj σ.nobj (.agg (es ++ new).flatten) })
        else none
      | none => none
    | _ => none
  | _ => none
def appXSem (sz : Nat) (σ : Sto) : List DVal → Option (DVal × Sto)
  | [.mslice sz' id off len cap, x] =>
    match elemsOf x, σ.obj id with
    | some (false, new), .agg cs =>
      if sz' = sz ∧ off = 0 ∧ id < σ.nobj ∧ x.szOk sz = true ∧ new.isEmpty = false ∧ cs.length = len * sz ∧ len + new.length ≤ maxAppend then
        some (.mslice sz σ.nobj 0 (len + new.length) none, { σ with nobj := σ.nobj + 1, obj := upd (upd σ.obj id .undef) σ.nobj (.agg (cs ++ new.flatten)) })
      else none
    | _, _ => none
  | xs => appMSem sz σ xs
def importVal (σ : Sto) : DVal → DVal × Sto
  | .slice pt 2 sz es => (.slice pt (σ.ntok + 3) sz es, { σ with ntok := σ.ntok + 1, fr := upd σ.fr σ.ntok (es.length * sz) })
  | v => (v, σ)
def ldOSem (σ : Sto) (sz : Option Nat) : List DVal → Option (DVal × Sto)
  | [.obj id off] => if id < σ.nobj then
      match σ.obj id with
      | .agg cs => (readCells cs off sz).map fun v => (v, σ)
      | _ => none
    else none
  | [.elem cs off] => (readCells cs off sz).map fun v => (v, σ)
  | _ => none
def stOSem (σ : Sto) (n : Nat) : List DVal → Option (DVal × Sto)
  | [.obj id off, v] => if id < σ.nobj ∧ v.cells.length = n ∧ v.cells.all DVal.okCell then
      match σ.obj id with
      | .agg cs => (writeCells cs off v.cells).map fun cs' => (.undef, { σ with obj := upd σ.obj id (.agg cs') })
      | _ => none
    else none
  | _ => none
def boxOSem (σ : Sto) : List DVal → Option (DVal × Sto)
  | [x] => if x.cells.all DVal.okCell then some (.obj σ.nobj 0, { σ with nobj := σ.nobj + 1, obj := upd σ.obj σ.nobj (.agg x.cells) }) else none
  | _ => none
def allocOSem (σ : Sto) (zero : List DVal) : List DVal → Option (DVal × Sto)
  | [] => some (.obj σ.nobj 0, { σ with nobj := σ.nobj + 1, obj := upd σ.obj σ.nobj (.agg zero) })
  | _ => none
def makeSem (σ : Sto) (zero : List DVal) : List DVal → Option (DVal × Sto)
  | [.int .i64 n, .int .i64 m] => if n = m ∧ 0 ≤ n ∧ n ≤ 1048576 then
      some (.mslice zero.length σ.nobj 0 n.toNat (some n.toNat), { σ with nobj := σ.nobj + 1, obj := upd σ.obj σ.nobj (.agg (List.replicate n.toNat zero).flatten) }) else none
  | _ => none
def app2Sem (pt : Bool) (sz : Nat) (σ : Sto) : List DVal → Option (DVal × Sto)
  | [s, x] => appSem pt sz σ s x
  | _ => none
def callVSem (calli : Nat → List DVal → Sto → Option (DVal × Sto)) (σ : Sto) : List DVal → Option (DVal × Sto)
  | .func f caps :: xs => if xs.all DVal.okVal then calli f (xs ++ caps) σ else none
  | _ => none
def snapRes (σ : Sto) : DVal → Option (DVal × Sto)
  | .slice false 2 sz es => if es.all (fun e => e.all DVal.plainCell) then some (importVal σ (.slice false 2 sz es)) else none
  | r => if r.plainRes then some (r, σ) else none
def callSSem (call : Nat → List DVal → Option DVal) (f : Nat) (σ : Sto) (xs : List DVal) : Option (DVal × Sto) :=
  (snapVals σ xs).bind fun ys => (call f ys).bind (snapRes σ)
def mkmapSem (σ : Sto) : List DVal → Option (DVal × Sto)
  | [] => some (.map σ.nobj, { σ with nobj := σ.nobj + 1, obj := upd σ.obj σ.nobj (.tup []) })
  | _ => none
def DVal.isAgg : DVal → Bool
  | .agg _ => true
  | _ => false
def keyOk (ag : Bool) (ks : List CK) (k : DVal) : Bool := k.isAgg == ag && (k.plain && (cellsEq ks k.cells k.cells).isSome)
def findE (ag : Bool) (ks : List CK) (k : DVal) : List DVal → Nat → Option (Option (Nat × DVal))
  | [], _ => some none
  | .tup [q, v] :: es, i => if q.isAgg == ag then
      match cellsEq ks k.cells q.cells with
      | some true => some (some (i, v))
      | some false => findE ag ks k es (i + 1)
      | none => none
    else none
  | _, _ => none
def entOk (ag : Bool) (ks : List CK) : DVal → Bool
  | .tup [q, _] => keyOk ag ks q
  | _ => false
def findK (ag : Bool) (ks : List CK) (k : DVal) (es : List DVal) : Option (Option (Nat × DVal)) := if es.all (entOk ag ks) then findE ag ks k es 0 else none
def lookRes (zero : DVal) (ok : Bool) : Option (Nat × DVal) → DVal
  | some (_, v) => if ok then .tup [v, .bool true] else v
  | none => if ok then .tup [zero, .bool false] else zero
def lookSem (ag : Bool) (ks : List CK) (zero : DVal) (ok : Bool) (σ : Sto) : List DVal → Option (DVal × Sto)
  | [.nilm, k] => if keyOk ag ks k then some (lookRes zero ok none, σ) else none
  | [.map id, k] => if id < σ.nobj ∧ keyOk ag ks k = true then
      match σ.obj id with
      | .tup es => (findK ag ks k es).map fun r => (lookRes zero ok r, σ)
      | _ => none
    else none
  | _ => none
def mupdSem (ag : Bool) (ks : List CK) (σ : Sto) : List DVal → Option (DVal × Sto)
  | [.map id, k, v] => if id < σ.nobj ∧ keyOk ag ks k = true ∧ v.okVal = true then
      match σ.obj id with
      | .tup es => match findK ag ks k es with
        | some (some (i, _)) => some (.undef, { σ with obj := upd σ.obj id (.tup (es.set i (.tup [k, v]))) })
        | some none => some (.undef, { σ with obj := upd σ.obj id (.tup (es ++ [.tup [k, v]])) })
        | none => none
      | _ => none
    else none
  | _ => none
def mdelSem (ag : Bool) (ks : List CK) (σ : Sto) : List DVal → Option (DVal × Sto)
  | [.map id, k] => if id < σ.nobj ∧ keyOk ag ks k = true then
      match σ.obj id with
      | .tup es => match findK ag ks k es with
        | some (some (i, _)) => some (.tup [], { σ with obj := upd σ.obj id (.tup (es.eraseIdx i)) })
        | some none => some (.tup [], σ)
        | none => none
      | _ => none
    else none
  | _ => none
def lenMSem (σ : Sto) : List DVal → Option (DVal × Sto)
  | [.nilm] => some (goI 0, σ)
  | [.map id] => if id < σ.nobj then
      match σ.obj id with
      | .tup (.str _ :: _) => none
      | .tup es => some (goI es.length, σ)
      | _ => none
    else none
  | _ => none
def rngMSem (σ : Sto) : List DVal → Option (DVal × Sto)
  | [.nilm] => some (.obj σ.nobj 0, { σ with nobj := σ.nobj + 1, obj := upd σ.obj σ.nobj .nilm })
  | [.map id] => if id < σ.nobj then
      match σ.obj id with
      | .tup (.str _ :: _) => none
      | .tup es => some (.obj σ.nobj 0, { σ with nobj := σ.nobj + 1, obj := upd (upd σ.obj id (.iface σ.nobj .undef)) σ.nobj (.func id [.undef, .tup es, .tup es]) })
      | _ => none
    else none
  | _ => none
def entMSem (σ : Sto) : List DVal → Option (DVal × Sto)
  | [.obj id 0] => if id < σ.nobj then
      match σ.obj id with
      | .func _ [.tup [k, v], _, _] => some (.tup [k, v], σ)
      | _ => none
    else none
  | _ => none
def nextMSem (σ : Sto) : List DVal → Option (DVal × Sto)
  | [.obj id 0] => if id < σ.nobj then
      match σ.obj id with
      | .nilm => some (.tup [.bool false], { σ with obj := upd σ.obj id .undef })
      | .func m [_, .tup rest, .tup all] =>
        match rest with
        | [] => some (.tup [.bool false], { σ with obj := upd (upd σ.obj id .undef) m (.tup all) })
        | _ => match rest[σ.ora 0 % rest.length]? with
          | some (.tup [k, v]) => some (.tup [.bool true, k, v], { σ with obj := upd σ.obj id (.func m [.tup [k, v], .tup (rest.eraseIdx (σ.ora 0 % rest.length)), .tup all]), ora := fun i => σ.ora (i + 1) })
          | _ => none
      | _ => none
    else none
  | _ => none
def SOp.sem (call : Nat → List DVal → Option DVal) (calli : Nat → List DVal → Sto → Option (DVal × Sto)) (σ : Sto) (xs : List DVal) : SOp → Option (DVal × Sto)
  | .ld sz => ldOSem σ sz xs
  | .st n => stOSem σ n xs
  | .box => boxOSem σ xs
  | .alloc zero => allocOSem σ zero xs
  | .app pt sz => app2Sem pt sz σ xs
  | .make zero => makeSem σ zero xs
  | .callF f => (sealVals xs).bind fun ys => (call f ys).map (importVal σ)
  | .callI f => if xs.all DVal.okVal then calli f xs σ else none
  | .callV => callVSem calli σ xs
  | .callS f => callSSem call f σ xs
  | .appM sz => appMSem sz σ xs
  | .appX sz => appXSem sz σ xs
  | .mkmap => mkmapSem σ xs
  | .look ag ks zero ok => lookSem ag ks zero ok σ xs
  | .mupd ag ks => mupdSem ag ks σ xs
  | .mdel ag ks => mdelSem ag ks σ xs
  | .lenM => lenMSem σ xs
  | .rngM => rngMSem σ xs
  | .entM => entMSem σ xs
  | .nextM => nextMSem σ xs
structure St where
  env : Nat → DVal
  loc : Nat → Nat × DVal
  sto : Sto
def Opd.val (env : Nat → DVal) : Opd → DVal
  | .t n => env n
  | .c v => v
def St.put (st : St) : Option Nat → DVal → St
  | some d, v => { st with env := upd st.env d v }
  | none, _ => st
def DVal.isB (b : Bool) : DVal → Bool
  | .bool c => c == b
  | _ => false
def execOp' (call : Nat → List DVal → Option DVal) (calli : Nat → List DVal → Sto → Option (DVal × Sto)) (dst : Option Nat) (op : IOp) (xs : List Opd) (st : St) : Option St :=
  match op with
  | .p o => (o.sem call (xs.map (Opd.val st.env))).map (st.put dst)
  | .lr r sz => (readLoc r sz (st.loc r) (xs.map (Opd.val st.env))).map (st.put dst)
  | .lw r o => (o.sem r (st.loc r) (xs.map (Opd.val st.env))).map fun x => { st with loc := upd st.loc r x.2 }.put dst x.1
  | .s _ o => (o.sem call calli st.sto (xs.map (Opd.val st.env))).map fun x => { st with sto := x.2 }.put dst x.1
def stepOp (call : Nat → List DVal → Option DVal) (calli : Nat → List DVal → Sto → Option (DVal × Sto)) (o : IOper) (st : St) : Option St :=
  match o.guard with
  | none => execOp' call calli o.dst o.op o.xs st
  | some (g, b) => if (st.env g).isB b then execOp' call calli o.dst o.op o.xs st else some (st.put o.dst .undef)
def runOps (call : Nat → List DVal → Option DVal) (calli : Nat → List DVal → Sto → Option (DVal × Sto)) : List IOper → St → Option St
  | [], st => some st
  | o :: os, st => (stepOp call calli o st).bind (runOps call calli os)
def iter (f : St → Option (Exit × St)) : Nat → St → Option (Exit × St)
  | 0, _ => none
  | n + 1, st => match f st with
    | some (.normal, st') => iter f n st'
    | r => r
def runCode (call : Nat → List DVal → Option DVal) (calli : Nat → List DVal → Sto → Option (DVal × Sto)) (n : Nat) : ICode → St → Option (Exit × St)
  | .skip, st => some (.normal, st)
  | .ret, st => some (.ret, st)
  | .exit id, st => some (.exit id, st)
  | .reg ops, st => (runOps call calli ops st).map fun st' => (.normal, st')
  | .seq a b, st => match runCode call calli n a st with
    | some (.normal, st') => runCode call calli n b st'
    | r => r
  | .cond c a b, st => match c.val st.env with
    | .bool true => runCode call calli n a st
    | .bool false => runCode call calli n b st
    | _ => none
  | .block id a, st => match runCode call calli n a st with
    | some (.exit i, st') => if i = id then some (.normal, st') else some (.exit i, st')
    | r => r
  | .loop a, st => iter (runCode call calli n a) n st
def IRes.val (st : St) : IRes → Option DVal
  | .t n => some (st.env n)
  | .cell r sz => readLoc r sz (st.loc r) [st.env r]
def resVals (st : St) : List IRes → Option (List DVal)
  | [] => some []
  | r :: rs => match r.val st, resVals st rs with
    | some v, some vs => if v.okVal then some (v :: vs) else none
    | _, _ => none
def resVal (st : St) (rs : List IRes) : Option DVal :=
  match resVals st rs with
  | some [v] => some v
  | some vs => some (.tup vs)
  | none => none
def enter (args : List DVal) (σ : Sto) : St :=
  { env := fun i => args.getD i .undef, loc := fun _ => (0, .undef), sto := σ }
def emptySto : Sto := { nobj := 0, obj := fun _ => .undef, ntok := 0, fr := fun _ => 0 }
def DVal.handBack (σ : Sto) : DVal → Option DVal
  | .slice false own sz es => some (.slice false (if own = 1 then 1 else if 3 ≤ own ∧ σ.fr (own - 3) = es.length * sz then 2 else 0) sz es)
  | .tup vs => ((sealVals vs).or (snapVals σ vs)).map .tup
  | v => v.sealVal.or (v.snapVal σ)
def runFun (call : Nat → List DVal → Option DVal) (calli : Nat → List DVal → Sto → Option (DVal × Sto)) (n : Nat) (F : IFunc) (args : List DVal) (σ : Sto) : Option (DVal × Sto) :=
  if args.length = F.npar then
    match runCode call calli n F.body (enter args σ) with
    | some (.ret, st) | some (.normal, st) => (resVal st F.res).map fun v => (v, st.sto)
    | _ => none
  else none
end Go.Proofs.YtklepphkbbjbjaaDoor
namespace Go.Proofs.YtklepphkbbjbjaaDoor
set_option linter.unusedVariables false
open Go
structure Vw where
  B : Nat
  I0 : Nat → Nat → Prop
  tag : Nat → Nat × Nat
  lam : Nat → Nat
  phi : Nat → Nat
  tb : Nat → Nat
  ep : Nat → Nat
  nobj : Nat
  ntok : Nat
  fr : Nat → Nat
def Vw.imm (V : Vw) (b n : Nat) : Prop :=
  (b < V.B ∧ V.I0 b n) ∨ (V.B ≤ b ∧ ((V.tag b).1 = 1 ∨ ((V.tag b).1 = 4 ∧ n < V.fr (V.tag b).2)))
def OwnRel (V : Vw) (w : World) (own sz len b off cap : Nat) : Prop :=
  own ≠ 2 ∧ (own = 1 → cap = len) ∧
  (3 ≤ own → own - 3 < V.ntok ∧ len * sz ≤ V.fr (own - 3) ∧
    (len * sz = V.fr (own - 3) → V.tb (own - 3) = b ∧ off = 0 ∧ ∃ c el, w.heap[b]? = some (.cells c el (0, 0)) ∧ c.size = cap * sz))
def emode (pt : Bool) : Nat := if pt then 1 else 2
mutual
def VRel (V : Vw) (w : World) (m : Nat) : DVal → Value → Prop
  | .undef, v => m = 0 ∧ v = Go.undef
  | .bool b, v => v = .bool b
  | .int k n, v => v = .int k n
  | .str s, v => v = .string ⟨s.toArray⟩
  | .nilp, v => v = .pointer none
  | .nils, v => v = .slice none 0 0
  | .nilm, v => v = .map none
  | .nilf, v => v = .nilFunc
  | .loc r ep off, v => m = 0 ∧ 0 < ep ∧ ep ≤ V.ep r ∧ ∃ a, v = .pointer (some a) ∧ (ep = V.ep r → a = ⟨V.lam r, off, none⟩)
  | .obj id off, v => m ≤ 1 ∧ id < V.nobj ∧ v = .pointer (some ⟨V.phi id, off, none⟩)
  | .elem cs off, v => m = 0 ∧ ∃ b o, v = .pointer (some ⟨b, o + off, none⟩) ∧ RowRel V w 1 b o cs
  | .slice pt own sz es, v => (m ≤ 1 ∨ (pt = false ∧ own ≤ 1)) ∧ ∃ b off cap, v = .slice (some ⟨b, off, none⟩) es.length cap ∧ es.length ≤ cap ∧
      OwnRel V w own sz es.length b off cap ∧ RowsRel V w (emode pt) b sz off es
  | .map id, v => m ≤ 1 ∧ id < V.nobj ∧ v = .map (some (V.phi id))
  | .func f caps, v => m ≤ 1 ∧ ∃ vs, v = .func (.func f) #[] vs ∧ VRels V w 1 caps vs.toList
  | .nilI, v => v = .nilIface
  | .iface t d, v => ∃ u, v = .iface t u ∧ VRel V w m d u
  | .mslice sz id off len cap, v => m ≤ 1 ∧ id < V.nobj ∧ ∃ c, v = .slice (some ⟨V.phi id, off, none⟩) len c ∧ len ≤ c ∧ (∀ k, cap = some k → c = k) ∧ ∃ cells el, w.heap[V.phi id]? = some (.cells cells el (0, 0)) ∧ off + c * sz ≤ cells.size
  | .empt, v => ∃ a : Addr, v = .slice (some a) 0 0
  | .err, v => ∃ t u, v = .iface t u
  | .agg cs, v => ∃ vs, v = .agg vs ∧ VRels V w m cs vs.toList
  | .tup cs, v => ∃ vs, v = .tuple vs ∧ VRels V w m cs vs.toList
def VRels (V : Vw) (w : World) (m : Nat) : List DVal → List Value → Prop
  | [], vs => vs = []
  | d :: ds, vs => ∃ v us, vs = v :: us ∧ VRel V w m d v ∧ VRels V w m ds us
def RowRel (V : Vw) (w : World) (m : Nat) (b : Nat) (off : Nat) : List DVal → Prop
  | [] => True
  | c :: cs => V.imm b off ∧ (∃ v, w.cell? ⟨b, off, none⟩ = some v ∧ v.oneCell' = true ∧ VRel V w m c v) ∧ RowRel V w m b (off + 1) cs
def RowsRel (V : Vw) (w : World) (m : Nat) (b sz : Nat) (off : Nat) : List (List DVal) → Prop
  | [] => True
  | e :: es => e.length = sz ∧ RowRel V w m b off e ∧ RowsRel V w m b sz (off + sz) es
end
def ExtI (V : Vw) (w : World) (V' : Vw) (w' : World) : Prop :=
  ∀ b n, V.imm b n → V'.imm b n ∧ w'.cell? ⟨b, n, none⟩ = w.cell? ⟨b, n, none⟩
structure ExtS (V : Vw) (w : World) (V' : Vw) (w' : World) : Prop where
  nobj : V.nobj ≤ V'.nobj
  phi : ∀ id, id < V.nobj → V'.phi id = V.phi id
  ntok : V.ntok ≤ V'.ntok
  fr : ∀ g, g < V.ntok → V.fr g ≤ V'.fr g
  tb : ∀ g, g < V.ntok → V'.fr g = V.fr g → V'.tb g = V.tb g ∧ ∀ c el, w.heap[V.tb g]? = some (.cells c el (0, 0)) → ∃ c', w'.heap[V.tb g]? = some (.cells c' el (0, 0)) ∧ c'.size = c.size
  cell : ∀ (b : Nat) (c : Array Value) (el : TypeId), w.heap[b]? = some (.cells c el (0, 0)) → ∃ c', w'.heap[b]? = some (.cells c' el (0, 0)) ∧ c'.size = c.size
structure ExtL (V : Vw) (V' : Vw) : Prop where
  ep : ∀ r, V.ep r ≤ V'.ep r
  lam : ∀ r, 0 < V.ep r → V'.ep r = V.ep r → V'.lam r = V.lam r
theorem OwnRel.ext {V V' : Vw} {w w' : World} {own sz len b off cap : Nat} (h : ExtS V w V' w') (ho : OwnRel V w own sz len b off cap) :
    OwnRel V' w' own sz len b off cap := by
  obtain ⟨h0, h1, h3⟩ := ho
  refine ⟨h0, h1, fun hg => ?_⟩
  obtain ⟨a1, a2, a3⟩ := h3 hg
  have f := h.fr _ a1
  refine ⟨by have := h.ntok; omega, by omega, fun e => ?_⟩
  have e' : V.fr (own - 3) = V'.fr (own - 3) := by omega
  obtain ⟨b1, b2, c, el, b3, b4⟩ := a3 (by omega)
  obtain ⟨t1, t2⟩ := h.tb _ a1 e'.symm
  obtain ⟨c', u1, u2⟩ := t2 c el (by rw [b1]; exact b3)
  exact ⟨by rw [t1, b1], b2, c', el, by rw [← b1]; exact u1, by rw [u2, b4]⟩
theorem OwnRel.closed {V V' : Vw} {w w' : World} {own sz len b off cap : Nat} (hc : own ≤ 1) (ho : OwnRel V w own sz len b off cap) :
    OwnRel V' w' own sz len b off cap := ⟨ho.1, ho.2.1, fun h => by omega⟩
mutual
theorem VRel.ext {V V' : Vw} {w w' : World} (hI : ExtI V w V' w') : ∀ (d : DVal) (m : Nat) (v : Value), (m ≤ 1 → ExtS V w V' w') → (m = 0 → ExtL V V') → VRel V w m d v → VRel V' w' m d v
  | .undef, _, _, _, _, h => by simpa only [VRel] using h
  | .bool _, _, _, _, _, h => by simpa only [VRel] using h
  | .int _ _, _, _, _, _, h => by simpa only [VRel] using h
  | .str _, _, _, _, _, h => by simpa only [VRel] using h
  | .nilp, _, _, _, _, h => by simpa only [VRel] using h
  | .nils, _, _, _, _, h => by simpa only [VRel] using h
  | .nilm, _, _, _, _, h => by simpa only [VRel] using h
  | .nilf, _, _, _, _, h => by simpa only [VRel] using h
  | .loc r ep off, _, _, _, hL, h => by
    simp only [VRel] at h ⊢
    obtain ⟨hc, h0, h1, a, rfl, h2⟩ := h
    have hr := hL hc
    refine ⟨hc, h0, Nat.le_trans h1 (hr.ep r), a, rfl, fun e => ?_⟩
    have e1 : ep = V.ep r := by have := hr.ep r; omega
    rw [h2 e1, hr.lam r (by omega) (by omega)]
  | .obj id off, _, _, hR, _, h => by
    simp only [VRel] at h ⊢
    obtain ⟨hc, h1, rfl⟩ := h
    have hr := hR hc
    exact ⟨hc, Nat.lt_of_lt_of_le h1 hr.nobj, by rw [hr.phi _ h1]⟩
  | .map id, _, _, hR, _, h => by
    simp only [VRel] at h ⊢
    obtain ⟨hc, h1, rfl⟩ := h
    have hr := hR hc
    exact ⟨hc, Nat.lt_of_lt_of_le h1 hr.nobj, by rw [hr.phi _ h1]⟩
  | .elem cs off, _, _, hR, _, h => by
    simp only [VRel] at h ⊢
    obtain ⟨hc, b, o, rfl, h1⟩ := h
    exact ⟨hc, b, o, rfl, RowRel.ext hI cs 1 b o (fun _ => hR (by omega)) (fun e => by omega) h1⟩
  | .slice pt own sz es, m, _, hR, _, h => by
    simp only [VRel] at h ⊢
    obtain ⟨hc, b, off, cap, rfl, h1, h2, h3⟩ := h
    refine ⟨hc, b, off, cap, rfl, h1, ?_, RowsRel.ext hI es (emode pt) b sz off (fun e => ?_) (fun e => ?_) h3⟩
    · rcases hc with hc | hc
      · exact h2.ext (hR hc)
      · exact h2.closed hc.2
    · rcases hc with hc | hc
      · exact hR hc
      · rw [hc.1] at e; simp [emode] at e
    · cases pt <;> simp [emode] at e
  | .func f caps, _, _, hR, _, h => by
    simp only [VRel] at h ⊢
    obtain ⟨hc, vs, rfl, h1⟩ := h
    exact ⟨hc, vs, rfl, VRels.ext hI caps 1 vs.toList (fun _ => hR hc) (fun e => by omega) h1⟩
  | .nilI, _, _, _, _, h => by simpa only [VRel] using h
  | .iface t d, m, _, hR, hL, h => by
    simp only [VRel] at h ⊢
    obtain ⟨u, rfl, h1⟩ := h
    exact ⟨u, rfl, VRel.ext hI d m u hR hL h1⟩
  | .mslice sz id off len cap, _, _, hR, _, h => by
    simp only [VRel] at h ⊢
    obtain ⟨hc, h1, c, rfl, h2, h3, cells, el, h4, h5⟩ := h
    have hr := hR hc
    obtain ⟨cells', h6, h7⟩ := hr.cell _ _ _ h4
    exact ⟨hc, Nat.lt_of_lt_of_le h1 hr.nobj, c, by rw [hr.phi _ h1], h2, h3, cells', el, by rw [hr.phi _ h1]; exact h6, by omega⟩
  | .empt, _, _, _, _, h => by simpa only [VRel] using h
  | .err, _, _, _, _, h => by simpa only [VRel] using h
  | .agg cs, cl, _, hR, hL, h => by
    simp only [VRel] at h ⊢
    obtain ⟨vs, rfl, h1⟩ := h
    exact ⟨vs, rfl, VRels.ext hI cs cl vs.toList hR hL h1⟩
  | .tup cs, cl, _, hR, hL, h => by
    simp only [VRel] at h ⊢
    obtain ⟨vs, rfl, h1⟩ := h
    exact ⟨vs, rfl, VRels.ext hI cs cl vs.toList hR hL h1⟩
theorem VRels.ext {V V' : Vw} {w w' : World} (hI : ExtI V w V' w') : ∀ (ds : List DVal) (m : Nat) (vs : List Value), (m ≤ 1 → ExtS V w V' w') → (m = 0 → ExtL V V') → VRels V w m ds vs → VRels V' w' m ds vs
  | [], _, _, _, _, h => by simpa only [VRels] using h
  | d :: ds, cl, _, hR, hL, h => by
    simp only [VRels] at h ⊢
    obtain ⟨v, us, rfl, h1, h2⟩ := h
    exact ⟨v, us, rfl, VRel.ext hI d cl v hR hL h1, VRels.ext hI ds cl us hR hL h2⟩
theorem RowRel.ext {V V' : Vw} {w w' : World} (hI : ExtI V w V' w') : ∀ (cs : List DVal) (m : Nat) (b off : Nat), (m ≤ 1 → ExtS V w V' w') → (m = 0 → ExtL V V') → RowRel V w m b off cs → RowRel V' w' m b off cs
  | [], _, _, _, _, _, _ => by simp only [RowRel]
  | c :: cs, cl, b, off, hR, hL, h => by
    simp only [RowRel] at h ⊢
    obtain ⟨h1, ⟨v, h2, h0, h3⟩, h4⟩ := h
    exact ⟨(hI b off h1).1, ⟨v, by rw [(hI b off h1).2]; exact h2, h0, VRel.ext hI c cl v hR hL h3⟩, RowRel.ext hI cs cl b (off + 1) hR hL h4⟩
theorem RowsRel.ext {V V' : Vw} {w w' : World} (hI : ExtI V w V' w') : ∀ (es : List (List DVal)) (m : Nat) (b sz off : Nat), (m ≤ 1 → ExtS V w V' w') → (m = 0 → ExtL V V') → RowsRel V w m b sz off es → RowsRel V' w' m b sz off es
  | [], _, _, _, _, _, _, _ => by simp only [RowsRel]
  | e :: es, cl, b, sz, off, hR, hL, h => by
    simp only [RowsRel] at h ⊢
    obtain ⟨h1, h2, h3⟩ := h
    exact ⟨h1, RowRel.ext hI e cl b off hR hL h2, RowsRel.ext hI es cl b sz (off + sz) hR hL h3⟩
end
theorem VRels.length {V : Vw} {w : World} {cl : Nat} : ∀ {ds : List DVal} {vs : List Value}, VRels V w cl ds vs → vs.length = ds.length
  | [], _, h => by simp only [VRels] at h; simp [h]
  | d :: ds, _, h => by simp only [VRels] at h; obtain ⟨v, us, rfl, -, h2⟩ := h; simp [VRels.length h2]
theorem VRels.get {V : Vw} {w : World} {cl : Nat} : ∀ {ds : List DVal} {vs : List Value}, VRels V w cl ds vs → ∀ {i : Nat} {d : DVal}, ds[i]? = some d → ∃ v, vs[i]? = some v ∧ VRel V w cl d v
  | [], _, _, i, d, hd => by simp at hd
  | e :: ds, _, h, i, d, hd => by
    simp only [VRels] at h
    obtain ⟨v, us, rfl, h1, h2⟩ := h
    cases i with
    | zero => simp at hd; subst hd; exact ⟨v, by simp, h1⟩
    | succ i => simpa using VRels.get h2 (i := i) (by simpa using hd)
theorem VRels.drop {V : Vw} {w : World} {cl : Nat} : ∀ {ds : List DVal} {vs : List Value} (n : Nat), VRels V w cl ds vs → VRels V w cl (ds.drop n) (vs.drop n)
  | ds, vs, 0, h => by simpa using h
  | [], _, n + 1, h => by simp only [VRels] at h; simp [h, VRels]
  | d :: ds, _, n + 1, h => by
    simp only [VRels] at h
    obtain ⟨v, us, rfl, -, h2⟩ := h
    simpa using VRels.drop n h2
theorem VRels.take {V : Vw} {w : World} {cl : Nat} : ∀ {ds : List DVal} {vs : List Value} (n : Nat), VRels V w cl ds vs → VRels V w cl (ds.take n) (vs.take n)
  | ds, vs, 0, h => by simp [VRels]
  | [], _, n + 1, h => by simp only [VRels] at h; simp [h, VRels]
  | d :: ds, _, n + 1, h => by
    simp only [VRels] at h
    obtain ⟨v, us, rfl, h1, h2⟩ := h
    simp only [List.take_succ_cons, VRels]
    exact ⟨v, _, rfl, h1, VRels.take n h2⟩
theorem VRels.append {V : Vw} {w : World} {cl : Nat} : ∀ {ds es : List DVal} {vs us : List Value}, VRels V w cl ds vs → VRels V w cl es us → VRels V w cl (ds ++ es) (vs ++ us)
  | [], _, _, _, h, h' => by simp only [VRels] at h; subst h; simpa using h'
  | d :: ds, _, _, _, h, h' => by
    simp only [VRels] at h
    obtain ⟨v, ws, rfl, h1, h2⟩ := h
    simp only [List.cons_append, VRels]
    exact ⟨v, _, rfl, h1, VRels.append h2 h'⟩
theorem VRels.of_append {V : Vw} {w : World} {cl : Nat} : ∀ {ds es : List DVal} {vs : List Value}, VRels V w cl (ds ++ es) vs → ∃ us ws, vs = us ++ ws ∧ VRels V w cl ds us ∧ VRels V w cl es ws
  | [], es, vs, h => ⟨[], vs, rfl, by simp [VRels], h⟩
  | d :: ds, es, vs, h => by
    simp only [List.cons_append, VRels] at h
    obtain ⟨v, ws, rfl, h1, h2⟩ := h
    obtain ⟨us, xs, rfl, h3, h4⟩ := VRels.of_append h2
    exact ⟨v :: us, xs, rfl, by simp only [VRels]; exact ⟨v, us, rfl, h1, h3⟩, h4⟩
theorem VRel.cells {V : Vw} {w : World} {cl : Nat} {d : DVal} {v : Value} (h : VRel V w cl d v) : VRels V w cl d.cells v.cells.toList := by
  cases d with
  | agg cs => simp only [VRel] at h; obtain ⟨vs, rfl, h1⟩ := h; exact h1
  | undef => have h' := h; simp only [VRel] at h'; obtain ⟨-, rfl⟩ := h'; exact ⟨_, [], rfl, h, rfl⟩
  | bool b => have h' := h; simp only [VRel] at h'; subst h'; exact ⟨_, [], rfl, h, rfl⟩
  | int k n => have h' := h; simp only [VRel] at h'; subst h'; exact ⟨_, [], rfl, h, rfl⟩
  | str s => have h' := h; simp only [VRel] at h'; subst h'; exact ⟨_, [], rfl, h, rfl⟩
  | nilp => have h' := h; simp only [VRel] at h'; subst h'; exact ⟨_, [], rfl, h, rfl⟩
  | nils => have h' := h; simp only [VRel] at h'; subst h'; exact ⟨_, [], rfl, h, rfl⟩
  | nilm => have h' := h; simp only [VRel] at h'; subst h'; exact ⟨_, [], rfl, h, rfl⟩
  | nilf => have h' := h; simp only [VRel] at h'; subst h'; exact ⟨_, [], rfl, h, rfl⟩
  | loc r ep off => have h' := h; simp only [VRel] at h'; obtain ⟨-, -, -, a, rfl, -⟩ := h'; exact ⟨_, [], rfl, h, rfl⟩
  | obj id off => have h' := h; simp only [VRel] at h'; obtain ⟨-, -, rfl⟩ := h'; exact ⟨_, [], rfl, h, rfl⟩
  | elem cs off => have h' := h; simp only [VRel] at h'; obtain ⟨-, b, o, rfl, -⟩ := h'; exact ⟨_, [], rfl, h, rfl⟩
  | slice pt own sz es => have h' := h; simp only [VRel] at h'; obtain ⟨-, b, off, cap, rfl, -⟩ := h'; exact ⟨_, [], rfl, h, rfl⟩
  | map id => have h' := h; simp only [VRel] at h'; obtain ⟨-, -, rfl⟩ := h'; exact ⟨_, [], rfl, h, rfl⟩
  | func f caps => have h' := h; simp only [VRel] at h'; obtain ⟨-, vs, rfl, -⟩ := h'; exact ⟨_, [], rfl, h, rfl⟩
  | tup vs => have h' := h; simp only [VRel] at h'; obtain ⟨us, rfl, -⟩ := h'; exact ⟨_, [], rfl, h, rfl⟩
  | nilI => have h' := h; simp only [VRel] at h'; subst h'; exact ⟨_, [], rfl, h, rfl⟩
  | iface t d => have h' := h; simp only [VRel] at h'; obtain ⟨u, rfl, -⟩ := h'; exact ⟨_, [], rfl, h, rfl⟩
  | empt => have h' := h; simp only [VRel] at h'; obtain ⟨A, rfl⟩ := h'; exact ⟨_, [], rfl, h, rfl⟩
  | err => have h' := h; simp only [VRel] at h'; obtain ⟨t, u, rfl⟩ := h'; exact ⟨_, [], rfl, h, rfl⟩
  | mslice sz id off len cap => have h' := h; simp only [VRel] at h'; obtain ⟨-, -, c, rfl, -⟩ := h'; exact ⟨_, [], rfl, h, rfl⟩
end Go.Proofs.YtklepphkbbjbjaaDoor
namespace Go.Proofs.YtklepphkbbjbjaaDoor
set_option linter.unusedVariables false
open Go
def ofCell : Value → Option DVal
  | .bool b => some (.bool b)
  | .int k n => some (.int k n)
  | .string s => some (.str s.data.toList)
  | .pointer none => some .nilp
  | .slice none 0 0 => some .nils
  | .map none => some .nilm
  | .nilFunc => some .nilf
  | .nilIface => some .nilI
  | _ => none
def ofCells : List Value → Option (List DVal)
  | [] => some []
  | v :: vs => match ofCell v, ofCells vs with
    | some d, some ds => some (d :: ds)
    | _, _ => none
def ofVal : Value → Option DVal
  | .agg cs => (ofCells cs.toList).map .agg
  | v => ofCell v
def opd : Operand → Option Opd
  | .tmp t => some (.t t)
  | .const v => (ofVal v).map .c
  | .func f => some (.c (.func f []))
  | .global _ => none
def opds : List Operand → Option (List Opd)
  | [] => some []
  | x :: xs => match opd x, opds xs with
    | some d, some ds => some (d :: ds)
    | _, _ => none
def szOf (P : Program) (t : TypeId) : Option Nat := (P.info? t).map (·.size)
def aggSz (P : Program) (t : TypeId) : Option (Option Nat) :=
  match P.underlying t with
  | some (.struct _) | some (.array _ _) => (P.info? t).map fun i => some i.size
  | some _ => some none
  | none => none
def hasPtrS (P : Program) : Nat → List TypeId → TypeId → Bool
  | 0, _, _ => true
  | n + 1, seen, t =>
    if seen.contains t then false else
    match P.underlying t with
    | some .bool | some (.int _) | some .string => false
    | some (.slice e) => hasPtrS P n (t :: seen) e
    | some (.array _ e) => hasPtrS P n (t :: seen) e
    | some (.struct fs) => fs.toList.any fun f => hasPtrS P n (t :: seen) f.type
    | some (.interface _) => false
    | _ => true
def hasPtr (P : Program) (n : Nat) (t : TypeId) : Bool := hasPtrS P n [] t
def eqFields (P : Program) (rec : TypeId → Option (List CK)) (off : Nat) : List Field → Option (List CK)
  | [] => some []
  | f :: fs => if f.name ≠ "_" && f.offset = off && szOf P f.type = some ((rec f.type).getD []).length && ((rec f.type).getD []).length ≠ 0 then
      match rec f.type, eqFields P rec (off + ((rec f.type).getD []).length) fs with
      | some ks, some ls => some (ks ++ ls)
      | _, _ => none
    else none
def eqKinds (P : Program) : Nat → TypeId → Option (List CK)
  | 0, _ => none
  | n + 1, t =>
    match P.underlying t with
    | some .bool => some [.b]
    | some (.int k) => some [.i k]
    | some .string => some [.s]
    | some (.array len e) => if szOf P e = some ((eqKinds P n e).getD []).length then (eqKinds P n e).map fun ks => (List.replicate len ks).flatten else none
    | some (.struct fs) => if P.stoodInHeld t then none else eqFields P (eqKinds P n) 0 fs.toList
    | _ => none
structure Hint where
  slot : Nat → Nat
  fn : Nat → Nat
  pt : Nat → Bool := fun _ => false
  rng : Bool := false
def Hint.at (h : Hint) : Operand → Nat
  | .tmp t => h.slot t
  | _ => 0
def isNeq : BinOp → Bool
  | .neq => true
  | _ => false
def nilKind : TypeDesc → Operand → Option Nat
  | .slice _, .const (.slice none 0 0) => some 0
  | .pointer _, .const (.pointer none) => some 1
  | .map _ _, .const (.map none) => some 2
  | .func _ _ _, .const .nilFunc => some 3
  | _, _ => none
def one (x : Operand) (f : IOp) : Option (IOp × List Opd) := (opd x).map fun a => (f, [a])
def two (x y : Operand) (f : IOp) : Option (IOp × List Opd) :=
  match opd x, opd y with
  | some a, some b => some (f, [a, b])
  | _, _ => none
def compBin (P : Program) (op : BinOp) (t : TypeId) (x y : Operand) : Option (IOp × List Opd) :=
  match op with
  | .eql | .neq =>
    match P.underlying t with
    | some .bool => two x y (.p (.eqb (isNeq op)))
    | some (.int _) | some .string => two x y (.p (.bin op))
    | some (.struct _) | some (.array _ _) => if P.eqGuardType P.depth t then none else (eqKinds P 100 t).bind fun ks => two x y (.p (.eqa (isNeq op) ks))
    | some d => match nilKind d y with
      | some k => one x (.p (.isnil k (isNeq op)))
      | none => none
    | none => none
  | _ => two x y (.p (.bin op))
def compField (P : Program) (t : TypeId) (f : Nat) : Option Field :=
  match P.underlying t with
  | some (.struct fs) => fs[f]?
  | _ => none
def places (P : Program) (fs : Array Field) : List Nat → Option (List (Nat × Nat))
  | [] => some []
  | i :: is => match fs[i]?, places P fs is with
    | some f, some ps => (szOf P f.type).map fun n => (f.offset, n) :: ps
    | _, _ => none
def optCount : Option Operand → List Operand
  | some x => [x]
  | none => []
def methodOf (P : Program) (name : String) (t : TypeId) : Option FuncId :=
  match P.info? t, P.underlying t with
  | some i, some u =>
    match u with
    | .pointer _ => none
    | _ => match i.methods.find? (·.name == name) with
      | some m => if m.path.isEmpty then (match m.func with | some (f, false) => some f | _ => none) else none
      | none => none
  | _, _ => none
def methodTbl (P : Program) (name : String) : Nat → List (Nat × Nat)
  | 0 => []
  | n + 1 => match methodOf P name n with
    | some f => (n, f) :: methodTbl P name n
    | none => methodTbl P name n
def aggB (P : Program) (t : TypeId) : Bool :=
  match P.underlying t with
  | some (.struct _) | some (.array _ _) => true
  | _ => false
def keyKinds (P : Program) (m : TypeId) : Option (TypeId × TypeId × List CK) :=
  match P.underlying m with
  | some (.map k e) => (eqKinds P 100 k).map fun ks => (k, e, ks)
  | _ => none
def compOp (P : Program) (h : Hint) (dst : Option Nat) (op : Go.Op) : Option (IOp × List Opd) :=
  match op with
  | .move x | .assign x => one x (.p .mv)
  | .pick c a b => (opds [c, a, b]).map fun xs => (.p .pick, xs)
  | .alloc e =>
    match ((P.info? e).bind (·.zero)).bind ofVal, dst with
    | some z, some d => if h.slot d = d + 2 then some (.lw d (.alloc z.cells), []) else some (.s true (.alloc z.cells), [])
    | _, _ => none
  | .box _ x =>
    match dst with
    | some d => one x (if h.slot d = d + 2 then .lw d .box else .s true .box)
    | none => none
  | .build t parts =>
    match P.underlying t, ((P.info? t).bind (·.zero)).bind ofVal with
    | some (.struct fs), some (.agg z) =>
      if (fs.toList.all fun f => (szOf P f.type).isSome) then
        match places P fs (parts.toList.map (·.1)), opds (parts.toList.map (·.2)) with
        | some ps, some xs => some (.p (.build z ps), xs)
        | _, _ => none
      else none
    | some (.array _ e), some (.agg z) =>
      match szOf P e, opds (parts.toList.map (·.2)) with
      | some k, some xs => some (.p (.build z (parts.toList.map fun p => (p.1 * k, k))), xs)
      | _, _ => none
    | _, _ => none
  | .buildSlice t len parts =>
    match P.underlying t with
    | some (.slice e) =>
      match P.info? e with
      | some i =>
        if 0 < i.size && i.zero.isSome && (len * i.size ≤ 2 ^ 24) && parts.toList.map (·.1) == List.range len then
          (opds (parts.toList.map (·.2))).map fun xs => (.p (.bslice (h.pt e || hasPtr P 20 e) i.size), xs)
        else none
      | none => none
    | _ => none
  | .load t a =>
    match aggSz P t with
    | some sz => one a (match h.at a with | 0 => .s false (.ld sz) | 1 => .p (.ldE sz) | r + 2 => .lr r sz)
    | none => none
  | .store t a x =>
    match szOf P t with
    | some n => match h.at a with
      | 0 => two a x (.s true (.st n))
      | 1 => none
      | r + 2 => two a x (.lw r (.st n))
    | none => none
  | .nilCheck x => one x (.p .nilchk)
  | .binOp op t x y _ => compBin P op t x y
  | .unOp op _ x => one x (.p (.un op))
  | .convert s d x =>
    match P.underlying s, P.underlying d with
    | some (.int _), some (.int k) => one x (.p (.conv k))
    | some .string, some .string => one x (.p .convS)
    | some (.slice e), some .string => match P.underlying e with
      | some (.int .u8) => one x (.p .convB)
      | _ => none
    | _, _ => none
  | .fieldAddr t x f =>
    match compField P t f with
    | some fl => match szOf P fl.type with
      | some (n + 1) => one x (.p (.off fl.offset))
      | _ => none
    | none => none
  | .field t x f =>
    match compField P t f with
    | some fl => match aggSz P fl.type with
      | some sz => one x (.p (.fld fl.offset sz))
      | none => none
    | none => none
  | .indexAddr t x i =>
    match P.underlying t with
    | some (.slice e) => match szOf P e with
      | some sz => two x i (.p (.idxS sz))
      | none => none
    | some (.array len e) => match szOf P e with
      | some sz => two x i (.p (.idxA len sz))
      | none => none
    | _ => none
  | .index t x i =>
    match P.underlying t with
    | some .string => two x i (.p .idxStr)
    | _ => none
  | .slice t x lo hi mx =>
    match P.underlying t with
    | some .string => if mx.isNone then (opds (x :: optCount lo ++ optCount hi)).map fun xs => (.p (.slcS lo.isSome hi.isSome), xs) else none
    | some (.slice e) => match szOf P e with
      | some sz => (opds (x :: optCount lo ++ optCount hi ++ optCount mx)).map fun xs => (.p (.slcV sz lo.isSome hi.isSome mx.isSome), xs)
      | none => none
    | _ => none
  | .extract t i => one t (.p (.ext i))
  | .makeFunc (.func f) first captured => if first.isEmpty then (opds captured.toList).map fun xs => (.p (.mkfunc f), xs) else none
  | .range t x =>
    match P.underlying t, dst with
    | some .string, some d => one x (.lw d .rng)
    | some (.map _ _), _ => one x (.s true .rngM)
    | _, _ => none
  | .entry x => one x (.s true .entM)
  | .next it true =>
    match h.at it with
    | r + 2 => one it (.lw r .next)
    | _ => none
  | .next it false => if h.rng then one it (.s true .nextM) else none
  | .makeInterface t x =>
    match P.underlying t with
    | some (.interface _) => none
    | some _ => one x (.p (.mkI t))
    | none => none
  | .typeAssert x _ u true =>
    match P.underlying u with
    | some (.interface _) => none
    | some _ => match ((P.info? u).bind (·.zero)).bind ofVal with
      | some z => one x (.p (.tyA u z))
      | none => none
    | none => none
  | .makeSlice t l c =>
    match P.underlying t with
    | some (.slice e) =>
      match P.info? e with
      | some i => match i.zero.bind ofVal with
        | some z => if 0 < i.size ∧ i.bytes ≤ 1024 ∧ z.cells.length = i.size then two l c (.s true (.make z.cells)) else none
        | none => none
      | none => none
    | _ => none
  | .makeMap t none =>
    match P.underlying t with
    | some (.map _ _) => some (.s true .mkmap, [])
    | _ => none
  | .lookup t x i ok =>
    match keyKinds P t with
    | some (k, e, ks) => match ((P.info? e).bind (·.zero)).bind ofVal with
      | some z => two x i (.s false (.look (aggB P k) ks z ok))
      | none => none
    | none => none
  | .mapUpdate t m k v =>
    match keyKinds P t with
    | some (kt, _, ks) => (opds [m, k, v]).map fun xs => (.s true (.mupd (aggB P kt) ks), xs)
    | none => none
  | .insert t m k v =>
    match keyKinds P t with
    | some (kt, _, ks) => (opds [m, k, v]).map fun xs => (.s true (.mupd (aggB P kt) ks), xs)
    | none => none
  | .call c =>
    match c.callee with
    | .invoke r name => (opds (r :: c.args.toList)).map fun xs => (.p (.callM (methodTbl P name P.types.size)), xs)
    | .value (.func f) => (opds c.args.toList).map fun xs => (match h.fn f with | 0 => (match dst with | some d => if h.slot d = 999998 then .s false (.callS f) else .p (.call f) | none => .p (.call f)) | 1 => .s true (.callF f) | _ => .s true (.callI f), xs)
    | .value (.tmp t) => (opds c.args.toList).map fun xs => (.s true .callV, .t t :: xs)
    | .builtin .len =>
      match c.args.toList, (c.argTypes[0]?).bind P.underlying with
      | [x], some .string => one x (.p .lenStr)
      | [x], some (.slice _) => one x (.p .lenSl)
      | [x], some (.array n _) => one x (.p (.lenArr n))
      | [x], some (.map _ _) => one x (.s false .lenM)
      | _, _ => none
    | .builtin .append =>
      match c.args.toList, c.argTypes.toList with
      | [s, x], [t, u] =>
        match P.underlying t with
        | some (.slice e) =>
          match P.info? e with
          | some i =>
            match i.zero with
            | some z => if t = u ∧ 0 < i.size ∧ i.bytes ≤ 1024 ∧ z.cells.size = i.size then two s x (.s true (match dst with | some d => if h.slot d = 999999 then .appM i.size else if h.slot d = 999997 then .appX i.size else .app (h.pt e || hasPtr P 20 e) i.size | none => .app (h.pt e || hasPtr P 20 e) i.size)) else none
            | none => none
          | none => none
        | _ => none
      | _, _ => none
    | .builtin .delete =>
      match c.args.toList, (c.argTypes[0]?).bind (keyKinds P) with
      | [m, k], some (kt, _, ks) => two m k (.s true (.mdel (aggB P kt) ks))
      | _, _ => none
    | .builtin .max => match c.args.toList with
      | [x, y] => two x y (.p .mx)
      | _ => none
    | .builtin .min => match c.args.toList with
      | [x, y] => two x y (.p .mn)
      | _ => none
    | _ => none
  | _ => none
def slotOk (nt : Nat) : Option Nat → Bool
  | some d => d < nt
  | none => true
def compGuard (ops : List Oper) : Option (Nat × Bool) → Option (Option (Nat × Bool))
  | none => some none
  | some (j, b) => match ops[j]? with
    | some o => o.dst.map fun d => some (d, b)
    | none => none
def compOpS (P : Program) (h : Hint) (dst : Option Nat) (op : Go.Op) : IOp × List Opd :=
  match compOp P h dst op with
  | some x => x
  | none => (.p .stuck, [])
def compOper (P : Program) (h : Hint) (nt : Nat) (ops : List Oper) (o : Oper) : Option IOper :=
  match compGuard ops o.guard with
  | some g => if slotOk nt o.dst then some { dst := o.dst, op := (compOpS P h o.dst o.op).1, xs := (compOpS P h o.dst o.op).2, guard := g } else none
  | none => none
def compOpers (P : Program) (h : Hint) (nt : Nat) (ops : List Oper) : List Oper → Option (List IOper)
  | [] => some []
  | o :: os => match compOper P h nt ops o, compOpers P h nt ops os with
    | some i, some is => some (i :: is)
    | _, _ => none
def IOper.uses (o : IOper) : List Nat :=
  (o.xs.filterMap fun | .t n => some n | _ => none) ++ (match o.guard with | some (g, _) => [g] | none => [])
def isRd : SOp → Bool
  | .ld _ | .lenM | .look .. => true
  | _ => false
def accOk : IOp → IOp → Bool
  | .p _, _ | _, .p _ => true
  | .lr _ _, .lr _ _ => true
  | .lr r _, .lw q _ | .lw q _, .lr r _ | .lw r _, .lw q _ => r != q
  | .s false a, .s false b => isRd a && isRd b
  | .s _ _, .s _ _ => false
  | .lr _ _, .s _ _ | .lw _ _, .s _ _ | .s _ _, .lr _ _ | .s _ _, .lw _ _ => true
def freeOf : Option Nat → List Nat → Bool
  | some d, l => !l.contains d
  | none, _ => true
def indep (a b : IOper) : Bool :=
  accOk a.op b.op && freeOf a.dst b.uses && freeOf b.dst a.uses && freeOf a.dst b.dst.toList
def ahead (acc : List Nat) (o : Oper) : Nat :=
  o.after.toList.foldl (fun s e => if Region.binds .any e then s ||| 2 ^ e.on ||| acc.getD e.on 0 else s) 0
def aheads (acc : List Nat) : List Oper → List Nat
  | [] => acc
  | o :: os => aheads (acc ++ [ahead acc o]) os
def drawRow (m : Nat) (b : IOper) (i : Nat) : List IOper → Bool
  | [] => true
  | a :: as => (m.testBit i || indep a b) && drawRow m b (i + 1) as
def drawAll (done : List IOper) : List Nat → List IOper → Bool
  | m :: ms, b :: bs => drawRow m b 0 done && drawAll (done ++ [b]) ms bs
  | _, [] => true
  | [], _ :: _ => false
def edgesBack (i : Nat) : List Oper → Bool
  | [] => true
  | o :: os => (o.after.toList.all fun e => !Region.binds .any e || e.on < i) && edgesBack (i + 1) os
def drawOk (P : Program) (ops : List Oper) (ios : List IOper) : Bool :=
  P.follows .mixedOrders && edgesBack 0 ops && drawAll [] (aheads [] ops) ios
def stuckCode : ICode := .reg [{ dst := none, op := .p .stuck, xs := [], guard := none }]
abbrev Sp := ICode × List (Nat × ICode)
def addLast (b : ICode) : Nat × ICode → List (Nat × ICode) → List (Nat × ICode)
  | (i, c), [] => [(i, .seq c b)]
  | p, q :: qs => p :: addLast b q qs
def spSeq : Sp → Sp → Sp
  | (a, []), (b, ms) => (.seq a b, ms)
  | (a, l :: ls), (b, ms) => (a, addLast b l ls ++ ms)
def spOf : Option ICode → Option Sp := fun o => o.map fun i => (i, [])
def seqO : Option ICode → Option ICode → Option ICode
  | some x, some y => some (.seq x y)
  | _, _ => none
def seqSp : Option Sp → Option Sp → Option Sp
  | some x, some y => some (spSeq x y)
  | _, _ => none
def ICode.exits : ICode → List Nat
  | .skip | .ret | .reg _ => []
  | .exit i => [i]
  | .seq a b | .cond _ a b => a.exits ++ b.exits
  | .block i a => a.exits.filter (· != i)
  | .loop a => a.exits
def segLoop (l : Nat) (s : ICode) : ICode := .block (2000000 + l) (.loop (.block (1000000 + l) (.seq s (.exit (2000000 + l)))))
def scopeLevels : ICode → List (Nat × ICode) → ICode
  | r, [] => r
  | r, (l, s) :: ls => scopeLevels (.seq (.block (1000000 + l) r) (segLoop l s)) ls
def distinct : List Nat → Bool
  | [] => true
  | x :: xs => !xs.contains x && distinct xs
def scopeO (o : Option ICode) : Option Sp → Option ICode
  | none => none
  | some (_, []) => o
  | some (s0, l :: ls) =>
    if distinct ((l :: ls).map (·.1)) && ((l :: ls).all fun p => p.2.exits.all (Nat.blt · 2000000)) && ((scopeLevels s0 (l :: ls)).exits.all fun i => !((l :: ls).map fun p => 1000000 + p.1).contains i) then some (scopeLevels s0 (l :: ls)) else some stuckCode
def comp2 (P : Program) (h : Hint) (nt : Nat) : Code → Option ICode × Option Sp
  | .skip => (some .skip, some (.skip, []))
  | .label l => (some .skip, some (.skip, [(l, .skip)]))
  | .ret => (some .ret, some (.ret, []))
  | .exit id => if Nat.blt id 1000000 then (some (.exit id), some (.exit id, [])) else (some stuckCode, some (stuckCode, []))
  | .goto l => if Nat.blt l 1000000 then (some (.exit (1000000 + l)), some (.exit (1000000 + l), [])) else (some stuckCode, some (stuckCode, []))
  | .region _ ops draw => ((compOpers P h nt ops.toList ops.toList).bind fun ios => if !draw || drawOk P ops.toList ios then some (.reg ios) else some stuckCode,
      spOf ((compOpers P h nt ops.toList ops.toList).bind fun ios => if !draw || drawOk P ops.toList ios then some (.reg ios) else some stuckCode))
  | .seq a b => (seqO (comp2 P h nt a).1 (comp2 P h nt b).1, seqSp (comp2 P h nt a).2 (comp2 P h nt b).2)
  | .cond c a b => (match opd c, (comp2 P h nt a).1, (comp2 P h nt b).1 with
    | some d, some x, some y => (some (.cond d x y), some (.cond d x y, []))
    | _, _, _ => (none, none))
  | .block id a => if Nat.blt id 1000000 then ((comp2 P h nt a).1.map (.block id), spOf ((comp2 P h nt a).1.map (.block id))) else (some stuckCode, some (stuckCode, []))
  | .loop a => ((comp2 P h nt a).1.map .loop, spOf ((comp2 P h nt a).1.map .loop))
  | .scope a => (scopeO (comp2 P h nt a).1 (comp2 P h nt a).2, spOf (scopeO (comp2 P h nt a).1 (comp2 P h nt a).2))
  | _ => (some stuckCode, some (stuckCode, []))
def compCode (P : Program) (h : Hint) (nt : Nat) (c : Code) : Option ICode := (comp2 P h nt c).1
def compRes (P : Program) (h : Hint) : List ResultVar → Option (List IRes)
  | [] => some []
  | .tmp t :: rs => (compRes P h rs).map (.t t :: ·)
  | .cell a t :: rs => match aggSz P t, compRes P h rs with
    | some sz, some is => if h.slot a = a + 2 then some (.cell a sz :: is) else none
    | _, _ => none
def compFunc (P : Program) (h : Hint) (fn : Func) : Option IFunc :=
  match fn.body with
  | some c => match compCode P h fn.ntmps c, compRes P h fn.results.toList with
    | some b, some rs => if fn.params.size + fn.nfree ≤ fn.ntmps then some { npar := fn.params.size + fn.nfree, res := rs, body := b } else none
    | _, _ => none
  | none => none
end Go.Proofs.YtklepphkbbjbjaaDoor
namespace Go.Proofs.YtklepphkbbjbjaaDoor
set_option linter.unusedVariables false
open Go
def ERels (V : Vw) (w : World) : List DVal → List MapEntry → Prop
  | [], ms => ms = []
  | .tup [k, v] :: es, ms => ∃ m ns, ms = m :: ns ∧ k.plain = true ∧ VRel V w 2 k m.key ∧ VRel V w 1 v m.val ∧ ERels V w es ns
  | _, _ => False
def IterAt (V : Vw) (w : World) (cur : DVal) (ms : Array MapEntry) (clock : Nat) (seen : Array Nat) (c0 : Nat) : Prop :=
  cur = .undef ∨ ∃ (e : MapEntry) (s0 : Array Nat) (k v : DVal), seen = s0.push e.born ∧ e ∈ ms.toList ∧ c0 = clock ∧ cur = .tup [k, v] ∧ k.plain = true ∧ VRel V w 2 k e.key ∧ VRel V w 1 v e.val
def ObjRel (V : Vw) (w : World) (d : DVal) (b : Nat) : Prop :=
  match d with
  | .agg cs => ∃ vs el us rest, w.heap[b]? = some (.cells vs el (0, 0)) ∧ vs.toList = us ++ rest ∧ VRels V w 1 cs us
  | .tup [.str s, .int .i64 pos] => ∃ n : Nat, pos = n ∧ w.heap[b]? = some (.stringIter ⟨s.toArray⟩ n)
  | .tup es => ∃ ms clock es', w.heap[b]? = some (.map ms clock) ∧ es.Perm es' ∧ ERels V w es' ms.toList ∧ MapKept.Stamped ms clock
  | .undef => b < w.heap.size
  | .iface _ _ => b < w.heap.size
  | .func m [cur, .tup rest, .tup all] => m < V.nobj ∧ V.tag (V.phi m) = (3, m) ∧ ∃ ms clock since seen c0 rest' all', w.heap[V.phi m]? = some (.map ms clock) ∧ w.heap[b]? = some (.mapIter (some (V.phi m)) since seen c0) ∧
      MapKept.Stamped ms clock ∧ (∀ x ∈ ms.toList, x.born < since) ∧ since ≤ c0 ∧ since ≤ clock ∧ all.Perm all' ∧ ERels V w all' ms.toList ∧ rest.Perm rest' ∧ ERels V w rest' (leftOf ms seen).toList ∧ IterAt V w cur ms clock seen c0
  | .nilm => ∃ s seen c, w.heap[b]? = some (.mapIter none s seen c)
  | _ => False
theorem ERels.ext {V V' : Vw} {w w' : World} (hI : ExtI V w V' w') (hR : ExtS V w V' w') : ∀ {es : List DVal} {ms : List MapEntry}, ERels V w es ms → ERels V' w' es ms
  | [], _, h => by unfold ERels at h ⊢; exact h
  | .tup [k, v] :: es, _, h => by
    unfold ERels at h ⊢
    obtain ⟨m, ns, rfl, h0, h1, h2, h3⟩ := h
    exact ⟨m, ns, rfl, h0, VRel.ext hI _ _ _ (fun e => by omega) (fun e => by omega) h1, VRel.ext hI _ _ _ (fun _ => hR) (fun e => by omega) h2, h3.ext hI hR⟩
theorem IterAt.ext {V V' : Vw} {w w' : World} (hI : ExtI V w V' w') (hR : ExtS V w V' w') {cur : DVal} {ms : Array MapEntry} {clock c0 : Nat} {seen : Array Nat} (h : IterAt V w cur ms clock seen c0) : IterAt V' w' cur ms clock seen c0 := by
  rcases h with h | ⟨e, s0, k, v, h1, h2, h3, h4, h5, h6, h7⟩
  · exact .inl h
  · exact .inr ⟨e, s0, k, v, h1, h2, h3, h4, h5, VRel.ext hI _ _ _ (fun e => by omega) (fun e => by omega) h6, VRel.ext hI _ _ _ (fun _ => hR) (fun e => by omega) h7⟩
theorem ObjRel.func_at {V : Vw} {w : World} {m : Nat} {c : List DVal} {b : Nat} (h : ObjRel V w (.func m c) b) : m < V.nobj ∧ V.tag (V.phi m) = (3, m) ∧ ∃ ms clock, w.heap[V.phi m]? = some (.map ms clock) := by
  unfold ObjRel at h
  split at h
  all_goals first
    | (rename_i e; cases e; done)
    | (exfalso; exact h; done)
    | skip
  rename_i m' cur rest all e
  simp only [DVal.func.injEq] at e
  obtain ⟨rfl, -⟩ := e
  obtain ⟨h0, h1, ms, clock, _, _, _, _, _, h2, -⟩ := h
  exact ⟨h0, h1, ms, clock, h2⟩
structure Inv (V : Vw) (L : Nat → Nat × DVal) (σ : Sto) (w : World) : Prop where
  hB : V.B ≤ w.heap.size
  tag : ∀ b, (V.tag b).1 ≠ 0 → V.B ≤ b ∧ b < w.heap.size
  ep : ∀ r, V.ep r = (L r).1
  root : ∀ r, 0 < V.ep r → V.tag (V.lam r) = (2, r) ∧ ObjRel V w (L r).2 (V.lam r)
  nobj : V.nobj = σ.nobj
  obj : ∀ id, id < V.nobj → (σ.obj id ≠ .undef → V.tag (V.phi id) = (3, id)) ∧ ObjRel V w (σ.obj id) (V.phi id)
  ntok : V.ntok = σ.ntok
  fr : V.fr = σ.fr
  tag4 : ∀ b, (V.tag b).1 = 4 → (V.tag b).2 < V.ntok
  tok : ∀ g, g < V.ntok → V.tag (V.tb g) = (4, g) ∧ ∃ c el, w.heap[V.tb g]? = some (.cells c el (0, 0)) ∧ V.fr g ≤ c.size
  hid : ∀ q m c, q < V.nobj → σ.obj q = .func m c → σ.obj m = .iface q .undef
  hrt : ∀ r, 0 < V.ep r → ∀ m c, (L r).2 ≠ .func m c
structure Adv (V : Vw) (w : World) (V' : Vw) (w' : World) : Prop where
  ei : ExtI V w V' w'
  er : ExtS V w V' w'
  el : ExtL V V'
  B : V'.B = V.B
  zero : ∀ b, b < w.heap.size → (V.tag b).1 = 0 → (V'.tag b).1 = 0
  frame : ∀ b, b < w.heap.size → (V.tag b).1 = 0 → w'.heap[b]? = w.heap[b]?
  size : w.heap.size ≤ w'.heap.size
  os : w'.os = w.os
  tape : w'.tape = w.tape
  output : w'.output = w.output
  I0 : V'.I0 = V.I0
theorem ExtI.refl (V : Vw) (w : World) : ExtI V w V w := fun _ _ h => ⟨h, rfl⟩
theorem ExtS.refl (V : Vw) (w : World) : ExtS V w V w :=
  ⟨Nat.le_refl _, fun _ _ => rfl, Nat.le_refl _, fun _ _ => Nat.le_refl _, fun _ _ _ => ⟨rfl, fun c el h => ⟨c, h, rfl⟩⟩, fun _ c _ h => ⟨c, h, rfl⟩⟩
theorem ExtL.refl (V : Vw) : ExtL V V := ⟨fun _ => Nat.le_refl _, fun _ _ _ => rfl⟩
theorem Adv.refl (V : Vw) (w : World) : Adv V w V w := ⟨.refl V w, .refl V w, .refl V, rfl, fun _ _ h => h, fun _ _ _ => rfl, Nat.le_refl _, rfl, rfl, rfl, rfl⟩
theorem ExtI.trans {V V' V'' : Vw} {w w' w'' : World} (h : ExtI V w V' w') (h' : ExtI V' w' V'' w'') : ExtI V w V'' w'' :=
  fun b n hi => ⟨(h' b n (h b n hi).1).1, (h' b n (h b n hi).1).2.trans (h b n hi).2⟩
theorem ExtS.trans {V V' V'' : Vw} {w w' w'' : World} (h : ExtS V w V' w') (h' : ExtS V' w' V'' w'') : ExtS V w V'' w'' where
  nobj := Nat.le_trans h.nobj h'.nobj
  phi id hid := (h'.phi id (Nat.lt_of_lt_of_le hid h.nobj)).trans (h.phi id hid)
  ntok := Nat.le_trans h.ntok h'.ntok
  fr g hg := Nat.le_trans (h.fr g hg) (h'.fr g (Nat.lt_of_lt_of_le hg h.ntok))
  tb g hg e := by
    have a1 := h.fr g hg
    have a2 := h'.fr g (Nat.lt_of_lt_of_le hg h.ntok)
    obtain ⟨b1, b2⟩ := h.tb g hg (by omega)
    obtain ⟨c1, c2⟩ := h'.tb g (Nat.lt_of_lt_of_le hg h.ntok) (by omega)
    refine ⟨c1.trans b1, fun c el hc => ?_⟩
    obtain ⟨c', u1, u2⟩ := b2 c el hc
    obtain ⟨c'', v1, v2⟩ := c2 c' el (by rw [b1]; exact u1)
    exact ⟨c'', by rw [← b1]; exact v1, v2.trans u2⟩
  cell b c el hc := by
    obtain ⟨c', u1, u2⟩ := h.cell b c el hc
    obtain ⟨c'', v1, v2⟩ := h'.cell b c' el u1
    exact ⟨c'', v1, v2.trans u2⟩
theorem ExtL.trans {V V' V'' : Vw} (h : ExtL V V') (h' : ExtL V' V'') : ExtL V V'' where
  ep r := Nat.le_trans (h.ep r) (h'.ep r)
  lam r h0 e := by
    have a1 := h.ep r
    have a2 := h'.ep r
    rw [h'.lam r (by omega) (by omega), h.lam r h0 (by omega)]
theorem Adv.trans {V V' V'' : Vw} {w w' w'' : World} (h : Adv V w V' w') (h' : Adv V' w' V'' w'') : Adv V w V'' w'' where
  ei := h.ei.trans h'.ei
  er := h.er.trans h'.er
  el := h.el.trans h'.el
  B := h'.B.trans h.B
  zero b hb h0 := h'.zero b (Nat.lt_of_lt_of_le hb h.size) (h.zero b hb h0)
  frame b hb h0 := (h'.frame b (Nat.lt_of_lt_of_le hb h.size) (h.zero b hb h0)).trans (h.frame b hb h0)
  size := Nat.le_trans h.size h'.size
  os := h'.os.trans h.os
  tape := h'.tape.trans h.tape
  output := h'.output.trans h.output
  I0 := h'.I0.trans h.I0
theorem VRel.adv {V V' : Vw} {w w' : World} {cl : Nat} {d : DVal} {v : Value} (h : VRel V w cl d v) (ha : Adv V w V' w') : VRel V' w' cl d v :=
  VRel.ext ha.ei d cl v (fun _ => ha.er) (fun _ => ha.el) h
theorem VRels.adv {V V' : Vw} {w w' : World} {cl : Nat} {d : List DVal} {v : List Value} (h : VRels V w cl d v) (ha : Adv V w V' w') : VRels V' w' cl d v :=
  VRels.ext ha.ei d cl v (fun _ => ha.er) (fun _ => ha.el) h
def EnvRel (V : Vw) (w : World) (env : Nat → DVal) (tmps : Array Value) : Prop := ∀ s, VRel V w 0 (env s) (tmps.getD s Go.undef)
theorem EnvRel.adv {V V' : Vw} {w w' : World} {env : Nat → DVal} {t : Array Value} (h : EnvRel V w env t) (ha : Adv V w V' w') : EnvRel V' w' env t :=
  fun s => (h s).adv ha
theorem EnvRel.put {V : Vw} {w : World} {env : Nat → DVal} {t : Array Value} (h : EnvRel V w env t) {d : Nat} {x : DVal} {v : Value} (hd : d < t.size) (hx : VRel V w 0 x v) :
    EnvRel V w (upd env d x) (t.setIfInBounds d v) := by
  intro s
  by_cases hs : s = d
  · subst hs
    simpa [upd, Array.getD_eq_getD_getElem?, Array.getElem?_setIfInBounds, hd] using hx
  · have := h s
    simpa [upd, hs, Array.getD_eq_getD_getElem?, Array.getElem?_setIfInBounds, Ne.symm hs] using this
theorem ObjRel.ext' {V V' : Vw} {w w' : World} {d : DVal} {b : Nat} (h : ObjRel V w d b) (hI : ExtI V w V' w') (hR : ExtS V w V' w')
    (hm : ∀ m c, d = .func m c → m < V.nobj → V.tag (V.phi m) = (3, m) → (∃ ms clock, w.heap[V.phi m]? = some (.map ms clock)) → w'.heap[V.phi m]? = w.heap[V.phi m]? ∧ V'.tag (V.phi m) = V.tag (V.phi m)) (hh : w'.heap[b]? = w.heap[b]?) : ObjRel V' w' d b := by
  unfold ObjRel at h ⊢
  split at h
  · obtain ⟨vs, el, us, rest, h1, h2, h3⟩ := h
    exact ⟨vs, el, us, rest, by rw [hh, h1], h2, VRels.ext hI _ _ _ (fun _ => hR) (fun e => by omega) h3⟩
  · obtain ⟨n, h1, h2⟩ := h
    exact ⟨n, h1, by rw [hh, h2]⟩
  · obtain ⟨ms, clock, es', h1, h2, h3, h4⟩ := h
    exact ⟨ms, clock, es', by rw [hh, h1], h2, h3.ext hI hR, h4⟩
  · rw [Array.getElem?_eq_getElem h] at hh
    exact (Array.getElem?_eq_some_iff.1 hh).1
  · rw [Array.getElem?_eq_getElem h] at hh
    exact (Array.getElem?_eq_some_iff.1 hh).1
  · obtain ⟨h0, h1, ms, clock, since, seen, c0, rest', all', h2, h3, h4, h5, h6, h7, h8, h9, h10, h11, h12⟩ := h
    have hp := hR.phi _ h0
    obtain ⟨f1, f2⟩ := hm _ _ rfl h0 h1 ⟨_, _, h2⟩
    exact ⟨Nat.lt_of_lt_of_le h0 hR.nobj, by rw [hp, f2, h1], ms, clock, since, seen, c0, rest', all', by rw [hp, f1, h2], by rw [hp, hh, h3], h4, h5, h6, h7, h8, h9.ext hI hR, h10, h11.ext hI hR, h12.ext hI hR⟩
  · obtain ⟨s, seen, c, h1⟩ := h
    exact ⟨s, seen, c, by rw [hh, h1]⟩
  · exact h
theorem ObjRel.ext {V V' : Vw} {w w' : World} {d : DVal} {b : Nat} (h : ObjRel V w d b) (hI : ExtI V w V' w') (hR : ExtS V w V' w') (hf : ∀ m c, d ≠ .func m c) (hh : w'.heap[b]? = w.heap[b]?) : ObjRel V' w' d b :=
  h.ext' hI hR (fun m c e => absurd e (hf m c)) hh
theorem ObjRel.lt {V : Vw} {w : World} {d : DVal} {b : Nat} (h : ObjRel V w d b) : b < w.heap.size := by
  unfold ObjRel at h
  split at h
  · obtain ⟨vs, el, us, rest, h1, h2⟩ := h
    exact (Array.getElem?_eq_some_iff.1 h1).1
  · obtain ⟨n, h1, h2⟩ := h
    exact (Array.getElem?_eq_some_iff.1 h2).1
  · obtain ⟨ms, clock, es', h1, h2⟩ := h
    exact (Array.getElem?_eq_some_iff.1 h1).1
  · exact h
  · exact h
  · obtain ⟨-, -, ms, clock, since, seen, c0, rest', all', -, h3, -⟩ := h
    exact (Array.getElem?_eq_some_iff.1 h3).1
  · obtain ⟨s, seen, c, h1⟩ := h
    exact (Array.getElem?_eq_some_iff.1 h1).1
  · exact h.elim
def Quiet (V : Vw) (w : World) (V' : Vw) (w' : World) (σ : Sto) : Prop := ∀ m, m < V.nobj → (∃ q, σ.obj m = .iface q .undef) → V.tag (V.phi m) = (3, m) → (∃ ms clock, w.heap[V.phi m]? = some (.map ms clock)) → w'.heap[V.phi m]? = w.heap[V.phi m]? ∧ V'.tag (V.phi m) = V.tag (V.phi m)
theorem ObjRel.quiet {V V' : Vw} {L : Nat → Nat × DVal} {σ : Sto} {w w' : World} (h : Inv V L σ w) {q : Nat} (hq : q < V.nobj) (hI : ExtI V w V' w') (hR : ExtS V w V' w') (hQ : Quiet V w V' w' σ) (hh : w'.heap[V.phi q]? = w.heap[V.phi q]?) : ObjRel V' w' (σ.obj q) (V.phi q) :=
  (h.obj q hq).2.ext' hI hR (fun m c e h1 h2 h3 => hQ m h1 ⟨q, h.hid q m c hq e⟩ h2 h3) hh
theorem ObjRel.map {V : Vw} {w : World} {es : List DVal} {b : Nat} (h : ObjRel V w (.tup es) b) (hn : ∀ s l, es ≠ .str s :: l) : ∃ ms clock es', w.heap[b]? = some (.map ms clock) ∧ es.Perm es' ∧ ERels V w es' ms.toList ∧ MapKept.Stamped ms clock := by
  unfold ObjRel at h
  split at h
  · rename_i e; cases e
  · rename_i e; simp only [DVal.tup.injEq] at e; exact absurd e (hn _ _)
  · rename_i e; simp only [DVal.tup.injEq] at e; subst e; exact h
  · rename_i e; cases e
  · rename_i e; cases e
  · rename_i e; cases e
  · rename_i e; cases e
  · exact h.elim
theorem ERels.notStr {V : Vw} {w : World} {es : List DVal} {ms : List MapEntry} (h : ERels V w es ms) : ∀ s, DVal.str s ∉ es := by
  induction es generalizing ms with
  | nil => intro s hs; cases hs
  | cons e es ih =>
    intro s hs
    unfold ERels at h
    split at h
    · rename_i e1; cases e1
    · rename_i k v es' e1
      simp only [List.cons.injEq] at e1
      obtain ⟨rfl, rfl⟩ := e1
      obtain ⟨m, ns, -, -, -, -, h3⟩ := h
      rcases List.mem_cons.1 hs with hs | hs
      · cases hs
      · exact ih h3 s hs
    · exact h.elim
theorem ObjRel.ofMap {V : Vw} {w : World} {es es' : List DVal} {b clock : Nat} {ms : Array MapEntry} (h : w.heap[b]? = some (.map ms clock)) (hp : es.Perm es') (hE : ERels V w es' ms.toList) (hst : MapKept.Stamped ms clock) : ObjRel V w (.tup es) b := by
  unfold ObjRel
  split
  · rename_i e; cases e
  · rename_i s pos e; simp only [DVal.tup.injEq] at e; subst e; exact absurd (hp.subset (List.mem_cons_self (a := DVal.str s))) (hE.notStr s)
  · rename_i e; simp only [DVal.tup.injEq] at e; subst e; exact ⟨ms, clock, es', h, hp, hE, hst⟩
  · rename_i e; cases e
  · rename_i e; cases e
  · rename_i e; cases e
  · rename_i e; cases e
  · rename_i h1 h2 h3 h4 h5 h6 h7; exact h3 _ rfl
theorem heap_push_old (w : World) (o : Obj) {b : Nat} (h : b < w.heap.size) : (w.alloc o).heap[b]? = w.heap[b]? := heap_alloc_old w o h
theorem cell_push_old (w : World) (o : Obj) {b : Nat} (n : Nat) (h : b < w.heap.size) : (w.alloc o).cell? ⟨b, n, none⟩ = w.cell? ⟨b, n, none⟩ :=
  World.cell?_of_block (heap_push_old w o h)
theorem Inv.imm_lt {V : Vw} {L : Nat → Nat × DVal} {σ : Sto} {w : World} (h : Inv V L σ w) {b n : Nat} (hi : V.imm b n) : b < w.heap.size := by
  rcases hi with ⟨h1, -⟩ | ⟨h1, h2⟩
  · have := h.hB; omega
  · refine (h.tag b ?_).2
    rcases h2 with h2 | ⟨h2, -⟩ <;> omega
theorem Inv.push {V : Vw} {L : Nat → Nat × DVal} {σ : Sto} {w : World} (h : Inv V L σ w) (o : Obj) (V' : Vw) (t : Nat × Nat)
    (hB : V'.B = V.B) (hI0 : V'.I0 = V.I0) (htag : V'.tag = upd V.tag w.heap.size t) (hfr : ∀ g, g < V.ntok → V'.fr g = V.fr g)
    (hnobj : V.nobj ≤ V'.nobj) (hphi : ∀ id, id < V.nobj → V'.phi id = V.phi id) (hntok : V.ntok ≤ V'.ntok) (htb : ∀ g, g < V.ntok → V'.tb g = V.tb g)
    (hep : ∀ r, V.ep r ≤ V'.ep r) (hlam : ∀ r, 0 < V.ep r → V'.ep r = V.ep r → V'.lam r = V.lam r) : Adv V w V' (w.alloc o) where
  ei b n hi := by
    have hlt := h.imm_lt hi
    refine ⟨?_, cell_push_old w o n hlt⟩
    have hne : b ≠ w.heap.size := by omega
    rcases hi with ⟨h1, h2⟩ | ⟨h1, h2⟩
    · exact .inl ⟨by rw [hB]; exact h1, by rw [hI0]; exact h2⟩
    · refine .inr ⟨by rw [hB]; exact h1, ?_⟩
      rw [htag]
      simp only [upd, hne, if_false]
      rcases h2 with h2 | ⟨h2, h3⟩
      · exact .inl h2
      · exact .inr ⟨h2, by rw [hfr _ (h.tag4 b h2)]; exact h3⟩
  er := ⟨hnobj, hphi, hntok, fun g hg => by rw [hfr g hg]; exact Nat.le_refl _, fun g hg _ => ⟨htb g hg, fun c el hc => by
      refine ⟨c, ?_, rfl⟩
      rw [heap_push_old w o (Array.getElem?_eq_some_iff.1 hc).1]
      exact hc⟩, fun b c el hc => ⟨c, by rw [heap_push_old w o (Array.getElem?_eq_some_iff.1 hc).1]; exact hc, rfl⟩⟩
  el := ⟨hep, hlam⟩
  B := hB
  zero b hb h0 := by rw [htag]; simp only [upd]; rw [if_neg (by omega)]; exact h0
  frame b hb _ := heap_push_old w o hb
  size := by simp
  os := rfl
  tape := rfl
  output := rfl
  I0 := hI0
theorem Inv.drew {V : Vw} {L : Nat → Nat × DVal} {σ : Sto} {w : World} (h : Inv V L σ w) {w' : World} (hh : w'.heap = w.heap) (ho : w'.os = w.os) (ht : w'.tape = w.tape) (hp : w'.output = w.output) :
    Adv V w V w' ∧ Inv V L σ w' := by
  have hc : ∀ b n, w'.cell? ⟨b, n, none⟩ = w.cell? ⟨b, n, none⟩ := fun b n => World.cell?_of_block (by rw [hh])
  have hI : ExtI V w V w' := fun b n hi => ⟨hi, hc b n⟩
  have hR : ExtS V w V w' := ⟨Nat.le_refl _, fun _ _ => rfl, Nat.le_refl _, fun _ _ => Nat.le_refl _, fun _ _ _ => ⟨rfl, fun c el h => ⟨c, by rw [hh]; exact h, rfl⟩⟩, fun _ c _ h => ⟨c, by rw [hh]; exact h, rfl⟩⟩
  have hQ : Quiet V w V w' σ := fun m _ _ _ _ => ⟨by rw [hh], rfl⟩
  refine ⟨⟨hI, hR, .refl V, rfl, fun _ _ h => h, fun b _ _ => by rw [hh], by rw [hh]; exact Nat.le_refl _, ho, ht, hp, rfl⟩, ?_⟩
  exact { h with
    hB := by rw [hh]; exact h.hB
    tag := fun b hb => by rw [hh]; exact h.tag b hb
    root := fun r hr => ⟨(h.root r hr).1, (h.root r hr).2.ext hI hR (h.hrt r hr) (by rw [hh])⟩
    obj := fun id hid => ⟨(h.obj id hid).1, .quiet h hid hI hR hQ (by rw [hh])⟩
    tok := fun g hg => by rw [hh]; exact h.tok g hg }
theorem Inv.root_lt {V : Vw} {L : Nat → Nat × DVal} {σ : Sto} {w : World} (h : Inv V L σ w) {r : Nat} (hr : 0 < V.ep r) : V.lam r < w.heap.size := (h.root r hr).2.lt
theorem Inv.obj_lt {V : Vw} {L : Nat → Nat × DVal} {σ : Sto} {w : World} (h : Inv V L σ w) {id : Nat} (hr : id < V.nobj) : V.phi id < w.heap.size := (h.obj id hr).2.lt
theorem Inv.tok_lt {V : Vw} {L : Nat → Nat × DVal} {σ : Sto} {w : World} (h : Inv V L σ w) {g : Nat} (hr : g < V.ntok) : V.tb g < w.heap.size := by
  obtain ⟨-, c, el, h1, -⟩ := h.tok g hr
  exact (Array.getElem?_eq_some_iff.1 h1).1
theorem Inv.objExt {V : Vw} {L : Nat → Nat × DVal} {σ : Sto} {w : World} (h : Inv V L σ w) {q : Nat} (hq : q < V.nobj) {V' : Vw} {w' : World} (ha : Adv V w V' w') (hQ : Quiet V w V' w' σ) (hh : σ.obj q ≠ .undef → w'.heap[V.phi q]? = w.heap[V.phi q]?) : ObjRel V' w' (σ.obj q) (V.phi q) := by
  by_cases hu : σ.obj q = .undef
  · have := (h.obj q hq).2
    rw [hu] at this ⊢
    exact Nat.lt_of_lt_of_le this ha.size
  · exact .quiet h hq ha.ei ha.er hQ (hh hu)
theorem Inv.quietPush {V V' : Vw} {L : Nat → Nat × DVal} {σ : Sto} {w : World} (h : Inv V L σ w) (o : Obj) {t : Nat × Nat} (htag : V'.tag = upd V.tag w.heap.size t) : Quiet V w V' (w.alloc o) σ := fun m hm _ _ _ => by
  have := h.obj_lt hm
  exact ⟨heap_push_old w o this, by rw [htag]; simp only [upd]; rw [if_neg (by omega)]⟩
theorem Inv.pushed {V : Vw} {L L' : Nat → Nat × DVal} {σ σ' : Sto} {w : World} (h : Inv V L σ w) (o : Obj) (V' : Vw) (t : Nat × Nat) (ha : Adv V w V' (w.alloc o)) (hf2 : t.1 = 2 → ∀ m c, (L' t.2).2 ≠ .func m c) (hf3 : t.1 = 3 → ∀ m c, σ'.obj t.2 ≠ .func m c)
    (htag : V'.tag = upd V.tag w.heap.size t) (ht4 : t.1 = 4 → t.2 < V'.ntok)
    (hep : ∀ r, V'.ep r = (L' r).1) (hroot : ∀ r, 0 < V'.ep r → (V'.lam r = w.heap.size ∧ t = (2, r) ∧ ObjRel V' (w.alloc o) (L' r).2 w.heap.size) ∨ (0 < V.ep r ∧ V'.lam r = V.lam r ∧ L' r = L r))
    (hnobj : V'.nobj = σ'.nobj) (hobj : ∀ id, id < V'.nobj → (V'.phi id = w.heap.size ∧ t = (3, id) ∧ ObjRel V' (w.alloc o) (σ'.obj id) w.heap.size) ∨ (id < V.nobj ∧ V'.phi id = V.phi id ∧ σ'.obj id = σ.obj id))
    (hntok : V'.ntok = σ'.ntok) (hfr : V'.fr = σ'.fr)
    (htok : ∀ g, g < V'.ntok → (V'.tb g = w.heap.size ∧ t = (4, g) ∧ ∃ c el, o = .cells c el (0, 0) ∧ V'.fr g ≤ c.size) ∨ (g < V.ntok ∧ V'.tb g = V.tb g ∧ V'.fr g = V.fr g)) : Inv V' L' σ' (w.alloc o) where
  hB := by rw [ha.B]; have := h.hB; simp; omega
  tag b hb := by
    rw [htag] at hb
    rw [ha.B]
    simp only [upd] at hb
    simp only [World.size_alloc]
    split at hb
    · have := h.hB; omega
    · have := h.tag b hb; omega
  ep := hep
  root r hr := by
    rcases hroot r hr with ⟨h1, h2, h3⟩ | ⟨h1, h2, h3⟩
    · rw [h1, htag]; exact ⟨by simp [upd, h2], h3⟩
    · have hl := h.root_lt h1
      rw [h2, h3, htag]
      refine ⟨by simp only [upd]; rw [if_neg (by omega)]; exact (h.root r h1).1, (h.root r h1).2.ext ha.ei ha.er (h.hrt r h1) (heap_push_old w o hl)⟩
  nobj := hnobj
  obj id hid := by
    rcases hobj id hid with ⟨h1, h2, h3⟩ | ⟨h1, h2, h3⟩
    · rw [h1, htag]; exact ⟨fun _ => by simp [upd, h2], h3⟩
    · have hl := h.obj_lt h1
      rw [h2, h3, htag]
      refine ⟨fun hne => by simp only [upd]; rw [if_neg (by omega)]; exact (h.obj id h1).1 hne, .quiet h h1 ha.ei ha.er (h.quietPush o htag) (heap_push_old w o hl)⟩
  ntok := hntok
  fr := hfr
  tag4 b hb := by
    rw [htag] at hb ⊢
    simp only [upd] at hb ⊢
    split at hb
    · rename_i e
      simp only [e, if_true]
      exact ht4 hb
    · rename_i e
      simp only [e, if_false]
      exact Nat.lt_of_lt_of_le (h.tag4 b hb) ha.er.ntok
  tok g hg := by
    rcases htok g hg with ⟨h1, h2, c, el, h3, h4⟩ | ⟨h1, h2, h3⟩
    · rw [h1, htag]; exact ⟨by simp [upd, h2], c, el, by rw [heap_alloc_new, h3], h4⟩
    · have hl := h.tok_lt h1
      obtain ⟨k1, c, el, k2, k3⟩ := h.tok g h1
      rw [h2, h3, htag]
      refine ⟨by simp only [upd]; rw [if_neg (by omega)]; exact k1, c, el, by rw [heap_push_old w o hl]; exact k2, k3⟩
  hid q m c hq e := by
    rcases hobj q hq with ⟨-, h2, -⟩ | ⟨h1, h2, h3⟩
    · subst h2
      exact absurd e (hf3 rfl m c)
    · rw [h3] at e
      have hm := ((e ▸ (h.obj q h1).2 : ObjRel V w (.func m c) (V.phi q))).func_at.1
      rcases hobj m (Nat.lt_of_lt_of_le hm ha.er.nobj) with ⟨k1, -, -⟩ | ⟨-, -, k3⟩
      · have := h.obj_lt hm
        rw [ha.er.phi m hm] at k1
        omega
      · rw [k3]; exact h.hid q m c h1 e
  hrt r hr m c := by
    rcases hroot r hr with ⟨-, h2, -⟩ | ⟨h1, -, h3⟩
    · subst h2
      exact hf2 rfl m c
    · rw [h3]; exact h.hrt r h1 m c
theorem Inv.newImm {V : Vw} {L : Nat → Nat × DVal} {σ : Sto} {w : World} (h : Inv V L σ w) (o : Obj) :
    Adv V w { V with tag := upd V.tag w.heap.size (1, 0) } (w.alloc o) ∧ Inv { V with tag := upd V.tag w.heap.size (1, 0) } L σ (w.alloc o) := by
  have ha := h.push o { V with tag := upd V.tag w.heap.size (1, 0) } (1, 0) rfl rfl rfl (fun _ _ => rfl) (Nat.le_refl _) (fun _ _ => rfl) (Nat.le_refl _) (fun _ _ => rfl) (fun _ => Nat.le_refl _) (fun _ _ _ => rfl)
  exact ⟨ha, h.pushed o _ (1, 0) ha (fun e => by simp at e) (fun e => by simp at e) rfl (fun e => by simp at e) h.ep (fun r hr => .inr ⟨hr, rfl, rfl⟩) h.nobj (fun id hid => .inr ⟨hid, rfl, rfl⟩) h.ntok h.fr (fun g hg => .inr ⟨hg, rfl, rfl⟩)⟩
theorem Inv.newRoot {V : Vw} {L : Nat → Nat × DVal} {σ : Sto} {w : World} (h : Inv V L σ w) (r : Nat) (o : Obj) (d : DVal)
    (ho : ∀ V' w', Adv V w V' w' → w'.heap[w.heap.size]? = some o → ObjRel V' w' d w.heap.size) (hf : ∀ m c, d ≠ .func m c := by intro m c hh; cases hh) :
    ∃ V', Adv V w V' (w.alloc o) ∧ Inv V' (upd L r ((L r).1 + 1, d)) σ (w.alloc o) ∧ VRel V' (w.alloc o) 0 (.loc r ((L r).1 + 1) 0) (.pointer (some ⟨w.heap.size, 0, none⟩)) := by
  have he := h.ep r
  have ha := h.push o { V with tag := upd V.tag w.heap.size (2, r), lam := upd V.lam r w.heap.size, ep := upd V.ep r (V.ep r + 1) } (2, r) rfl rfl rfl (fun _ _ => rfl) (Nat.le_refl _) (fun _ _ => rfl) (Nat.le_refl _) (fun _ _ => rfl)
    (fun q => by simp only [upd]; split <;> simp_all) (fun q h0 hq => by simp only [upd] at hq ⊢; split <;> simp_all)
  refine ⟨_, ha, h.pushed o _ (2, r) ha (fun _ => by simpa [upd] using hf) (fun e => by simp at e) rfl (fun e => by simp at e) ?_ ?_ h.nobj (fun id hid => .inr ⟨hid, rfl, rfl⟩) h.ntok h.fr (fun g hg => .inr ⟨hg, rfl, rfl⟩), ?_⟩
  · intro q
    simp only [upd]
    split
    · rw [he]
    · exact h.ep q
  · intro q hq
    simp only [upd] at hq ⊢
    by_cases e : q = r
    · subst e
      simp only [if_true]
      exact .inl ⟨by trivial, by trivial, ho _ _ ha (heap_alloc_new w o)⟩
    · simp only [e, if_false] at hq ⊢
      exact .inr ⟨hq, by trivial, by trivial⟩
  · simp only [VRel, upd, if_true]
    exact ⟨trivial, by omega, by rw [he]; exact Nat.le_refl _, _, rfl, fun _ => rfl⟩
theorem Inv.newObj {V : Vw} {L : Nat → Nat × DVal} {σ : Sto} {w : World} (h : Inv V L σ w) (o : Obj) (d : DVal)
    (ho : ∀ V' w', Adv V w V' w' → w'.heap[w.heap.size]? = some o → ObjRel V' w' d w.heap.size) (hf : ∀ m c, d ≠ .func m c := by intro m c hh; cases hh) :
    ∃ V', Adv V w V' (w.alloc o) ∧ Inv V' L { σ with nobj := σ.nobj + 1, obj := upd σ.obj σ.nobj d } (w.alloc o) ∧ V'.nobj = σ.nobj + 1 ∧ V'.phi σ.nobj = w.heap.size := by
  have he := h.nobj
  have ha := h.push o { V with tag := upd V.tag w.heap.size (3, σ.nobj), phi := upd V.phi σ.nobj w.heap.size, nobj := σ.nobj + 1 } (3, σ.nobj) rfl rfl rfl (fun _ _ => rfl) (by rw [he]; exact Nat.le_succ _)
    (fun id hid => by simp only [upd]; rw [if_neg (by omega)]) (Nat.le_refl _) (fun _ _ => rfl) (fun _ => Nat.le_refl _) (fun _ _ _ => rfl)
  refine ⟨_, ha, h.pushed o _ (3, σ.nobj) ha (fun e => by simp at e) (fun _ => by simpa [upd] using hf) rfl (fun e => by simp at e) h.ep (fun r hr => .inr ⟨hr, rfl, rfl⟩) rfl ?_ h.ntok h.fr (fun g hg => .inr ⟨hg, rfl, rfl⟩), rfl, by simp [upd]⟩
  intro id hid
  simp only [upd] at hid ⊢
  by_cases e : id = σ.nobj
  · subst e
    simp only [if_true]
    exact .inl ⟨by trivial, by trivial, ho _ _ ha (heap_alloc_new w o)⟩
  · simp only [e, if_false]
    exact .inr ⟨by have : id < σ.nobj + 1 := hid; omega, by trivial, by trivial⟩
theorem Inv.newTok {V : Vw} {L : Nat → Nat × DVal} {σ : Sto} {w : World} (h : Inv V L σ w) (c : Array Value) (el : TypeId) (n : Nat) (hn : n ≤ c.size) :
    ∃ V', Adv V w V' (w.alloc (.cells c el)) ∧ Inv V' L { σ with ntok := σ.ntok + 1, fr := upd σ.fr σ.ntok n } (w.alloc (.cells c el)) ∧ V'.ntok = σ.ntok + 1 ∧ V'.tb σ.ntok = w.heap.size ∧ V'.fr = upd V.fr σ.ntok n ∧ V'.tag = upd V.tag w.heap.size (4, σ.ntok) := by
  have he := h.ntok
  have ha := h.push (.cells c el) { V with tag := upd V.tag w.heap.size (4, σ.ntok), tb := upd V.tb σ.ntok w.heap.size, ntok := σ.ntok + 1, fr := upd V.fr σ.ntok n } (4, σ.ntok) rfl rfl rfl
    (fun g hg => by simp only [upd]; rw [if_neg (by omega)]) (Nat.le_refl _) (fun _ _ => rfl) (by rw [he]; exact Nat.le_succ _)
    (fun g hg => by simp only [upd]; rw [if_neg (by omega)]) (fun _ => Nat.le_refl _) (fun _ _ _ => rfl)
  refine ⟨_, ha, h.pushed (.cells c el) _ (4, σ.ntok) ha (fun e => by simp at e) (fun e => by simp at e) rfl (fun _ => Nat.lt_succ_self _) h.ep (fun r hr => .inr ⟨hr, rfl, rfl⟩) h.nobj (fun id hid => .inr ⟨hid, rfl, rfl⟩) rfl (by rw [h.fr]) ?_, rfl, by simp [upd], rfl, rfl⟩
  intro g hg
  simp only [upd] at hg ⊢
  by_cases e : g = σ.ntok
  · subst e
    simp only [if_true]
    exact .inl ⟨by trivial, by trivial, c, el, rfl, hn⟩
  · simp only [e, if_false]
    exact .inr ⟨by have : g < σ.ntok + 1 := hg; omega, by trivial, by trivial⟩
structure Upd1 (w w' : World) (b : Nat) : Prop where
  other : ∀ k, k ≠ b → w'.heap[k]? = w.heap[k]?
  size : w'.heap.size = w.heap.size
  os : w'.os = w.os
  tape : w'.tape = w.tape
  output : w'.output = w.output
def SameSz (w w' : World) (b : Nat) : Prop := ∀ c el, w.heap[b]? = some (.cells c el (0, 0)) → ∃ c', w'.heap[b]? = some (.cells c' el (0, 0)) ∧ c'.size = c.size
theorem SameSz.setRow {w : World} {b : Nat} {c : Array Value} (hs : ∀ cur el, w.heap[b]? = some (.cells cur el (0, 0)) → c.size = cur.size) : SameSz w (w.setRow b c) b :=
  fun cur el hc => ⟨c, setRow_heap w b cur c el (0, 0) hc, hs cur el hc⟩
theorem SameSz.noCells {w w' : World} {b : Nat} {o : Obj} (ho : w.heap[b]? = some o) (hn : ∀ c el f, o ≠ .cells c el f) : SameSz w w' b :=
  fun cur el hc => by rw [ho] at hc; exact absurd (Option.some.inj hc) (hn _ _ _)
theorem Upd1.setRow (w : World) (b : Nat) (c : Array Value) : Upd1 w (w.setRow b c) b :=
  ⟨fun k hk => setRow_other w b k c hk, by simp [World.setRow], rfl, rfl, rfl⟩
theorem Upd1.cell {w w' : World} {b0 : Nat} (h : Upd1 w w' b0) {b : Nat} (hb : b ≠ b0) (n : Nat) : w'.cell? ⟨b, n, none⟩ = w.cell? ⟨b, n, none⟩ :=
  World.cell?_of_block (h.other b hb)
theorem Inv.atBlock {V : Vw} {L : Nat → Nat × DVal} {σ : Sto} {w w' : World} (h : Inv V L σ w) {b0 : Nat} (ht : (V.tag b0).1 = 2 ∨ (V.tag b0).1 = 3) (hw : Upd1 w w' b0) (hz : SameSz w w' b0) : Adv V w V w' where
  ei b n hi := by
    refine ⟨hi, hw.cell ?_ n⟩
    rintro rfl
    rcases hi with ⟨h1, -⟩ | ⟨-, h2⟩
    · have := (h.tag b (by omega)).1; omega
    · rcases h2 with h2 | ⟨h2, -⟩ <;> omega
  er := ⟨Nat.le_refl _, fun _ _ => rfl, Nat.le_refl _, fun _ _ => Nat.le_refl _, fun g hg _ => ⟨rfl, fun c el hc => by
      refine ⟨c, ?_, rfl⟩
      rw [hw.other _ (fun e => by have := (h.tok g hg).1; rw [e] at this; rw [this] at ht; simp at ht)]
      exact hc⟩, fun b c el hc => by
      by_cases e : b = b0
      · subst e; exact hz c el hc
      · exact ⟨c, by rw [hw.other _ e]; exact hc, rfl⟩⟩
  el := .refl V
  B := rfl
  zero _ _ h0 := h0
  frame b hb h0 := hw.other b (fun e => by subst e; omega)
  size := by rw [hw.size]; exact Nat.le_refl _
  os := hw.os
  tape := hw.tape
  output := hw.output
  I0 := rfl
theorem Inv.setRoot {V : Vw} {L : Nat → Nat × DVal} {σ : Sto} {w w' : World} (h : Inv V L σ w) {r : Nat} (hr : 0 < V.ep r) (hw : Upd1 w w' (V.lam r)) (hz : SameSz w w' (V.lam r)) {d : DVal} (hd : ObjRel V w' d (V.lam r)) (hf : ∀ m c, d ≠ .func m c := by intro m c hh; cases hh) :
    Adv V w V w' ∧ Inv V (upd L r ((L r).1, d)) σ w' := by
  have ht := (h.root r hr).1
  have ha := h.atBlock (b0 := V.lam r) (.inl (by rw [ht])) hw hz
  refine ⟨ha, { h with hB := by rw [hw.size]; exact h.hB, tag := fun b hb => by rw [hw.size]; exact h.tag b hb, ep := fun q => ?_, root := fun q hq => ?_, obj := fun id hid => ⟨(h.obj id hid).1, h.objExt hid ha (fun m _ _ htm _ => ⟨hw.other _ (fun e => by rw [e, ht] at htm; simp at htm), rfl⟩) fun hne => hw.other _ fun e => ?_⟩, tok := fun g hg => ?_, hrt := fun q hq m c => ?_ }⟩
  · simp only [upd]
    split
    · rename_i e; rw [e]; exact h.ep r
    · exact h.ep q
  · refine ⟨(h.root q hq).1, ?_⟩
    simp only [upd]
    split
    · rename_i e; rw [e]; exact hd
    · rename_i e
      refine (h.root q hq).2.ext ha.ei ha.er (h.hrt q hq) (hw.other _ fun e' => ?_)
      have h1 := (h.root q hq).1
      rw [e', ht] at h1
      simp at h1
      exact e h1.symm
  · have h1 := (h.obj id hid).1 hne
    rw [e, ht] at h1
    simp at h1
  · obtain ⟨k1, c, el, k2, k3⟩ := h.tok g hg
    refine ⟨k1, c, el, ?_, k3⟩
    rw [hw.other _ fun e => ?_]
    · exact k2
    · rw [e, ht] at k1
      simp at k1
  · simp only [upd]
    split
    · exact hf m c
    · exact h.hrt q hq m c
theorem Inv.setObj {V : Vw} {L : Nat → Nat × DVal} {σ : Sto} {w w' : World} (h : Inv V L σ w) {id : Nat} (hr : id < V.nobj) (hne1 : σ.obj id ≠ .undef ∧ ∀ q x, σ.obj id ≠ .iface q x) (hw : Upd1 w w' (V.phi id)) (hz : SameSz w w' (V.phi id)) {d : DVal} (hd : ObjRel V w' d (V.phi id)) (hf : ∀ m c, d = .func m c → σ.obj m = .iface id .undef := by intro m c hh; cases hh) :
    Adv V w V w' ∧ Inv V L { σ with obj := upd σ.obj id d } w' := by
  have hne0 := hne1.1
  have ht := (h.obj id hr).1 hne0
  have ha := h.atBlock (b0 := V.phi id) (.inr (by rw [ht])) hw hz
  refine ⟨ha, { h with hB := by rw [hw.size]; exact h.hB, tag := fun b hb => by rw [hw.size]; exact h.tag b hb, root := fun q hq => ⟨(h.root q hq).1, (h.root q hq).2.ext ha.ei ha.er (h.hrt q hq) (hw.other _ fun e => ?_)⟩, obj := fun q hq => ?_, tok := fun g hg => ?_, hid := fun q m c hq e => ?_ }⟩
  · have h1 := (h.root q hq).1
    rw [e, ht] at h1
    simp at h1
  · simp only [upd]
    split
    · rename_i e; rw [e]; exact ⟨fun _ => ht, hd⟩
    · rename_i e
      refine ⟨(h.obj q hq).1, h.objExt hq ha (fun m hm hdead htm _ => ⟨hw.other _ (fun e => by rw [e, ht] at htm; simp at htm; subst htm; obtain ⟨q, hdead⟩ := hdead; exact hne1.2 _ _ hdead), rfl⟩) fun hne => hw.other _ fun e' => ?_⟩
      have h1 := (h.obj q hq).1 hne
      rw [e', ht] at h1
      simp at h1
      exact e h1.symm
  · obtain ⟨k1, c, el, k2, k3⟩ := h.tok g hg
    refine ⟨k1, c, el, ?_, k3⟩
    rw [hw.other _ fun e => ?_]
    · exact k2
    · rw [e, ht] at k1
      simp at k1
  · have key : σ.obj m = .iface q .undef := by
      simp only [upd] at e
      split at e
      · rename_i e1; rw [e1]; exact hf m c e
      · exact h.hid q m c hq e
    simp only [upd]
    split
    · rename_i e2; rw [e2] at key; exact absurd key (hne1.2 _ _)
    · exact key
theorem Inv.kill {V : Vw} {L : Nat → Nat × DVal} {σ : Sto} {w : World} (h : Inv V L σ w) (id : Nat) (hni : ∀ q x, σ.obj id ≠ .iface q x) : Inv V L { σ with obj := upd σ.obj id .undef } w := by
  have key : ∀ q, q < V.nobj → (upd σ.obj id .undef q ≠ .undef → V.tag (V.phi q) = (3, q)) ∧ ObjRel V w (upd σ.obj id .undef q) (V.phi q) := by
    intro q hq
    simp only [upd]
    split
    · exact ⟨fun hne => absurd rfl hne, h.obj_lt hq⟩
    · exact h.obj q hq
  refine { h with obj := key, hid := fun q m c hq e => ?_ }
  simp only [upd] at e ⊢
  split at e
  · cases e
  · have key := h.hid q m c hq e
    split
    · rename_i e2; rw [e2] at key; exact absurd key (hni _ _)
    · exact key
theorem Inv.adopt {V : Vw} {L : Nat → Nat × DVal} {σ : Sto} {w w' : World} (h : Inv V L σ w) {id : Nat} (hid : id < V.nobj) (ht : V.tag (V.phi id) = (3, id)) (hdead : σ.obj id = .undef) (hw : Upd1 w w' (V.phi id)) (hz : SameSz w w' (V.phi id)) {d : DVal}
    (hd : ∀ V', Adv V w V' w' → ObjRel V' w' d (V.phi id)) (hnm : ∀ ms c, w.heap[V.phi id]? ≠ some (.map ms c)) (hf : ∀ m c, d ≠ .func m c := by intro m c hh; cases hh) : ∃ V', Adv V w V' w' ∧ Inv V' L { σ with nobj := σ.nobj + 1, obj := upd σ.obj σ.nobj d } w' ∧ V'.nobj = σ.nobj + 1 ∧ V'.phi σ.nobj = V.phi id := by
  have he := h.nobj
  let V' : Vw := { V with tag := upd V.tag (V.phi id) (3, σ.nobj), phi := upd V.phi σ.nobj (V.phi id), nobj := σ.nobj + 1 }
  have htag : ∀ b, b ≠ V.phi id → V'.tag b = V.tag b := fun b hb => by simp only [V', upd]; rw [if_neg hb]
  have hphi : ∀ q, q < V.nobj → V'.phi q = V.phi q := fun q hq => by simp only [V', upd]; rw [if_neg (by omega)]
  have ha : Adv V w V' w' := by
    refine ⟨fun b n hi => ?_, ⟨by show V.nobj ≤ σ.nobj + 1; omega, hphi, Nat.le_refl _, fun _ _ => Nat.le_refl _, fun g hg _ => ⟨rfl, fun c el hc => ⟨c, ?_, rfl⟩⟩, fun b c el hc => ?_⟩, ⟨fun _ => Nat.le_refl _, fun _ _ _ => rfl⟩, rfl, fun b _ h0 => ?_, fun b hb h0 => hw.other b (fun e => ?_), by rw [hw.size]; exact Nat.le_refl _, hw.os, hw.tape, hw.output, rfl⟩
    · have hne : b ≠ V.phi id := by
        rintro rfl
        rcases hi with ⟨h1, -⟩ | ⟨-, h2⟩
        · have := (h.tag (V.phi id) (by rw [ht]; simp)).1; omega
        · rw [ht] at h2; simp at h2
      refine ⟨?_, hw.cell hne n⟩
      unfold Vw.imm at hi ⊢
      rw [htag b hne]
      exact hi
    · rw [hw.other _ (fun e => by have := (h.tok g hg).1; rw [e, ht] at this; simp at this)]
      exact hc
    · by_cases e : b = V.phi id
      · subst e; exact hz c el hc
      · exact ⟨c, by rw [hw.other _ e]; exact hc, rfl⟩
    · rw [htag b (fun e => by rw [e, ht] at h0; simp at h0)]
      exact h0
    · rw [e, ht] at h0; simp at h0
  have hQ : Quiet V w V' w' σ := fun m hm _ _ hmap => by
    obtain ⟨ms, c, hmap⟩ := hmap
    have hne : V.phi m ≠ V.phi id := fun e => hnm ms c (by rw [← e]; exact hmap)
    exact ⟨hw.other _ hne, htag _ hne⟩
  refine ⟨V', ha, ?_, rfl, by simp [V', upd]⟩
  constructor
  · show V.B ≤ _
    rw [hw.size]; exact h.hB
  · intro b hb
    show V.B ≤ b ∧ _
    rw [hw.size]
    by_cases e : b = V.phi id
    · rw [e]; exact h.tag _ (by rw [ht]; simp)
    · rw [htag b e] at hb; exact h.tag b hb
  · exact h.ep
  · intro r hr
    have h1 := (h.root r hr).1
    have hne : V.lam r ≠ V.phi id := fun e => by rw [e, ht] at h1; simp at h1
    exact ⟨by show V'.tag (V.lam r) = _; rw [htag _ hne]; exact h1, (h.root r hr).2.ext ha.ei ha.er (h.hrt r hr) (hw.other _ hne)⟩
  · rfl
  · intro q hq
    by_cases e : q = σ.nobj
    · subst e
      have e1 : V'.phi σ.nobj = V.phi id := by simp [V', upd]
      refine ⟨fun _ => by rw [e1]; simp [V', upd], ?_⟩
      rw [e1]
      simp only [upd, if_true]
      exact hd V' ha
    · have hq' : q < V.nobj := by have : q < σ.nobj + 1 := hq; omega
      rw [hphi q hq']
      simp only [upd, e, if_false]
      have hne : σ.obj q ≠ .undef → V.phi q ≠ V.phi id := fun hu e2 => by
        have h1 := (h.obj q hq').1 hu
        rw [e2, ht] at h1
        simp at h1
        subst h1
        exact hu hdead
      exact ⟨fun hu => by rw [htag _ (hne hu)]; exact (h.obj q hq').1 hu, h.objExt hq' ha hQ fun hu => hw.other _ (hne hu)⟩
  · exact h.ntok
  · exact h.fr
  · intro b hb
    have hne : b ≠ V.phi id := fun e => by rw [e] at hb; simp [V', upd] at hb
    rw [htag b hne] at hb ⊢
    exact h.tag4 b hb
  · intro g hg
    obtain ⟨k1, c, el, k2, k3⟩ := h.tok g hg
    have hne : V.tb g ≠ V.phi id := fun e => by rw [e, ht] at k1; simp at k1
    exact ⟨by show V'.tag (V.tb g) = _; rw [htag _ hne]; exact k1, c, el, by show w'.heap[V.tb g]? = _; rw [hw.other _ hne]; exact k2, k3⟩
  · intro q m c hq e
    simp only [upd] at e ⊢
    by_cases e1 : q = σ.nobj
    · subst e1
      simp only [if_true] at e
      exact absurd e (hf m c)
    · simp only [e1, if_false] at e
      have hq' : q < V.nobj := by have : q < σ.nobj + 1 := hq; omega
      have hm := (e ▸ (h.obj q hq').2 : ObjRel V w (.func m c) (V.phi q)).func_at.1
      rw [if_neg (by omega)]
      exact h.hid q m c hq' e
  · exact h.hrt
theorem Inv.extend {V : Vw} {L : Nat → Nat × DVal} {σ : Sto} {w w' : World} (h : Inv V L σ w) {g : Nat} (hg : g < V.ntok) (hw : Upd1 w w' (V.tb g)) {c c' : Array Value} {el : TypeId} (hc : w.heap[V.tb g]? = some (.cells c el (0, 0)))
    (hc' : w'.heap[V.tb g]? = some (.cells c' el (0, 0))) (hs : c'.size = c.size) (hsame : ∀ i, i < V.fr g → c'[i]? = c[i]?) {f : Nat} (hf : V.fr g ≤ f) (hfs : f ≤ c.size) :
    Adv V w { V with fr := upd V.fr g f } w' ∧ Inv { V with fr := upd V.fr g f } L { σ with fr := upd σ.fr g f } w' := by
  have ht := (h.tok g hg).1
  have hfr : ∀ q, V.fr q ≤ upd V.fr g f q := fun q => by simp only [upd]; split <;> simp_all
  have ha : Adv V w { V with fr := upd V.fr g f } w' := by
    refine ⟨fun b n hi => ⟨?_, ?_⟩, ⟨Nat.le_refl _, fun _ _ => rfl, Nat.le_refl _, fun q _ => hfr q, fun q hq _ => ⟨rfl, fun d e hd => ?_⟩, fun b cc e hcc => by
      by_cases e' : b = V.tb g
      · subst e'
        rw [hc] at hcc
        simp only [Option.some.injEq, Obj.cells.injEq] at hcc
        obtain ⟨rfl, rfl, -⟩ := hcc
        exact ⟨c', hc', hs⟩
      · exact ⟨cc, by rw [hw.other _ e']; exact hcc, rfl⟩⟩, ⟨fun _ => Nat.le_refl _, fun _ _ _ => rfl⟩, rfl, fun _ _ h0 => h0, fun b hb h0 => hw.other b (fun e => ?_), by rw [hw.size]; exact Nat.le_refl _, hw.os, hw.tape, hw.output, rfl⟩
    · rcases hi with h1 | ⟨h1, h2 | ⟨h2, h3⟩⟩
      · exact .inl h1
      · exact .inr ⟨h1, .inl h2⟩
      · exact .inr ⟨h1, .inr ⟨h2, Nat.lt_of_lt_of_le h3 (hfr _)⟩⟩
    · by_cases e : b = V.tb g
      · subst e
        rw [cell_of_row w _ _ _ _ _ hc, cell_of_row w' _ _ _ _ _ hc']
        refine hsame n ?_
        rcases hi with ⟨h1, -⟩ | ⟨-, h2 | ⟨-, h3⟩⟩
        · have := (h.tag (V.tb g) (by rw [ht]; simp)).1; omega
        · rw [ht] at h2; simp at h2
        · rw [ht] at h3; exact h3
      · exact hw.cell e n
    · by_cases e' : q = g
      · subst e'
        rw [hc] at hd
        simp only [Option.some.injEq, Obj.cells.injEq] at hd
        obtain ⟨rfl, rfl, -⟩ := hd
        exact ⟨c', hc', hs⟩
      · refine ⟨d, ?_, rfl⟩
        rw [hw.other _ fun e2 => ?_]
        · exact hd
        · have h1 := (h.tok q hq).1
          rw [e2, ht] at h1
          simp at h1
          exact e' h1.symm
    · rw [e, ht] at h0; simp at h0
  refine ⟨ha, { h with hB := by rw [hw.size]; exact h.hB, tag := fun b hb => by rw [hw.size]; exact h.tag b hb, fr := by rw [h.fr], root := fun q hq => ⟨(h.root q hq).1, (h.root q hq).2.ext ha.ei ha.er (h.hrt q hq) (hw.other _ fun e => ?_)⟩, obj := fun q hq => ⟨(h.obj q hq).1, h.objExt hq ha (fun m _ _ htm _ => ⟨hw.other _ (fun e => by rw [e, ht] at htm; simp at htm), rfl⟩) fun hne => hw.other _ fun e => ?_⟩, tok := fun q hq => ?_ }⟩
  · have h1 := (h.root q hq).1
    rw [e, ht] at h1
    simp at h1
  · have h1 := (h.obj q hq).1 hne
    rw [e, ht] at h1
    simp at h1
  · obtain ⟨k1, d, e, k2, k3⟩ := h.tok q hq
    refine ⟨k1, ?_⟩
    by_cases e' : q = g
    · subst e'
      exact ⟨c', el, hc', by simp only [upd, if_true]; omega⟩
    · refine ⟨d, e, ?_, by simp only [upd, e', if_false]; exact k3⟩
      show w'.heap[V.tb q]? = _
      rw [hw.other _ fun e2 => ?_]
      · exact k2
      · rw [e2, ht] at k1
        simp at k1
        exact e' k1.symm
theorem Inv.regrow {V : Vw} {L : Nat → Nat × DVal} {σ : Sto} {w : World} (h : Inv V L σ w) {g : Nat} (hg : g < V.ntok) (c : Array Value) (el : TypeId) {f : Nat} (hf : V.fr g < f) (hfs : f ≤ c.size) :
    ∃ V', Adv V w V' (w.alloc (.cells c el)) ∧ Inv V' L { σ with fr := upd σ.fr g f } (w.alloc (.cells c el)) ∧ V'.ntok = V.ntok ∧ V'.tb g = w.heap.size ∧ V'.fr g = f ∧ V'.tag w.heap.size = (4, g) ∧ V'.B = V.B := by
  have ht := (h.tok g hg).1
  have hlt := h.tok_lt hg
  let V' : Vw := { V with tag := upd (upd V.tag (V.tb g) (1, 0)) w.heap.size (4, g), tb := upd V.tb g w.heap.size, fr := upd V.fr g f }
  have hfr : ∀ q, V.fr q ≤ V'.fr q := fun q => by simp only [V', upd]; split <;> simp_all <;> omega
  have ho : ∀ b, b < w.heap.size → (w.alloc (.cells c el)).heap[b]? = w.heap[b]? := fun b hb => heap_push_old w _ hb
  have htag : ∀ b, b < w.heap.size → b ≠ V.tb g → V'.tag b = V.tag b := fun b hb hne => by simp only [V', upd]; rw [if_neg (by omega), if_neg hne]
  have ha : Adv V w V' (w.alloc (.cells c el)) := by
    refine ⟨fun b n hi => ⟨?_, cell_push_old w _ n (h.imm_lt hi)⟩, ⟨Nat.le_refl _, fun _ _ => rfl, Nat.le_refl _, fun q _ => hfr q, fun q hq e => ?_, fun b cc x hcc => ⟨cc, by rw [ho _ (Array.getElem?_eq_some_iff.1 hcc).1]; exact hcc, rfl⟩⟩, ⟨fun _ => Nat.le_refl _, fun _ _ _ => rfl⟩, rfl, fun b hb h0 => ?_, fun b hb _ => ho b hb, by simp, rfl, rfl, rfl, rfl⟩
    · have hb := h.imm_lt hi
      by_cases e : b = V.tb g
      · subst e
        refine .inr ⟨(h.tag (V.tb g) (by rw [ht]; simp)).1, .inl ?_⟩
        simp only [V', upd]
        rw [if_neg (by omega)]
        simp
      · rcases hi with h1 | ⟨h1, h2 | ⟨h2, h3⟩⟩
        · exact .inl h1
        · exact .inr ⟨h1, .inl (by rw [htag b hb e]; exact h2)⟩
        · exact .inr ⟨h1, .inr ⟨by rw [htag b hb e]; exact h2, by rw [htag b hb e]; exact Nat.lt_of_lt_of_le h3 (hfr _)⟩⟩
    · have hne : q ≠ g := by rintro rfl; simp only [V', upd, if_true] at e; omega
      refine ⟨by simp only [V', upd, hne, if_false], fun d x hd => ⟨d, ?_, rfl⟩⟩
      rw [ho _ (Array.getElem?_eq_some_iff.1 hd).1]
      exact hd
    · rw [htag b hb ?_]
      · exact h0
      · rintro rfl; rw [ht] at h0; simp at h0
  refine ⟨V', ha, ?_, rfl, by simp [V', upd], by simp [V', upd], by simp [V', upd], rfl⟩
  constructor
  · show V.B ≤ _
    have := h.hB; simp; omega
  · intro b hb
    show V.B ≤ b ∧ _
    simp only [World.size_alloc]
    simp only [V', upd] at hb
    split at hb
    · have := h.hB; omega
    · split at hb
      · rename_i e; rw [e]
        have := h.tag (V.tb g) (by rw [ht]; simp)
        omega
      · have := h.tag b hb; omega
  · exact h.ep
  · intro r hr
    have hl := h.root_lt hr
    refine ⟨?_, (h.root r hr).2.ext ha.ei ha.er (h.hrt r hr) (ho _ hl)⟩
    show V'.tag (V.lam r) = _
    rw [htag _ hl fun e => ?_]
    · exact (h.root r hr).1
    · have h1 := (h.root r hr).1
      rw [e, ht] at h1
      simp at h1
  · exact h.nobj
  · intro r hr
    have hl := h.obj_lt hr
    refine ⟨fun hne => ?_, .quiet h hr ha.ei ha.er (fun m hm _ htm _ => ⟨ho _ (h.obj_lt hm), htag _ (h.obj_lt hm) (fun e => by rw [e, ht] at htm; simp at htm)⟩) (ho _ hl)⟩
    show V'.tag (V.phi r) = _
    rw [htag _ hl fun e => ?_]
    · exact (h.obj r hr).1 hne
    · have h1 := (h.obj r hr).1 hne
      rw [e, ht] at h1
      simp at h1
  · exact h.ntok
  · show upd V.fr g f = upd σ.fr g f
    rw [h.fr]
  · intro b hb
    show (V'.tag b).2 < V.ntok
    simp only [V', upd] at hb ⊢
    split at hb
    · rename_i e; simp only [e, if_true]; exact hg
    · rename_i e
      simp only [e, if_false]
      split at hb
      · simp at hb
      · rename_i e2; simp only [e2, if_false]; exact h.tag4 b hb
  · intro q hq
    by_cases e : q = g
    · subst e
      refine ⟨by simp [V', upd], c, el, ?_, by simp only [V', upd, if_true]; exact hfs⟩
      simp only [V', upd, if_true]
      exact heap_alloc_new w _
    · have hl := h.tok_lt (g := q) hq
      obtain ⟨k1, d, x, k2, k3⟩ := h.tok q hq
      have hv : V'.tb q = V.tb q := by simp only [V', upd, e, if_false]
      rw [hv]
      refine ⟨?_, d, x, by rw [ho _ hl]; exact k2, by simp only [V', upd, e, if_false]; exact k3⟩
      rw [htag _ hl fun e2 => ?_]
      · exact k1
      · rw [e2, ht] at k1
        simp at k1
        exact e k1.symm
  · exact h.hid
  · exact h.hrt
theorem Inv.newIter {V : Vw} {L : Nat → Nat × DVal} {σ : Sto} {w : World} (h : Inv V L σ w) {m : Nat} (hm : m < V.nobj) {es es' : List DVal} {ms : Array MapEntry} {clock : Nat} (hes : σ.obj m = .tup es)
    (hh : w.heap[V.phi m]? = some (.map ms clock)) (hp : es.Perm es') (hE : ERels V w es' ms.toList) (hst : MapKept.Stamped ms clock) :
    ∃ V', Adv V w V' (w.alloc (.mapIter (some (V.phi m)) clock #[] clock)) ∧ Inv V' L { σ with nobj := σ.nobj + 1, obj := upd (upd σ.obj m (.iface σ.nobj .undef)) σ.nobj (.func m [.undef, .tup es, .tup es]) } (w.alloc (.mapIter (some (V.phi m)) clock #[] clock)) ∧ V'.nobj = σ.nobj + 1 ∧ V'.phi σ.nobj = w.heap.size := by
  have he := h.nobj
  have ht := (h.obj m hm).1 (by rw [hes]; simp)
  have hml := h.obj_lt hm
  let o : Obj := .mapIter (some (V.phi m)) clock #[] clock
  let V' : Vw := { V with tag := upd V.tag w.heap.size (3, σ.nobj), phi := upd V.phi σ.nobj w.heap.size, nobj := σ.nobj + 1 }
  have ha := h.push o V' (3, σ.nobj) rfl rfl rfl (fun _ _ => rfl) (by rw [he]; exact Nat.le_succ _)
    (fun id hid => by simp only [V', upd]; rw [if_neg (by omega)]) (Nat.le_refl _) (fun _ _ => rfl) (fun _ => Nat.le_refl _) (fun _ _ _ => rfl)
  have ho : ∀ b, b < w.heap.size → (w.alloc o).heap[b]? = w.heap[b]? := fun b hb => heap_push_old w _ hb
  have htag : ∀ b, b < w.heap.size → V'.tag b = V.tag b := fun b hb => by simp only [V', upd]; rw [if_neg (by omega)]
  have hphi : ∀ q, q < V.nobj → V'.phi q = V.phi q := fun q hq => by simp only [V', upd]; rw [if_neg (by omega)]
  refine ⟨V', ha, ?_, rfl, by simp [V', upd]⟩
  constructor
  · show V.B ≤ _
    have := h.hB; simp; omega
  · intro b hb
    show V.B ≤ b ∧ _
    simp only [World.size_alloc]
    simp only [V', upd] at hb
    split at hb
    · have := h.hB; omega
    · have := h.tag b hb; omega
  · exact h.ep
  · intro r hr
    exact ⟨by show V'.tag (V.lam r) = _; rw [htag _ (h.root_lt hr)]; exact (h.root r hr).1, (h.root r hr).2.ext ha.ei ha.er (h.hrt r hr) (ho _ (h.root_lt hr))⟩
  · rfl
  · intro q hq
    by_cases e : q = σ.nobj
    · subst e
      have e1 : V'.phi σ.nobj = w.heap.size := by simp [V', upd]
      refine ⟨fun _ => by rw [e1]; simp [V', upd], ?_⟩
      rw [e1]
      simp only [upd, if_true]
      have hempty : leftOf ms #[] = ms := by simp [leftOf]
      unfold ObjRel
      simp only
      rw [hphi m hm]
      exact ⟨by show m < σ.nobj + 1; omega, by rw [htag _ hml]; exact ht, ms, clock, clock, #[], clock, es', es', by rw [ho _ hml]; exact hh, heap_alloc_new w _, hst, hst.1, Nat.le_refl _, Nat.le_refl _, hp, hE.ext ha.ei ha.er, hp, by rw [hempty]; exact hE.ext ha.ei ha.er, .inl rfl⟩
    · have hq' : q < V.nobj := by have : q < σ.nobj + 1 := hq; omega
      have hl := h.obj_lt hq'
      rw [hphi q hq']
      simp only [upd, e, if_false]
      by_cases e2 : q = m
      · subst e2
        simp only [if_true]
        refine ⟨fun _ => by rw [htag _ hml]; exact ht, ?_⟩
        show V.phi q < (w.alloc o).heap.size
        simp; omega
      · simp only [e2, if_false]
        exact ⟨fun hu => by rw [htag _ hl]; exact (h.obj q hq').1 hu, .quiet h hq' ha.ei ha.er (h.quietPush o rfl) (ho _ hl)⟩
  · exact h.ntok
  · exact h.fr
  · intro b hb
    show (V'.tag b).2 < V.ntok
    simp only [V', upd] at hb ⊢
    split at hb
    · simp at hb
    · rename_i e; simp only [e, if_false]; exact h.tag4 b hb
  · intro g hg
    obtain ⟨k1, c, el, k2, k3⟩ := h.tok g hg
    have hl := h.tok_lt hg
    exact ⟨by show V'.tag (V.tb g) = _; rw [htag _ hl]; exact k1, c, el, by rw [ho _ hl]; exact k2, k3⟩
  · intro q m' c hq e
    simp only [upd] at e ⊢
    by_cases e1 : q = σ.nobj
    · subst e1
      simp only [if_true, DVal.func.injEq] at e
      obtain ⟨rfl, -⟩ := e
      rw [if_neg (by omega), if_pos rfl]
    · simp only [e1, if_false] at e
      split at e
      · cases e
      · have hq' : q < V.nobj := by have : q < σ.nobj + 1 := hq; omega
        have hm' := (e ▸ (h.obj q hq').2 : ObjRel V w (.func m' c) (V.phi q)).func_at.1
        rw [if_neg (by omega)]
        have key := h.hid q m' c hq' e
        split
        · rename_i e2; rw [e2, hes] at key; cases key
        · exact key
  · exact h.hrt
theorem Inv.wake {V : Vw} {L : Nat → Nat × DVal} {σ : Sto} {w : World} (h : Inv V L σ w) {iid m : Nat} (hid : iid < V.nobj) {cur : DVal} {rest all : List DVal} (hc : σ.obj iid = .func m [cur, .tup rest, .tup all]) :
    Inv V L { σ with obj := upd (upd σ.obj iid .undef) m (.tup all) } w := by
  obtain ⟨hi1, hi2⟩ := h.obj iid hid
  rw [hc] at hi2
  unfold ObjRel at hi2
  simp only at hi2
  obtain ⟨hm, htm, ms, clock, since, seen, c0, rest', all', g1, g2, g3, g4, g5, g6, g7, g8, g9, g10, g11⟩ := hi2
  have hdead := h.hid iid m _ hid hc
  have hne : m ≠ iid := fun e => by rw [e, hc] at hdead; cases hdead
  have key : ∀ q, q < V.nobj → ((upd (upd σ.obj iid .undef) m (.tup all)) q ≠ .undef → V.tag (V.phi q) = (3, q)) ∧ ObjRel V w ((upd (upd σ.obj iid .undef) m (.tup all)) q) (V.phi q) := by
    intro q hq
    simp only [upd]
    by_cases e : q = m
    · subst e
      simp only [if_true]
      exact ⟨fun _ => htm, ObjRel.ofMap g1 g7 g8 g3⟩
    · simp only [e, if_false]
      by_cases e2 : q = iid
      · subst e2
        simp only [if_true]
        exact ⟨fun hh => absurd rfl hh, h.obj_lt hq⟩
      · simp only [e2, if_false]
        exact h.obj q hq
  refine { h with obj := key, hid := fun q m' c hq e => ?_ }
  simp only [upd] at e ⊢
  split at e
  · cases e
  · split at e
    · cases e
    · rename_i e1 e2
      have h1 := h.hid q m' c hq e
      split
      · rename_i e3
        rw [e3, hdead] at h1
        simp only [DVal.iface.injEq, and_true] at h1
        exact absurd h1.symm e2
      · split
        · rename_i e3 e4
          rw [e4, hc] at h1
          cases h1
        · exact h1
end Go.Proofs.YtklepphkbbjbjaaDoor
namespace Go.Proofs.YtklepphkbbjbjaaDoor
set_option linter.unusedVariables false
set_option linter.unusedSimpArgs false
open Go
mutual
theorem VRel.lower {V : Vw} {w : World} : ∀ {d : DVal} {m n : Nat} {v : Value}, n ≤ m → VRel V w m d v → VRel V w n d v
  | .undef, _, _, _, e, h => by simp only [VRel] at h ⊢; exact ⟨by omega, h.2⟩
  | .bool _, _, _, _, _, h => by simpa only [VRel] using h
  | .int _ _, _, _, _, _, h => by simpa only [VRel] using h
  | .str _, _, _, _, _, h => by simpa only [VRel] using h
  | .nilp, _, _, _, _, h => by simpa only [VRel] using h
  | .nils, _, _, _, _, h => by simpa only [VRel] using h
  | .nilm, _, _, _, _, h => by simpa only [VRel] using h
  | .nilf, _, _, _, _, h => by simpa only [VRel] using h
  | .loc .., _, _, _, e, h => by simp only [VRel] at h ⊢; exact ⟨by omega, h.2⟩
  | .obj .., _, _, _, e, h => by simp only [VRel] at h ⊢; exact ⟨by omega, h.2⟩
  | .elem .., _, _, _, e, h => by simp only [VRel] at h ⊢; exact ⟨by omega, h.2⟩
  | .slice .., _, _, _, e, h => by
    simp only [VRel] at h ⊢
    exact ⟨h.1.elim (fun x => .inl (by omega)) .inr, h.2⟩
  | .map .., _, _, _, e, h => by simp only [VRel] at h ⊢; exact ⟨by omega, h.2⟩
  | .func .., _, _, _, e, h => by simp only [VRel] at h ⊢; exact ⟨by omega, h.2⟩
  | .nilI, _, _, _, _, h => by simpa only [VRel] using h
  | .iface t d, _, _, _, e, h => by
    simp only [VRel] at h ⊢
    obtain ⟨u, rfl, h1⟩ := h
    exact ⟨u, rfl, VRel.lower e h1⟩
  | .mslice .., _, _, _, e, h => by simp only [VRel] at h ⊢; exact ⟨by omega, h.2⟩
  | .empt, _, _, _, _, h => by simpa only [VRel] using h
  | .err, _, _, _, _, h => by simpa only [VRel] using h
  | .agg cs, _, _, _, e, h => by
    simp only [VRel] at h ⊢
    obtain ⟨vs, rfl, h1⟩ := h
    exact ⟨vs, rfl, VRels.lower e h1⟩
  | .tup cs, _, _, _, e, h => by
    simp only [VRel] at h ⊢
    obtain ⟨vs, rfl, h1⟩ := h
    exact ⟨vs, rfl, VRels.lower e h1⟩
theorem VRels.lower {V : Vw} {w : World} : ∀ {d : List DVal} {m n : Nat} {v : List Value}, n ≤ m → VRels V w m d v → VRels V w n d v
  | [], _, _, _, _, h => by simpa only [VRels] using h
  | d :: ds, _, _, _, e, h => by
    simp only [VRels] at h ⊢
    obtain ⟨v, us, rfl, h1, h2⟩ := h
    exact ⟨v, us, rfl, VRel.lower e h1, VRels.lower e h2⟩
end
theorem VRel.open' {V : Vw} {w : World} {d : DVal} {m : Nat} {v : Value} (h : VRel V w m d v) : VRel V w 0 d v := h.lower (Nat.zero_le _)
theorem VRels.open' {V : Vw} {w : World} {d : List DVal} {m : Nat} {v : List Value} (h : VRels V w m d v) : VRels V w 0 d v := h.lower (Nat.zero_le _)
theorem RowRel.lower {V : Vw} {w : World} {m n : Nat} {b : Nat} (e : n ≤ m) : ∀ {cs : List DVal} {off : Nat}, RowRel V w m b off cs → RowRel V w n b off cs
  | [], _, _ => by simp only [RowRel]
  | c :: cs, off, h => by
    simp only [RowRel] at h ⊢
    obtain ⟨h1, ⟨v, h2, h0, h3⟩, h4⟩ := h
    exact ⟨h1, ⟨v, h2, h0, h3.lower e⟩, h4.lower e⟩
theorem emode_pos (pt : Bool) : 1 ≤ emode pt := by cases pt <;> simp [emode]
theorem ofCell_rel {V : Vw} {w : World} {v : Value} {d : DVal} (h : ofCell v = some d) : VRel V w 2 d v := by
  unfold ofCell at h
  split at h <;> simp only [Option.some.injEq, reduceCtorEq] at h <;> subst h <;> simp [VRel]
theorem ofCells_rel {V : Vw} {w : World} : ∀ {vs : List Value} {ds : List DVal}, ofCells vs = some ds → VRels V w 2 ds vs
  | [], _, h => by simp only [ofCells, Option.some.injEq] at h; subst h; simp [VRels]
  | v :: vs, ds, h => by
    simp only [ofCells] at h
    split at h
    · rename_i d ds' h1 h2
      simp only [Option.some.injEq] at h
      subst h
      simp only [VRels]
      exact ⟨v, vs, rfl, ofCell_rel h1, ofCells_rel h2⟩
    · cases h
theorem ofVal_rel {V : Vw} {w : World} {v : Value} {d : DVal} (h : ofVal v = some d) : VRel V w 2 d v := by
  unfold ofVal at h
  split at h
  · rename_i cs
    simp only [Option.map_eq_some_iff] at h
    obtain ⟨ds, h1, rfl⟩ := h
    simp only [VRel]
    exact ⟨cs, rfl, ofCells_rel h1⟩
  · exact ofCell_rel h
theorem opd_rel {V : Vw} {w : World} {env : Nat → DVal} {a : Act} (he : EnvRel V w env a.tmps) {x : Operand} {o : Opd} (h : opd x = some o) : VRel V w 0 (o.val env) (a.eval x) := by
  cases x with
  | tmp t => simp only [opd, Option.some.injEq] at h; subst h; exact he t
  | const v =>
    simp only [opd, Option.map_eq_some_iff] at h
    obtain ⟨d, h1, rfl⟩ := h
    exact (ofVal_rel h1).open'
  | global g => cases h
  | func f =>
    simp only [opd, Option.some.injEq] at h
    subst h
    simp only [Opd.val, VRel, Act.eval]
    exact ⟨by omega, #[], rfl, by simp [VRels]⟩
theorem opds_rel {V : Vw} {w : World} {env : Nat → DVal} {a : Act} (he : EnvRel V w env a.tmps) : ∀ {xs : List Operand} {os : List Opd}, opds xs = some os → VRels V w 0 (os.map (Opd.val env)) (xs.map a.eval)
  | [], _, h => by simp only [opds, Option.some.injEq] at h; subst h; simp [VRels]
  | x :: xs, os, h => by
    simp only [opds] at h
    split at h
    · rename_i d ds h1 h2
      simp only [Option.some.injEq] at h
      subst h
      simp only [List.map_cons, VRels]
      exact ⟨_, _, rfl, opd_rel he h1, opds_rel he h2⟩
    · cases h
theorem plainCell_up {V : Vw} {w : World} {d : DVal} {m n : Nat} {v : Value} (h : VRel V w m d v) (hp : d.plainCell = true) : VRel V w n d v := by
  cases d <;> simp only [DVal.plainCell, reduceCtorEq, Bool.false_eq_true] at hp <;> simpa only [VRel] using h
theorem plainCells_up {V : Vw} {w : World} {m n : Nat} : ∀ {ds : List DVal} {vs : List Value}, VRels V w m ds vs → ds.all DVal.plainCell = true → VRels V w n ds vs
  | [], _, h, _ => by simpa only [VRels] using h
  | d :: ds, _, h, hp => by
    simp only [VRels] at h ⊢
    simp only [List.all_cons, Bool.and_eq_true] at hp
    obtain ⟨v, us, rfl, h1, h2⟩ := h
    exact ⟨v, us, rfl, plainCell_up h1 hp.1, plainCells_up h2 hp.2⟩
theorem plain_up {V : Vw} {w : World} {d : DVal} {m n : Nat} {v : Value} (h : VRel V w m d v) (hp : d.plain = true) : VRel V w n d v := by
  cases d with
  | agg cs =>
    simp only [DVal.plain] at hp
    simp only [VRel] at h ⊢
    obtain ⟨vs, rfl, h1⟩ := h
    exact ⟨vs, rfl, plainCells_up h1 hp⟩
  | _ => exact plainCell_up h (by simpa only [DVal.plain] using hp)
theorem sealCell_rel {V : Vw} {w : World} {d e : DVal} {v : Value} (h : VRel V w 0 d v) (hs : d.sealCell = some e) : VRel V w 2 e v := by
  by_cases hif : ∃ t x, d = .iface t x
  · obtain ⟨t, x, rfl⟩ := hif
    simp only [DVal.sealCell] at hs
    split at hs
    · rename_i hp
      simp only [Option.some.injEq] at hs
      subst hs
      simp only [VRel] at h ⊢
      obtain ⟨u, rfl, h1⟩ := h
      exact ⟨u, rfl, plain_up h1 hp⟩
    · cases hs
  unfold DVal.sealCell at hs
  split at hs <;> (try (exact absurd ⟨_, _, rfl⟩ hif)) <;> simp only [Option.some.injEq, reduceCtorEq] at hs <;> subst hs <;> simp only [VRel] at h ⊢ <;> try exact h
  obtain ⟨-, b, off, cap, rfl, h1, h2, h3⟩ := h
  refine ⟨.inr ⟨trivial, by split <;> omega⟩, b, off, cap, rfl, h1, ⟨by split <;> omega, fun e => ?_, fun e => ?_⟩, h3⟩
  · split at e
    · rename_i e'; exact h2.2.1 e'
    · cases e
  · split at e <;> omega
theorem sealCells_rel {V : Vw} {w : World} : ∀ {ds es : List DVal} {vs : List Value}, VRels V w 0 ds vs → sealCells ds = some es → VRels V w 2 es vs
  | [], _, _, h, hs => by simp only [sealCells, Option.some.injEq] at hs; subst hs; simpa only [VRels] using h
  | d :: ds, _, _, h, hs => by
    simp only [sealCells] at hs
    split at hs
    · rename_i e es h1 h2
      simp only [Option.some.injEq] at hs
      subst hs
      simp only [VRels] at h ⊢
      obtain ⟨v, us, rfl, h3, h4⟩ := h
      exact ⟨v, us, rfl, sealCell_rel h3 h1, sealCells_rel h4 h2⟩
    · cases hs
theorem sealVal_rel {V : Vw} {w : World} {d e : DVal} {v : Value} (h : VRel V w 0 d v) (hs : d.sealVal = some e) : VRel V w 2 e v := by
  cases d with
  | agg cs =>
    simp only [DVal.sealVal, Option.map_eq_some_iff] at hs
    obtain ⟨es, h1, rfl⟩ := hs
    simp only [VRel] at h ⊢
    obtain ⟨vs, rfl, h2⟩ := h
    exact ⟨vs, rfl, sealCells_rel h2 h1⟩
  | _ => exact sealCell_rel h hs
theorem sealVals_rel {V : Vw} {w : World} : ∀ {ds es : List DVal} {vs : List Value}, VRels V w 0 ds vs → sealVals ds = some es → VRels V w 2 es vs
  | [], _, _, h, hs => by simp only [sealVals, Option.some.injEq] at hs; subst hs; simpa only [VRels] using h
  | d :: ds, _, _, h, hs => by
    simp only [sealVals] at hs
    split at hs
    · rename_i e es h1 h2
      simp only [Option.some.injEq] at hs
      subst hs
      simp only [VRels] at h ⊢
      obtain ⟨v, us, rfl, h3, h4⟩ := h
      exact ⟨v, us, rfl, sealVal_rel h3 h1, sealVals_rel h4 h2⟩
    · cases hs
theorem size_mk (l : List UInt8) : (ByteArray.mk l.toArray).size = l.length := by simp [ByteArray.size]
def toV : DVal → Value
  | .int k n => .int k n
  | .bool b => .bool b
  | .str s => .string ⟨s.toArray⟩
  | _ => Go.undef
theorem binInt_run {P : Program} {V : Vw} {w : World} {op : BinOp} {k : IntKind} {a b : Int} {d : DVal} (t : TypeId) (h : binInt op k a b = some d) :
    (binOp op t (.int k a) (.int k b)).run P w = .ok (toV d) w ∧ VRel V w 0 d (toV d) := by
  cases op <;> simp only [binInt, Option.some.injEq, reduceCtorEq] at h
  case quo =>
    split at h
    · cases h
    · rename_i hb; simp only [Option.some.injEq] at h; subst h
      exact ⟨by simp [binOp, Op.intDiv, hb, toV], by simp [VRel, toV]⟩
  case rem =>
    split at h
    · cases h
    · rename_i hb; simp only [Option.some.injEq] at h; subst h
      exact ⟨by simp [binOp, Op.intDiv, hb, toV], by simp [VRel, toV]⟩
  all_goals subst h
  all_goals refine ⟨?_, by simp [VRel, toV]⟩
  all_goals first
    | (simp [binOp, Op.intArith, toV]; done)
    | (simp [binOp, Op.intCmp, toV]; done)
    | (simp [binOp, Op.intBits, intBits, toV]; done)
theorem binStr_run {P : Program} {V : Vw} {w : World} {op : BinOp} {a b : List UInt8} {d : DVal} (t : TypeId) (h : binStr op a b = some d) :
    (binOp op t (.string ⟨a.toArray⟩) (.string ⟨b.toArray⟩)).run P w = .ok (toV d) w ∧ VRel V w 0 d (toV d) := by
  cases op <;> simp only [binStr, Option.some.injEq, reduceCtorEq] at h
  case add =>
    split at h
    · rename_i hl
      simp only [Option.some.injEq] at h
      subst h
      refine ⟨?_, by simp [VRel, toV]⟩
      have h1 : ¬ (9223372036854775807 : Int) < ((a.length : Int) + (b.length : Int)) := by omega
      have h2 : (⟨a.toArray⟩ ++ ⟨b.toArray⟩ : ByteArray) = ⟨(a ++ b).toArray⟩ := by apply ByteArray.ext; simp
      simp [binOp, Op.stringOp, size_mk, h1, h2, toV]
    · cases h
  all_goals subst h
  all_goals exact ⟨by simp [binOp, Op.stringOp, toV], by simp [VRel, toV]⟩
theorem binSem_run {P : Program} {V : Vw} {w : World} {op : BinOp} {x y d : DVal} {v u : Value} (t : TypeId) (X Y : Operand) (hx : VRel V w 0 x v) (hy : VRel V w 0 y u) (h : binSem op x y = some d) :
    (do eqGuard op t X Y v u; binOp op t v u : Sem Value).run P w = .ok (toV d) w ∧ VRel V w 0 d (toV d) := by
  unfold binSem at h
  split at h
  · rename_i k a k' b
    simp only [VRel] at hx hy
    subst hx hy
    simp only [eqGuard_at_int, Sem.run_bind, Sem.run_pure, Result.andThen_ok]
    split at h
    · split at h
      · cases h
      · rename_i hb
        simp only [Option.some.injEq] at h
        subst h
        refine ⟨?_, by simp only [VRel, toV]⟩
        simp [binOp, Op.shift, hb, toV]
    · split at h
      · cases h
      · rename_i hb
        simp only [Option.some.injEq] at h
        subst h
        refine ⟨?_, by simp only [VRel, toV]⟩
        simp [binOp, Op.shift, hb, toV]
    · split at h
      · rename_i hk
        subst hk
        exact binInt_run t h
      · cases h
  · simp only [VRel] at hx hy
    subst hx hy
    simp only [eqGuard_at_string, Sem.run_bind, Sem.run_pure, Result.andThen_ok]
    exact binStr_run t h
  · cases h
end Go.Proofs.YtklepphkbbjbjaaDoor
namespace Go.Proofs.YtklepphkbbjbjaaDoor
set_option linter.unusedVariables false
set_option linter.unusedSimpArgs false
open Go
def valT (P : Program) (t : TypeId) (vs : List Value) : Value :=
  match P.underlying t with
  | some (.struct _) | some (.array _ _) => .agg vs.toArray
  | _ => vs.headD Go.undef
theorem szOf_info {P : Program} {t : TypeId} {n : Nat} (h : szOf P t = some n) : ∃ i, P.info? t = some i ∧ i.size = n := by
  simp only [szOf, Option.map_eq_some_iff] at h
  exact h
theorem run_sizeOf {P : Program} {t : TypeId} {n : Nat} (h : szOf P t = some n) (w : World) : (sizeOf t).run P w = .ok n w := by
  obtain ⟨i, h1, rfl⟩ := szOf_info h
  simp [sizeOf, typeInfo, h1]
theorem part_run {P : Program} {w : World} {t : TypeId} {n off : Nat} {cs : List Value} (hs : szOf P t = some n) (hu : (P.underlying t).isSome) (hl : off + n ≤ cs.length)
    (h1 : aggSz P t = some none → n = 1) : (part t cs.toArray off).run P w = .ok (valT P t ((cs.drop off).take n)) w := by
  obtain ⟨d, hd⟩ := Option.isSome_iff_exists.1 hu
  have hsz := run_sizeOf (P := P) hs w
  unfold aggSz at h1
  unfold part isAgg valT
  simp only [Sem.run_bind, run_underlying hd, Result.andThen_ok, hd]
  rw [hd] at h1
  cases d
  case struct fs => simp [hsz, List.drop_take, Nat.add_sub_cancel_left, List.extract_eq_take_drop]
  case array a b => simp [hsz, List.drop_take, Nat.add_sub_cancel_left, List.extract_eq_take_drop]
  all_goals
    have hn : n = 1 := h1 (by rfl)
    subst hn
    have hlt : off < cs.length := by omega
    have e1 : cs.toArray[off]? = some cs[off] := by simp [hlt]
    have e2 : ((cs.drop off).take 1).headD Go.undef = cs[off] := by rw [List.drop_eq_getElem_cons hlt]; rfl
    simp only [Sem.run_pure, Result.andThen_ok, Bool.false_eq_true, if_false, e1, e2]
theorem cellsEq_len : ∀ {ks : List CK} {X Y : List DVal} {b : Bool}, cellsEq ks X Y = some b → X.length = ks.length ∧ Y.length = ks.length
  | [], [], [], _, _ => ⟨rfl, rfl⟩
  | k :: ks, x :: xs, y :: ys, b, h => by
    simp only [cellsEq] at h
    split at h
    · rename_i b1 b2 h1 h2
      have := cellsEq_len h2
      simp [this]
    · cases h
  | [], _ :: _, _, _, h => by simp [cellsEq] at h
  | [], [], _ :: _, _, h => by simp [cellsEq] at h
  | _ :: _, [], _, _, h => by simp [cellsEq] at h
  | _ :: _, _ :: _, [], _, h => by simp [cellsEq] at h
theorem cellsEq_split : ∀ {ks ls : List CK} {X Y : List DVal} {b : Bool}, cellsEq (ks ++ ls) X Y = some b →
    ∃ b1 b2, cellsEq ks (X.take ks.length) (Y.take ks.length) = some b1 ∧ cellsEq ls (X.drop ks.length) (Y.drop ks.length) = some b2 ∧ b = (b1 && b2)
  | [], ls, X, Y, b, h => ⟨true, b, by simp [cellsEq], by simpa using h, by simp⟩
  | k :: ks, ls, x :: xs, y :: ys, b, h => by
    simp only [List.cons_append, cellsEq] at h
    split at h
    · rename_i c d h1 h2
      obtain ⟨b1, b2, h3, h4, h5⟩ := cellsEq_split h2
      simp only [Option.some.injEq] at h
      refine ⟨c && b1, b2, by simp [cellsEq, h1, h3], by simpa using h4, by rw [← h, h5, Bool.and_assoc]⟩
    · cases h
  | _ :: _, _, [], _, _, h => by simp [cellsEq] at h
  | _ :: _, _, _ :: _, [], _, h => by simp [cellsEq] at h
theorem eqKinds_info {P : Program} {n : Nat} {t : TypeId} {ks : List CK} (h : eqKinds P n t = some ks) : (P.underlying t).isSome := by
  cases n with
  | zero => simp [eqKinds] at h
  | succ n =>
    unfold eqKinds at h
    split at h <;> simp_all
theorem eqKinds_one {P : Program} {n : Nat} {t : TypeId} {ks : List CK} (h : eqKinds P n t = some ks) (ha : aggSz P t = some none) : ks.length = 1 := by
  cases n with
  | zero => simp [eqKinds] at h
  | succ n =>
    unfold eqKinds at h
    unfold aggSz at ha
    split at h
    · simp at h; subst h; rfl
    · simp at h; subst h; rfl
    · simp at h; subst h; rfl
    · rename_i e; rw [e] at ha; simp at ha
    · rename_i e; rw [e] at ha; simp at ha
    · cases h
theorem eqArr_run {P : Program} {V : Vw} {w : World} {m : Nat} {e : TypeId} {ks : List CK} (hs : szOf P e = some ks.length) (hu : (P.underlying e).isSome) (h1 : aggSz P e = some none → ks.length = 1)
    (ih : ∀ (X Y : List DVal) (vs us : List Value) (b : Bool), VRels V w 0 X vs → VRels V w 0 Y us → cellsEq ks X Y = some b → (Op.equalIn m e (valT P e vs) (valT P e us)).run P w = .ok b w) :
    ∀ (len i : Nat) (X Y : List DVal) (vs us : List Value) (b : Bool), VRels V w 0 X (vs.drop (i * ks.length)) → VRels V w 0 Y (us.drop (i * ks.length)) → cellsEq (List.replicate len ks).flatten X Y = some b →
    (do
      for i in List.range' i len do
        if !(← Op.equalIn m e (← part e vs.toArray (i * ks.length)) (← part e us.toArray (i * ks.length))) then return false
      pure true : Sem Bool).run P w = .ok b w
  | 0, i, X, Y, vs, us, b, hX, hY, h => by
    have := cellsEq_len h
    simp only [List.replicate_zero, List.flatten_nil, List.length_nil, List.length_eq_zero_iff] at this
    obtain ⟨rfl, rfl⟩ := this
    simp [cellsEq] at h
    subst h
    simp
  | len + 1, i, X, Y, vs, us, b, hX, hY, h => by
    rw [List.replicate_succ, List.flatten_cons] at h
    have hl := cellsEq_len h
    obtain ⟨b1, b2, h2, h3, rfl⟩ := cellsEq_split h
    have lX := hX.length
    have lY := hY.length
    simp only [List.length_append, List.length_drop] at hl lX lY
    have i1 : i * ks.length + ks.length ≤ vs.length := by
      rcases Nat.eq_zero_or_pos ks.length with e | e
      · rw [e]; simp
      · omega
    have i2 : i * ks.length + ks.length ≤ us.length := by
      rcases Nat.eq_zero_or_pos ks.length with e | e
      · rw [e]; simp
      · omega
    have e1 := ih _ _ _ _ b1 (hX.take ks.length) (hY.take ks.length) h2
    have p1 := part_run (P := P) (w := w) (t := e) (off := i * ks.length) (cs := vs) hs hu i1 h1
    have p2 := part_run (P := P) (w := w) (t := e) (off := i * ks.length) (cs := us) hs hu i2 h1
    have hX2 := hX.drop ks.length
    have hY2 := hY.drop ks.length
    rw [List.drop_drop] at hX2 hY2
    have e2 := eqArr_run hs hu h1 ih len (i + 1) _ _ vs us b2 (by rw [Nat.add_mul, Nat.one_mul]; exact hX2) (by rw [Nat.add_mul, Nat.one_mul]; exact hY2) h3
    rw [List.range'_succ]
    cases b1
    · simp [p1, p2, e1]
    · simp only [List.forIn_cons, Sem.run_bind, p1, p2, e1, Result.andThen_ok, Bool.not_true, Bool.false_eq_true, if_false, Bool.true_and, Sem.run_pure] at e2 ⊢
      exact e2
theorem eqField_run {P : Program} {V : Vw} {w : World} {n m : Nat}
    (ih : ∀ (t : TypeId) (ks : List CK), eqKinds P n t = some ks → ∀ (X Y : List DVal) (vs us : List Value) (b : Bool), VRels V w 0 X vs → VRels V w 0 Y us → cellsEq ks X Y = some b → (Op.equalIn m t (valT P t vs) (valT P t us)).run P w = .ok b w) :
    ∀ (fs : List Field) (off : Nat) (ks : List CK) (X Y : List DVal) (vs us : List Value) (b : Bool), Go.Proofs.YtklepphkbbjbjaaDoor.eqFields P (eqKinds P n) off fs = some ks → VRels V w 0 X (vs.drop off) → VRels V w 0 Y (us.drop off) → cellsEq ks X Y = some b →
    (Op.eqFields m vs.toArray us.toArray fs).run P w = .ok b w
  | [], off, ks, X, Y, vs, us, b, hk, hX, hY, h => by
    simp only [Go.Proofs.YtklepphkbbjbjaaDoor.eqFields, Option.some.injEq] at hk
    subst hk
    obtain ⟨h1, h2⟩ := cellsEq_len h
    simp only [List.length_nil, List.length_eq_zero_iff] at h1 h2
    subst h1 h2
    simp [cellsEq] at h
    subst h
    simp [Op.eqFields]
  | f :: fs, off, ks, X, Y, vs, us, b, hk, hX, hY, h => by
    simp only [Go.Proofs.YtklepphkbbjbjaaDoor.eqFields] at hk
    split at hk
    · rename_i hc
      simp only [Bool.and_eq_true, decide_eq_true_eq] at hc
      obtain ⟨⟨⟨hn, ho⟩, hs⟩, hpos⟩ := hc
      split at hk
      · rename_i k1 k2 h1 h2
        simp only [Option.some.injEq] at hk
        subst hk
        rw [h1] at hs hpos
        simp only [Option.getD_some] at hs hpos
        rw [h1] at h2
        simp only [Option.getD_some] at h2
        have hl := cellsEq_len h
        obtain ⟨b1, b2, h3, h4, rfl⟩ := cellsEq_split h
        have lX := hX.length
        have lY := hY.length
        simp only [List.length_append, List.length_drop] at hl lX lY
        have e1 := ih f.type k1 h1 _ _ _ _ b1 (hX.take k1.length) (hY.take k1.length) h3
        have hX2 := hX.drop k1.length
        have hY2 := hY.drop k1.length
        rw [List.drop_drop] at hX2 hY2
        have e2 := eqField_run ih fs (off + k1.length) k2 _ _ vs us b2 h2 hX2 hY2 h4
        have p1 := part_run (P := P) (w := w) (t := f.type) (off := off) (cs := vs) hs (eqKinds_info h1) (by omega) (eqKinds_one h1)
        have p2 := part_run (P := P) (w := w) (t := f.type) (off := off) (cs := us) hs (eqKinds_info h1) (by omega) (eqKinds_one h1)
        subst ho
        cases b1
        · simp [Op.eqFields, hn, p1, p2, e1]
        · simp [Op.eqFields, hn, p1, p2, e1, e2]
      · cases hk
    · cases hk
theorem eq_run {P : Program} {V : Vw} {w : World} : ∀ (n : Nat) (t : TypeId) (ks : List CK), eqKinds P n t = some ks → ∀ (m : Nat), n ≤ m → ∀ (X Y : List DVal) (vs us : List Value) (b : Bool),
    VRels V w 0 X vs → VRels V w 0 Y us → cellsEq ks X Y = some b → (Op.equalIn m t (valT P t vs) (valT P t us)).run P w = .ok b w := by
  intro n
  induction n with
  | zero => intro t ks h; simp [eqKinds] at h
  | succ n ih =>
    intro t ks hk m hm X Y vs us b hX hY h
    obtain ⟨m, rfl⟩ : ∃ m', m = m' + 1 := ⟨m - 1, by omega⟩
    have hl := cellsEq_len h
    unfold eqKinds at hk
    split at hk
    · rename_i hu
      simp only [Option.some.injEq] at hk
      subst hk
      obtain ⟨x, rfl⟩ : ∃ x, X = [x] := by simpa [List.length_eq_one_iff] using hl.1
      obtain ⟨y, rfl⟩ : ∃ y, Y = [y] := by simpa [List.length_eq_one_iff] using hl.2
      simp only [VRels] at hX hY
      obtain ⟨v, _, rfl, h1, rfl⟩ := hX
      obtain ⟨u, _, rfl, h2, rfl⟩ := hY
      cases x <;> cases y <;> simp [cellsEq, cellEq] at h
      simp only [VRel] at h1 h2
      subst h1 h2 h
      simp [valT, hu, Op.equalIn, run_underlying hu]
    · rename_i k hu
      simp only [Option.some.injEq] at hk
      subst hk
      obtain ⟨x, rfl⟩ : ∃ x, X = [x] := by simpa [List.length_eq_one_iff] using hl.1
      obtain ⟨y, rfl⟩ : ∃ y, Y = [y] := by simpa [List.length_eq_one_iff] using hl.2
      simp only [VRels] at hX hY
      obtain ⟨v, _, rfl, h1, rfl⟩ := hX
      obtain ⟨u, _, rfl, h2, rfl⟩ := hY
      cases x <;> cases y <;> simp only [cellsEq, cellEq, reduceCtorEq] at h
      simp only [VRel] at h1 h2
      subst h1 h2
      split at h
      · rename_i b1 b2 e1 e2
        split at e1
        · rename_i hq
          obtain ⟨rfl, rfl⟩ := hq
          simp only [Option.some.injEq] at e1 e2 h
          subst e1 e2 h
          simp [valT, hu, Op.equalIn, run_underlying hu]
        · cases e1
      · cases h
    · rename_i hu
      simp only [Option.some.injEq] at hk
      subst hk
      obtain ⟨x, rfl⟩ : ∃ x, X = [x] := by simpa [List.length_eq_one_iff] using hl.1
      obtain ⟨y, rfl⟩ : ∃ y, Y = [y] := by simpa [List.length_eq_one_iff] using hl.2
      simp only [VRels] at hX hY
      obtain ⟨v, _, rfl, h1, rfl⟩ := hX
      obtain ⟨u, _, rfl, h2, rfl⟩ := hY
      cases x <;> cases y <;> simp [cellsEq, cellEq] at h
      simp only [VRel] at h1 h2
      subst h1 h2 h
      simp [valT, hu, Op.equalIn, run_underlying hu, beq_toListBytes]
    · rename_i len e hu
      split at hk
      · rename_i hs
        simp only [Option.map_eq_some_iff] at hk
        obtain ⟨k1, hk1, rfl⟩ := hk
        rw [hk1] at hs
        simp only [Option.getD_some] at hs
        have := eqArr_run (P := P) (V := V) (w := w) (m := m) hs (eqKinds_info hk1) (eqKinds_one hk1) (fun X Y vs us b hX hY hh => ih e k1 hk1 m (by omega) X Y vs us b hX hY hh) len 0 X Y vs us b (by simpa using hX) (by simpa using hY) h
        simp only [valT, hu]
        simp only [Op.equalIn, Sem.run_bind, run_underlying hu, Result.andThen_ok, run_sizeOf hs, Std.Legacy.Range.forIn_eq_forIn_range', Std.Legacy.Range.size]
        simpa using this
      · cases hk
    · rename_i fs hu
      split at hk
      · cases hk
      · rename_i hst
        have := eqField_run (P := P) (V := V) (w := w) (n := n) (m := m) (fun t ks h1 X Y vs us b hX hY hh => ih t ks h1 m (by omega) X Y vs us b hX hY hh) fs.toList 0 ks X Y vs us b hk (by simpa using hX) (by simpa using hY) h
        have hf : P.fieldsOf t = fs := by simp [Program.fieldsOf, hu]
        simp only [valT, hu]
        rw [run_equalIn_struct w m t vs.toArray us.toArray (by rw [hf, hu]) (by simpa using hst), hf]
        exact this
    · cases hk
theorem eqa_run {P : Program} {V : Vw} {w : World} {t : TypeId} {ks : List CK} (hk : eqKinds P 100 t = some ks) (hg : P.eqGuardType P.depth t = false) (X Y : Operand) {x y : List DVal} {v u : Value} {b : Bool}
    (hx : VRel V w 0 (.agg x) v) (hy : VRel V w 0 (.agg y) u) (h : cellsEq ks x y = some b) (hu : (∃ fs, P.underlying t = some (.struct fs)) ∨ ∃ n e, P.underlying t = some (.array n e)) :
    (do eqGuard .eql t X Y v u; binOp .eql t v u : Sem Value).run P w = .ok (.bool b) w ∧ (do eqGuard .neq t X Y v u; binOp .neq t v u : Sem Value).run P w = .ok (.bool !b) w := by
  simp only [VRel] at hx hy
  obtain ⟨vs, rfl, h1⟩ := hx
  obtain ⟨us, rfl, h2⟩ := hy
  have he := eq_run 100 t ks hk 10000 (by omega) x y vs.toList us.toList b h1 h2 h
  have e1 : valT P t vs.toList = .agg vs := by rcases hu with ⟨fs, hu⟩ | ⟨n, e, hu⟩ <;> simp [valT, hu]
  have e2 : valT P t us.toList = .agg us := by rcases hu with ⟨fs, hu⟩ | ⟨n, e, hu⟩ <;> simp [valT, hu]
  rw [e1, e2] at he
  constructor
  · rw [Sem.run_bind, run_eqGuard_agg w .eql t X Y vs us hg, Result.andThen_ok, run_eql_struct w t vs us, he, Result.andThen_ok]
  · rw [Sem.run_bind, run_eqGuard_agg w .neq t X Y vs us hg, Result.andThen_ok, run_neq_struct w t vs us, he, Result.andThen_ok]
end Go.Proofs.YtklepphkbbjbjaaDoor
namespace Go.Proofs.YtklepphkbbjbjaaDoor
set_option linter.unusedVariables false
set_option linter.unusedSimpArgs false
open Go
def Res (V : Vw) (w : World) (L' : Nat → Nat × DVal) (σ' : Sto) (d : DVal) (v : Value) (w' : World) : Prop :=
  ∃ V', Adv V w V' w' ∧ Inv V' L' σ' w' ∧ VRel V' w' 0 d v
def OpWp (P : Program) (o : Oper) (a : Act) (w : World) (R : Value → World → Prop) : Prop :=
  ∀ (next : Act → World → Prop) (Q : Exit → Act → World → Prop), (∀ v w', R v w' → next (a.put o.dst v) w') → o.wp P a w next Q
section
variable {P : Program} {o : Oper} {a : Act} {w w' : World} {R : Value → World → Prop}
theorem OpWp.value {v : Value} (h : (execOp a.eval o).run P w = .ok (.value v) w') (hR : R v w') : OpWp P o a w R := fun next Q hn => by
  unfold Oper.wp
  rw [h]
  exact hn v w' hR
theorem OpWp.skip (h : (execOp a.eval o).run P w = .ok .skip w') (hR : R Go.undef w') : OpWp P o a w R := fun next Q hn => by
  unfold Oper.wp
  rw [h]
  exact hn _ w' hR
theorem OpWp.call {f : FuncId} {args : Array Value} (h : (execOp a.eval o).run P w = .ok (.enter f args) w)
    (hc : Calls P f args w fun e w' => ∃ v, e = .returned v ∧ R v w') : OpWp P o a w R := fun next Q hn => by
  unfold Oper.wp
  rw [h, Oper.upon_enter]
  refine hc.mono ?_
  rintro e w' ⟨v, rfl, hR⟩
  exact hn v w' hR
theorem OpWp.mono {R' : Value → World → Prop} (h : OpWp P o a w R) (hR : ∀ v w', R v w' → R' v w') : OpWp P o a w R' :=
  fun next Q hn => h next Q fun v w' hv => hn v w' (hR v w' hv)
end
section
variable {V : Vw} {w : World} {L : Nat → Nat × DVal} {σ : Sto} {d : DVal} {v : Value}
theorem Res.same (hi : Inv V L σ w) (h : VRel V w 0 d v) : Res V w L σ d v w := ⟨V, .refl V w, hi, h⟩
end
theorem VRels.one {V : Vw} {w : World} {cl : Nat} {x : DVal} {vs : List Value} (h : VRels V w cl [x] vs) : ∃ v, vs = [v] ∧ VRel V w cl x v := by
  simp only [VRels] at h
  obtain ⟨v, us, rfl, h1, rfl⟩ := h
  exact ⟨v, rfl, h1⟩
theorem VRels.two {V : Vw} {w : World} {cl : Nat} {x y : DVal} {vs : List Value} (h : VRels V w cl [x, y] vs) : ∃ v u, vs = [v, u] ∧ VRel V w cl x v ∧ VRel V w cl y u := by
  simp only [VRels] at h
  obtain ⟨v, us, rfl, h1, u, _, rfl, h2, rfl⟩ := h
  exact ⟨v, u, rfl, h1, h2⟩
theorem VRels.three {V : Vw} {w : World} {cl : Nat} {x y z : DVal} {vs : List Value} (h : VRels V w cl [x, y, z] vs) : ∃ v u t, vs = [v, u, t] ∧ VRel V w cl x v ∧ VRel V w cl y u ∧ VRel V w cl z t := by
  simp only [VRels] at h
  obtain ⟨v, us, rfl, h1, u, _, rfl, h2, t, _, rfl, h3, rfl⟩ := h
  exact ⟨v, u, t, rfl, h1, h2, h3⟩
theorem one_inv {x : Operand} {f iop : IOp} {xs : List Opd} (h : one x f = some (iop, xs)) : ∃ q, opd x = some q ∧ iop = f ∧ xs = [q] := by
  simp only [one, Option.map_eq_some_iff, Prod.mk.injEq] at h
  obtain ⟨q, h1, h2, h3⟩ := h
  exact ⟨q, h1, h2.symm, h3.symm⟩
theorem two_inv {x y : Operand} {f iop : IOp} {xs : List Opd} (h : two x y f = some (iop, xs)) : ∃ p q, opd x = some p ∧ opd y = some q ∧ iop = f ∧ xs = [p, q] := by
  unfold two at h
  split at h
  · rename_i p q h1 h2
    simp only [Option.some.injEq, Prod.mk.injEq] at h
    exact ⟨p, q, h1, h2, h.1.symm, h.2.symm⟩
  · cases h
theorem readCells_agg {V : Vw} {w : World} {cl : Nat} {cs : List DVal} {vs : List Value} (h : VRels V w cl cs vs) {off n : Nat} {d : DVal} (hr : readCells cs off (some n) = some d) :
    off + n ≤ vs.length ∧ VRel V w cl d (.agg ((vs.drop off).take n).toArray) := by
  simp only [readCells] at hr
  split at hr
  · rename_i hl
    simp only [Option.some.injEq] at hr
    subst hr
    simp only [VRel]
    exact ⟨by rw [h.length]; exact hl, _, rfl, by simpa using (h.drop off).take n⟩
  · cases hr
theorem readCells_one {V : Vw} {w : World} {cl : Nat} {cs : List DVal} {vs : List Value} (h : VRels V w cl cs vs) {off : Nat} {d : DVal} (hr : readCells cs off none = some d) :
    ∃ v, vs[off]? = some v ∧ VRel V w cl d v := h.get hr
theorem RowRel.get {V : Vw} {w : World} {cl : Nat} {b : Nat} : ∀ {cs : List DVal} {off : Nat}, RowRel V w cl b off cs → ∀ {i : Nat} {d : DVal}, cs[i]? = some d → V.imm b (off + i) ∧ ∃ v, w.cell? ⟨b, off + i, none⟩ = some v ∧ VRel V w cl d v
  | [], _, _, i, d, hd => by simp at hd
  | c :: cs, off, h, i, d, hd => by
    simp only [RowRel] at h
    obtain ⟨h1, ⟨v, h2, -, h4⟩, h3⟩ := h
    cases i with
    | zero => simp at hd; subst hd; exact ⟨h1, v, h2, h4⟩
    | succ i =>
      have := RowRel.get h3 (i := i) (by simpa using hd)
      rw [show off + 1 + i = off + (i + 1) by omega] at this
      exact this
theorem RowRel.vals {V : Vw} {w : World} {cl : Nat} {b : Nat} : ∀ {cs : List DVal} {off : Nat}, RowRel V w cl b off cs → ∃ vs : List Value, VRels V w cl cs vs ∧ ∀ i v, vs[i]? = some v → w.cell? ⟨b, off + i, none⟩ = some v ∧ v.oneCell' = true
  | [], off, _ => ⟨[], by simp [VRels], fun i v h => by simp at h⟩
  | c :: cs, off, h => by
    simp only [RowRel] at h
    obtain ⟨h1, ⟨v, h2, h0, h3⟩, h4⟩ := h
    obtain ⟨vs, h5, h6⟩ := RowRel.vals h4
    refine ⟨v :: vs, by simp only [VRels]; exact ⟨v, vs, rfl, h3, h5⟩, fun i u hu => ?_⟩
    cases i with
    | zero => simp at hu; subst hu; exact ⟨h2, h0⟩
    | succ i =>
      have := h6 i u (by simpa using hu)
      rw [show off + 1 + i = off + (i + 1) by omega] at this
      exact this
theorem RowsRel.get {V : Vw} {w : World} {cl : Nat} {b sz : Nat} : ∀ {es : List (List DVal)} {off : Nat}, RowsRel V w cl b sz off es → ∀ {i : Nat} {e : List DVal}, es[i]? = some e → e.length = sz ∧ RowRel V w cl b (off + i * sz) e
  | [], _, _, i, e, he => by simp at he
  | f :: es, off, h, i, e, he => by
    simp only [RowsRel] at h
    obtain ⟨h1, h2, h3⟩ := h
    cases i with
    | zero => simp at he; subst he; exact ⟨h1, by simpa using h2⟩
    | succ i =>
      have := RowsRel.get h3 (i := i) (by simpa using he)
      rw [show off + sz + i * sz = off + (i + 1) * sz by rw [Nat.add_mul]; omega] at this
      exact this
theorem add_mk (b o n : Nat) : (⟨b, o, none⟩ : Addr).add n = ⟨b, o + n, none⟩ := by
  unfold Addr.add; split <;> simp_all
theorem shift_rel {V : Vw} {w : World} {x y : DVal} {v : Value} {n : Nat} (h : VRel V w 0 x v) (hs : x.shift n = some y) :
    ∃ b o, v = .pointer (some ⟨b, o, none⟩) ∧ VRel V w 0 y (.pointer (some ⟨b, o + n, none⟩)) ∨ ∃ A, v = .pointer (some A) ∧ VRel V w 0 y (.pointer (some (A.add n))) := by
  cases x <;> simp only [DVal.shift, Option.some.injEq, reduceCtorEq] at hs <;> subst hs
  · rename_i r ep off
    simp only [VRel] at h
    obtain ⟨-, h0, h1, A, rfl, h2⟩ := h
    refine ⟨0, 0, .inr ⟨A, rfl, ?_⟩⟩
    simp only [VRel]
    refine ⟨trivial, h0, h1, _, rfl, fun e => ?_⟩
    rw [h2 e, add_mk]
  · rename_i id off
    simp only [VRel] at h
    obtain ⟨-, h1, rfl⟩ := h
    refine ⟨0, 0, .inr ⟨_, rfl, ?_⟩⟩
    simp only [VRel]
    exact ⟨by omega, h1, by rw [add_mk]⟩
  · rename_i cs off
    simp only [VRel] at h
    obtain ⟨-, b, o, rfl, h1⟩ := h
    refine ⟨0, 0, .inr ⟨_, rfl, ?_⟩⟩
    simp only [VRel]
    exact ⟨trivial, b, o, by rw [add_mk, Nat.add_assoc], h1⟩
theorem shift_rel' {V : Vw} {w : World} {x y : DVal} {v : Value} {n : Nat} (h : VRel V w 0 x v) (hs : x.shift n = some y) :
    ∃ A, v = .pointer (some A) ∧ VRel V w 0 y (.pointer (some (A.add n))) := by
  rcases shift_rel h hs with ⟨b, o, ⟨rfl, h2⟩ | h2⟩
  · exact ⟨_, rfl, by rw [add_mk]; exact h2⟩
  · exact h2
section
variable {P : Program} {h : Hint} {V : Vw} {w : World} {L : Nat → Nat × DVal} {σ : Sto} {env : Nat → DVal} {a : Act} {d : DVal} {o : Oper}
theorem mv_sound (hi : Inv V L σ w) (he : EnvRel V w env a.tmps) {x : Operand} {q : Opd} (ho : o.op = .move x ∨ o.op = .assign x) (hq : opd x = some q) (hs : mvSem [q.val env] = some d) : OpWp P o a w (Res V w L σ d) := by
  simp only [mvSem, Option.some.injEq] at hs
  subst hs
  refine OpWp.value (v := a.eval x) (w' := w) ?_ (Res.same hi (opd_rel he hq))
  rcases ho with ho | ho <;> simp [execOp, ho]
theorem pick_sound (hi : Inv V L σ w) (he : EnvRel V w env a.tmps) {c x y : Operand} {qs : List Opd} (ho : o.op = .pick c x y) (hq : opds [c, x, y] = some qs) (hs : pickSem (qs.map (Opd.val env)) = some d) : OpWp P o a w (Res V w L σ d) := by
  have hr := opds_rel (a := a) he hq
  generalize qs.map (Opd.val env) = ds at hr hs
  unfold pickSem at hs
  split at hs
  · rename_i b x' y'
    simp only [Option.some.injEq] at hs
    subst hs
    obtain ⟨v, u, t, hv, h1, h2, h3⟩ := hr.three
    simp only [List.map_cons, List.map_nil, List.cons.injEq, and_true] at hv
    obtain ⟨e1, e2, e3⟩ := hv
    simp only [VRel] at h1
    refine OpWp.value (v := if b then u else t) (w' := w) ?_ (Res.same hi (by cases b <;> simpa))
    simp [execOp, ho, e1, e2, e3, h1, asBool]
  · cases hs
theorem bin_sound (hi : Inv V L σ w) (he : EnvRel V w env a.tmps) {op : BinOp} {t ty : TypeId} {x y : Operand} {p q : Opd} (ho : o.op = .binOp op t x y ty) (hp : opd x = some p) (hq : opd y = some q)
    (hs : bin2Sem op [p.val env, q.val env] = some d) : OpWp P o a w (Res V w L σ d) := by
  have h1 := opd_rel (a := a) he hp
  have h2 := opd_rel (a := a) he hq
  simp only [bin2Sem] at hs
  obtain ⟨r1, r2⟩ := binSem_run (P := P) t x y h1 h2 hs
  refine OpWp.value (v := toV d) (w' := w) ?_ (Res.same hi r2)
  simp only [execOp, ho, Sem.run_bind] at r1 ⊢
  rw [r1]
  simp
theorem eqb_sound (hi : Inv V L σ w) (he : EnvRel V w env a.tmps) {op : BinOp} {t ty : TypeId} {x y : Operand} {p q : Opd} (ho : o.op = .binOp op t x y ty) (hp : opd x = some p) (hq : opd y = some q)
    (ht : P.underlying t = some .bool) (hop : op = .eql ∨ op = .neq) (hs : eqbSem (isNeq op) [p.val env, q.val env] = some d) : OpWp P o a w (Res V w L σ d) := by
  have h1 := opd_rel (a := a) he hp
  have h2 := opd_rel (a := a) he hq
  generalize p.val env = x' at h1 hs
  generalize q.val env = y' at h2 hs
  unfold eqbSem at hs
  split at hs
  · rename_i b c e
    simp only [List.cons.injEq, and_true] at e
    obtain ⟨rfl, rfl⟩ := e
    simp only [Option.some.injEq] at hs
    subst hs
    simp only [VRel] at h1 h2
    rcases hop with rfl | rfl
    · refine OpWp.value (v := .bool (b == c)) (w' := w) ?_ (Res.same hi (by simp [VRel, isNeq]))
      simp [execOp, ho, h1, h2, run_eql_bool w t b c ht, eqGuard_at_bool]
    · refine OpWp.value (v := .bool (!(b == c))) (w' := w) ?_ (Res.same hi (by simp [VRel, isNeq]))
      simp [execOp, ho, h1, h2, run_neq_bool w t b c ht, eqGuard_at_bool]
  · cases hs
theorem eqa_sound (hi : Inv V L σ w) (he : EnvRel V w env a.tmps) {op : BinOp} {t ty : TypeId} {x y : Operand} {p q : Opd} {ks : List CK} (ho : o.op = .binOp op t x y ty) (hp : opd x = some p) (hq : opd y = some q)
    (hk : eqKinds P 100 t = some ks) (hg : P.eqGuardType P.depth t = false) (hu : (∃ fs, P.underlying t = some (.struct fs)) ∨ ∃ n e, P.underlying t = some (.array n e)) (hop : op = .eql ∨ op = .neq)
    (hs : eqaSem (isNeq op) ks [p.val env, q.val env] = some d) : OpWp P o a w (Res V w L σ d) := by
  have h1 := opd_rel (a := a) he hp
  have h2 := opd_rel (a := a) he hq
  generalize p.val env = x' at h1 hs
  generalize q.val env = y' at h2 hs
  unfold eqaSem at hs
  split at hs
  · rename_i X Y e
    simp only [List.cons.injEq, and_true] at e
    obtain ⟨rfl, rfl⟩ := e
    simp only [Option.map_eq_some_iff] at hs
    obtain ⟨b, hb, rfl⟩ := hs
    obtain ⟨r1, r2⟩ := eqa_run hk hg x y h1 h2 hb hu
    rcases hop with rfl | rfl
    · refine OpWp.value (v := .bool b) (w' := w) ?_ (Res.same hi (by simp [VRel, isNeq]))
      simp only [execOp, ho, Sem.run_bind] at r1 ⊢
      rw [r1]
      simp
    · refine OpWp.value (v := .bool !b) (w' := w) ?_ (Res.same hi (by simp [VRel, isNeq]))
      simp only [execOp, ho, Sem.run_bind] at r2 ⊢
      rw [r2]
      simp
  · cases hs
theorem run_eql_func_nil {P : Program} (w : World) (t : TypeId) (ps rs : Array TypeId) (va : Bool) (f : Fn) (x c : Array Value) (h : P.underlying t = some (.func ps rs va)) :
    (binOp .eql t (.func f x c) .nilFunc).run P w = .ok (.bool false) w ∧ (binOp .neq t (.func f x c) .nilFunc).run P w = .ok (.bool true) w ∧
    (binOp .eql t .nilFunc .nilFunc).run P w = .ok (.bool true) w ∧ (binOp .neq t .nilFunc .nilFunc).run P w = .ok (.bool false) w := by
  have g1 : ∀ n, (Op.equalIn (n + 1) t (.func f x c) .nilFunc).run P w = .ok false w := fun n => by
    simp only [Op.equalIn, Sem.run_bind, run_underlying h, Result.andThen_ok, Sem.run_pure]
  have g2 : ∀ n, (Op.equalIn (n + 1) t .nilFunc .nilFunc).run P w = .ok true w := fun n => by
    simp only [Op.equalIn, Sem.run_bind, run_underlying h, Result.andThen_ok, Sem.run_pure]
  have e1 : (Op.equal t (.func f x c) .nilFunc).run P w = .ok false w := g1 9999
  have e2 : (Op.equal t .nilFunc .nilFunc).run P w = .ok true w := g2 9999
  refine ⟨?_, ?_, ?_, ?_⟩ <;> simp only [binOp, Sem.run_bind, e1, e2, Result.andThen_ok, Sem.run_pure, Bool.not_true, Bool.not_false]
theorem isnil_run {P : Program} {V : Vw} {w : World} {t : TypeId} {td : TypeDesc} {y : Operand} {k : Nat} {x : DVal} {v : Value} {b : Bool} (X : Operand) (ht : P.underlying t = some td) (hk : nilKind td y = some k)
    (hx : VRel V w 0 x v) (hb : x.isNil k = some b) (a : Act) :
    (do eqGuard .eql t X y v (a.eval y); binOp .eql t v (a.eval y) : Sem Value).run P w = .ok (.bool b) w ∧ (do eqGuard .neq t X y v (a.eval y); binOp .neq t v (a.eval y) : Sem Value).run P w = .ok (.bool !b) w := by
  unfold nilKind at hk
  split at hk <;> simp only [Option.some.injEq, reduceCtorEq] at hk <;> subst hk
  · rename_i e
    cases x <;> simp [DVal.isNil] at hb <;> subst hb <;> simp only [VRel] at hx
    · subst hx
      simp only [Act.eval, eqGuard_at_slice, Sem.run_bind, Sem.run_pure, Result.andThen_ok]
      exact ⟨by rw [Lib.run_eql_slice_nil w t e none 0 0 0 0 ht]; rfl, by rw [run_neq_slice_nil_any w t e none 0 0 0 0 ht]; rfl⟩
    · obtain ⟨-, b, off, cap, rfl, -⟩ := hx
      simp only [Act.eval, eqGuard_at_slice, Sem.run_bind, Sem.run_pure, Result.andThen_ok]
      exact ⟨by rw [Lib.run_eql_slice_nil w t e _ _ _ 0 0 ht]; rfl, by rw [run_neq_slice_nil_any w t e _ _ _ 0 0 ht]; rfl⟩
    · obtain ⟨-, -, c, rfl, -⟩ := hx
      simp only [Act.eval, eqGuard_at_slice, Sem.run_bind, Sem.run_pure, Result.andThen_ok]
      exact ⟨by rw [Lib.run_eql_slice_nil w t e _ _ _ 0 0 ht]; rfl, by rw [run_neq_slice_nil_any w t e _ _ _ 0 0 ht]; rfl⟩
    · obtain ⟨A, rfl⟩ := hx
      simp only [Act.eval, eqGuard_at_slice, Sem.run_bind, Sem.run_pure, Result.andThen_ok]
      exact ⟨by rw [Lib.run_eql_slice_nil w t e _ _ _ 0 0 ht]; rfl, by rw [run_neq_slice_nil_any w t e _ _ _ 0 0 ht]; rfl⟩
  · rename_i e
    have hp : P.underlying t = some (.pointer (P.pointee t)) := by rw [ht]; simp [Program.pointee, ht]
    have hv : ∃ p, v = .pointer p ∧ b = p.isNone := by
      cases x <;> simp [DVal.isNil] at hb <;> subst hb <;> simp only [VRel] at hx
      · subst hx; exact ⟨none, rfl, rfl⟩
      · obtain ⟨-, -, -, A, rfl, -⟩ := hx; exact ⟨some A, rfl, rfl⟩
      · obtain ⟨-, -, rfl⟩ := hx; exact ⟨_, rfl, rfl⟩
      · obtain ⟨-, b, o, rfl, -⟩ := hx; exact ⟨_, rfl, rfl⟩
    obtain ⟨p, rfl, rfl⟩ := hv
    simp only [Act.eval, eqGuard_at_pointer, Sem.run_bind, Sem.run_pure, Result.andThen_ok]
    exact ⟨by rw [run_eql_pointer_nil w t p hp], by rw [run_neq_pointer_nil w t p hp]⟩
  · rename_i k e
    have hv : ∃ p, v = .map p ∧ b = p.isNone := by
      cases x <;> simp [DVal.isNil] at hb <;> subst hb <;> simp only [VRel] at hx
      · subst hx; exact ⟨none, rfl, rfl⟩
      · obtain ⟨-, -, rfl⟩ := hx; exact ⟨_, rfl, rfl⟩
    obtain ⟨p, rfl, rfl⟩ := hv
    simp only [Act.eval, eqGuard_at_map, Sem.run_bind, Sem.run_pure, Result.andThen_ok]
    exact ⟨by rw [run_eql_map_nil w t k e p ht], by rw [run_neq_map_nil w t k e p ht]⟩
  · rename_i ps rs va
    have hf := run_eql_func_nil (P := P) w t ps rs va (.func 0) #[] #[] ht
    cases x <;> simp [DVal.isNil] at hb <;> subst hb <;> simp only [VRel] at hx
    · subst hx
      simp only [Act.eval, eqGuard_at_nilFunc, Sem.run_bind, Sem.run_pure, Result.andThen_ok]
      exact ⟨hf.2.2.1, hf.2.2.2⟩
    · obtain ⟨-, vs, rfl, -⟩ := hx
      have hf := run_eql_func_nil (P := P) w t ps rs va (.func ‹Nat›) #[] vs ht
      simp only [Act.eval, eqGuard_at_func, Sem.run_bind, Sem.run_pure, Result.andThen_ok]
      exact ⟨hf.1, hf.2.1⟩
theorem isnil_sound (hi : Inv V L σ w) (he : EnvRel V w env a.tmps) {op : BinOp} {t ty : TypeId} {td : TypeDesc} {x y : Operand} {q : Opd} {k : Nat} (ho : o.op = .binOp op t x y ty) (hq : opd x = some q)
    (ht : P.underlying t = some td) (hk : nilKind td y = some k) (hop : op = .eql ∨ op = .neq) (hs : isnilSem k (isNeq op) [q.val env] = some d) : OpWp P o a w (Res V w L σ d) := by
  have h1 := opd_rel (a := a) he hq
  simp only [isnilSem, Option.map_eq_some_iff] at hs
  obtain ⟨b, hb, rfl⟩ := hs
  obtain ⟨r1, r2⟩ := isnil_run (P := P) x ht hk h1 hb a
  rcases hop with rfl | rfl
  · refine OpWp.value (v := .bool b) (w' := w) ?_ (Res.same hi (by simp [VRel, isNeq]))
    simp only [execOp, ho, Sem.run_bind] at r1 ⊢
    rw [r1]
    simp
  · refine OpWp.value (v := .bool !b) (w' := w) ?_ (Res.same hi (by simp [VRel, isNeq]))
    simp only [execOp, ho, Sem.run_bind] at r2 ⊢
    rw [r2]
    simp
theorem un_sound (hi : Inv V L σ w) (he : EnvRel V w env a.tmps) {op : UnOp} {t : TypeId} {x : Operand} {q : Opd} (ho : o.op = .unOp op t x) (hq : opd x = some q) (hs : unSem op [q.val env] = some d) : OpWp P o a w (Res V w L σ d) := by
  have h1 := opd_rel (a := a) he hq
  generalize q.val env = x' at h1 hs
  unfold unSem at hs
  split at hs
  · rename_i b e
    simp only [List.cons.injEq, and_true] at e
    subst e
    split at hs <;> simp only [Option.some.injEq, reduceCtorEq] at hs
    subst hs
    simp only [VRel] at h1
    refine OpWp.value (v := .bool !b) (w' := w) ?_ (Res.same hi (by simp [VRel]))
    simp [execOp, ho, h1, Op.unary]
  · rename_i k n e
    simp only [List.cons.injEq, and_true] at e
    subst e
    simp only [VRel] at h1
    split at hs <;> simp only [Option.some.injEq, reduceCtorEq] at hs <;> subst hs
    · refine OpWp.value (v := .int k (k.wrap (0 - n))) (w' := w) ?_ (Res.same hi (by simp only [VRel]))
      simp only [execOp, ho, h1, Op.unary, Op.intArith, Sem.run_bind, Sem.run_pure, Result.andThen_ok]
    · refine OpWp.value (v := .int k (intBits .xor k (if k.signed then -1 else k.max) n)) (w' := w) ?_ (Res.same hi (by simp only [VRel]))
      simp only [execOp, ho, h1, Op.unary, Op.intBits, Sem.run_bind, Sem.run_pure, Result.andThen_ok, intBits]
  · cases hs
theorem conv_sound (hi : Inv V L σ w) (he : EnvRel V w env a.tmps) {s t : TypeId} {k k' : IntKind} {x : Operand} {q : Opd} (ho : o.op = .convert s t x) (hq : opd x = some q)
    (h1 : P.underlying s = some (.int k')) (h2 : P.underlying t = some (.int k)) (hs : convSem k [q.val env] = some d) : OpWp P o a w (Res V w L σ d) := by
  have hr := opd_rel (a := a) he hq
  generalize q.val env = x' at hr hs
  unfold convSem at hs
  split at hs
  · rename_i k2 n e
    simp only [List.cons.injEq, and_true] at e
    subst e
    simp only [Option.some.injEq] at hs
    subst hs
    simp only [VRel] at hr
    refine OpWp.value (v := .int k (k.wrap n)) (w' := w) ?_ (Res.same hi (by simp only [VRel]))
    simp [execOp, ho, hr, convert, run_underlying h1, run_underlying h2, Conv.intToInt]
  · cases hs
theorem convStr_sound (hi : Inv V L σ w) (he : EnvRel V w env a.tmps) {s t : TypeId} {x : Operand} {q : Opd} (ho : o.op = .convert s t x) (hq : opd x = some q)
    (h1 : P.underlying s = some .string) (h2 : P.underlying t = some .string) (hs : convSSem [q.val env] = some d) : OpWp P o a w (Res V w L σ d) := by
  have hr := opd_rel (a := a) he hq
  generalize q.val env = x' at hr hs
  unfold convSSem at hs
  split at hs
  · rename_i l e
    simp only [List.cons.injEq, and_true] at e
    subst e
    simp only [Option.some.injEq] at hs
    subst hs
    have hr' := hr
    simp only [VRel] at hr'
    refine OpWp.value (v := a.eval x) (w' := w) ?_ (Res.same hi hr)
    simp [execOp, ho, hr', convert, run_underlying h1, run_underlying h2]
  · cases hs
theorem off_sound (hi : Inv V L σ w) (he : EnvRel V w env a.tmps) {t : TypeId} {x : Operand} {f : Nat} {q : Opd} {fl : Field} {n : Nat} (ho : o.op = .fieldAddr t x f) (hq : opd x = some q)
    (hf : compField P t f = some fl) (hz : szOf P fl.type = some (n + 1)) (hs : offSem fl.offset [q.val env] = some d) : OpWp P o a w (Res V w L σ d) := by
  have h1 := opd_rel (a := a) he hq
  simp only [offSem] at hs
  obtain ⟨A, hA, h2⟩ := shift_rel' h1 hs
  refine OpWp.value (v := .pointer (some (A.add fl.offset))) (w' := w) ?_ (Res.same hi h2)
  unfold compField at hf
  split at hf
  · rename_i fs hu
    simp [execOp, ho, hA, Instr.fieldAt, run_underlying hu, hf, Instr.sureAddr, fieldPlace, run_sizeOf hz]
  · cases hf
theorem idxS_sound (hi : Inv V L σ w) (he : EnvRel V w env a.tmps) {t e : TypeId} {x i : Operand} {p q : Opd} {sz : Nat} (ho : o.op = .indexAddr t x i) (hp : opd x = some p) (hq : opd i = some q)
    (hu : P.underlying t = some (.slice e)) (hz : szOf P e = some sz) (hs : idxSSem sz [p.val env, q.val env] = some d) : OpWp P o a w (Res V w L σ d) := by
  have h1 := opd_rel (a := a) he hp
  have h2 := opd_rel (a := a) he hq
  generalize p.val env = x' at h1 hs
  generalize q.val env = y' at h2 hs
  unfold idxSSem at hs
  split at hs
  · rename_i pt own sz' es k i e'
    simp only [List.cons.injEq, and_true] at e'
    obtain ⟨rfl, rfl⟩ := e'
    split at hs
    · rename_i hc
      obtain ⟨rfl, h0⟩ := hc
      simp only [Option.map_eq_some_iff] at hs
      obtain ⟨el, hel, rfl⟩ := hs
      simp only [VRel] at h1 h2
      obtain ⟨-, b, off, cap, hv, -, -, hrows⟩ := h1
      obtain ⟨-, hrow⟩ := hrows.get hel
      have hlt : i.toNat < es.length := (List.getElem?_eq_some_iff.1 hel).1
      refine OpWp.value (v := .pointer (some ⟨b, off + i.toNat * sz', none⟩)) (w' := w) ?_ (Res.same hi ?_)
      · have e1 : P.elem t = e := by simp [Program.elem, hu]
        have hlt' : i < es.length := by omega
        simp [execOp, ho, hv, h2, run_indexAt_slice w t ⟨b, off, none⟩ es.length cap k i (by rw [hu, e1]), h0, hlt', e1, run_sizeOf hz, add_mk]
      · simp only [VRel]
        exact ⟨trivial, b, off + i.toNat * sz', rfl, hrow.lower (emode_pos _)⟩
    · cases hs
  · rename_i sz' id off len cap k i e'
    simp only [List.cons.injEq, and_true] at e'
    obtain ⟨rfl, rfl⟩ := e'
    split at hs
    · rename_i hc
      obtain ⟨rfl, h0, hlt⟩ := hc
      simp only [Option.some.injEq] at hs
      subst hs
      simp only [VRel] at h1 h2
      obtain ⟨-, hid, c, hv, -⟩ := h1
      refine OpWp.value (v := .pointer (some ⟨V.phi id, off + i.toNat * sz', none⟩)) (w' := w) ?_ (Res.same hi ?_)
      · have e1 : P.elem t = e := by simp [Program.elem, hu]
        simp [execOp, ho, hv, h2, run_indexAt_slice w t ⟨V.phi id, off, none⟩ len c k i (by rw [hu, e1]), h0, hlt, e1, run_sizeOf hz, add_mk]
      · simp [VRel, hid]
    · cases hs
  · cases hs
theorem idxA_sound (hi : Inv V L σ w) (he : EnvRel V w env a.tmps) {t e : TypeId} {x i : Operand} {p q : Opd} {n sz : Nat} (ho : o.op = .indexAddr t x i) (hp : opd x = some p) (hq : opd i = some q)
    (hu : P.underlying t = some (.array n e)) (hz : szOf P e = some sz) (hs : idxASem n sz [p.val env, q.val env] = some d) : OpWp P o a w (Res V w L σ d) := by
  have h1 := opd_rel (a := a) he hp
  have h2 := opd_rel (a := a) he hq
  generalize p.val env = x' at h1 hs
  generalize q.val env = y' at h2 hs
  unfold idxASem at hs
  split at hs
  · rename_i z k i e'
    simp only [List.cons.injEq, and_true] at e'
    obtain ⟨rfl, rfl⟩ := e'
    split at hs
    · rename_i hc
      obtain ⟨A, hA, h3⟩ := shift_rel' h1 hs
      simp only [VRel] at h2
      refine OpWp.value (v := .pointer (some (A.add (i.toNat * sz)))) (w' := w) ?_ (Res.same hi h3)
      have e1 : P.elem t = e := by simp [Program.elem, hu]
      have e2 : P.arrayLen t = n := by simp [Program.arrayLen, hu]
      have hlt : 0 ≤ i ∧ i < P.arrayLen t := by rw [e2]; exact hc
      simp [execOp, ho, hA, h2, run_indexAt_array w t A k i (by rw [hu, e1, e2]), hlt, e1, run_sizeOf hz]
    · cases hs
  · cases hs
theorem idxStr_sound (hi : Inv V L σ w) (he : EnvRel V w env a.tmps) {t : TypeId} {x i : Operand} {p q : Opd} (ho : o.op = .index t x i) (hp : opd x = some p) (hq : opd i = some q)
    (hu : P.underlying t = some .string) (hs : idxStrSem [p.val env, q.val env] = some d) : OpWp P o a w (Res V w L σ d) := by
  have h1 := opd_rel (a := a) he hp
  have h2 := opd_rel (a := a) he hq
  generalize p.val env = x' at h1 hs
  generalize q.val env = y' at h2 hs
  unfold idxStrSem at hs
  split at hs
  · rename_i s k i e'
    simp only [List.cons.injEq, and_true] at e'
    obtain ⟨rfl, rfl⟩ := e'
    split at hs
    · rename_i hc
      simp only [Option.map_eq_some_iff] at hs
      obtain ⟨c, hcc, rfl⟩ := hs
      simp only [VRel] at h1 h2
      obtain ⟨hlt, hget⟩ := List.getElem?_eq_some_iff.1 hcc
      refine OpWp.value (v := .int .u8 c.toNat) (w' := w) ?_ (Res.same hi (by simp [VRel]))
      have e1 : 0 ≤ i ∧ i < (ByteArray.mk s.toArray).size := by rw [size_mk]; omega
      have e2 : ((ByteArray.mk s.toArray)[i.toNat]'(by omega)) = c := by
        show (s.toArray[i.toNat]'_) = c
        simpa using hget
      simp only [execOp, ho, h1, h2, Sem.run_bind, run_index_string w t _ k i hu, e1, dif_pos, Result.andThen_ok, e2, Sem.run_pure, and_self]
    · cases hs
  · cases hs
theorem part_rel {t : TypeId} {sz : Option Nat} {cs : List DVal} {vs : Array Value} {off : Nat} (hz : aggSz P t = some sz) (h : VRels V w 0 cs vs.toList) (hr : readCells cs off sz = some d) :
    ∃ v, (part t vs off).run P w = .ok v w ∧ VRel V w 0 d v := by
  unfold aggSz at hz
  cases sz with
  | some n =>
    obtain ⟨hl, hrel⟩ := readCells_agg h hr
    have hu : (∃ fs, P.underlying t = some (.struct fs)) ∨ ∃ m e, P.underlying t = some (.array m e) := by
      split at hz
      · rename_i fs hu; exact .inl ⟨fs, hu⟩
      · rename_i m e hu; exact .inr ⟨m, e, hu⟩
      · simp at hz
      · cases hz
    have hi : ∃ i, P.info? t = some i ∧ i.size = n := by
      rcases hu with ⟨fs, hu⟩ | ⟨m, e, hu⟩ <;> rw [hu] at hz <;> simpa using hz
    obtain ⟨i, hi, rfl⟩ := hi
    refine ⟨_, ?_, hrel⟩
    have hx : vs.extract off (off + i.size) = ((vs.toList.drop off).take i.size).toArray := by
      apply Array.ext'; simp [List.extract_eq_take_drop]
    rcases hu with ⟨fs, hu⟩ | ⟨m, e, hu⟩ <;> simp [part, isAgg, run_underlying hu, sizeOf, typeInfo, hi, hx]
  | none =>
    obtain ⟨v, hv, hrel⟩ := readCells_one h hr
    refine ⟨v, ?_, hrel⟩
    have hv' : vs[off]? = some v := by simpa using hv
    unfold part isAgg
    split at hz
    · simp at hz
    · simp at hz
    · rename_i td n1 n2 hu
      simp only [Sem.run_bind, run_underlying hu, Result.andThen_ok]
      cases td <;> first | exact absurd rfl (n1 _) | exact absurd rfl (n2 _ _) | simp [hv']
    · cases hz
theorem fld_sound (hi : Inv V L σ w) (he : EnvRel V w env a.tmps) {t : TypeId} {x : Operand} {f : Nat} {q : Opd} {fl : Field} {sz : Option Nat} (ho : o.op = .field t x f) (hq : opd x = some q)
    (hf : compField P t f = some fl) (hz : aggSz P fl.type = some sz) (hs : fldSem fl.offset sz [q.val env] = some d) : OpWp P o a w (Res V w L σ d) := by
  have h1 := opd_rel (a := a) he hq
  generalize q.val env = x' at h1 hs
  unfold fldSem at hs
  split at hs
  · rename_i cs e
    simp only [List.cons.injEq, and_true] at e
    subst e
    simp only [VRel] at h1
    obtain ⟨vs, hv, h2⟩ := h1
    obtain ⟨v, hr, hrel⟩ := part_rel (P := P) hz h2 hs
    refine OpWp.value (v := v) (w' := w) ?_ (Res.same hi hrel)
    unfold compField at hf
    split at hf
    · rename_i fs hu
      simp [execOp, ho, hv, Instr.field, run_underlying hu, hf, asAgg, hr]
    · cases hf
  · cases hs
theorem load_rel {t : TypeId} {sz : Option Nat} {cs : List DVal} {vs : List Value} {b base off : Nat} (hz : aggSz P t = some sz) (h : VRels V w 0 cs vs) (hc : ∀ i v, vs[i]? = some v → w.cell? ⟨b, base + i, none⟩ = some v)
    (hr : readCells cs off sz = some d) : ∃ v, (Instr.loadAt t (.pointer (some ⟨b, base + off, none⟩))).run P w = .ok v w ∧ VRel V w 0 d v := by
  unfold aggSz at hz
  cases sz with
  | some n =>
    obtain ⟨hl, hrel⟩ := readCells_agg h hr
    have hu : (∃ fs, P.underlying t = some (.struct fs)) ∨ ∃ m e, P.underlying t = some (.array m e) := by
      split at hz
      · rename_i fs hu; exact .inl ⟨fs, hu⟩
      · rename_i m e hu; exact .inr ⟨m, e, hu⟩
      · simp at hz
      · cases hz
    have hi : ∃ i, P.info? t = some i ∧ i.size = n := by
      rcases hu with ⟨fs, hu⟩ | ⟨m, e, hu⟩ <;> rw [hu] at hz <;> simpa using hz
    obtain ⟨i, hi, rfl⟩ := hi
    have hlen : ((vs.drop off).take i.size).length = i.size := by simp; omega
    have hload := run_loadCells_list (P := P) w ⟨b, base + off, none⟩ ((vs.drop off).take i.size) (fun j v hj => by
      rw [add_mk, Nat.add_assoc]
      refine hc (off + j) v ?_
      rw [List.getElem?_take] at hj
      split at hj
      · simpa using hj
      · cases hj)
    rw [hlen] at hload
    refine ⟨_, ?_, hrel⟩
    rcases hu with ⟨fs, hu⟩ | ⟨m, e, hu⟩ <;> simp [Instr.loadAt, Instr.sureAddr, loadVar, isAgg, run_underlying hu, sizeOf, typeInfo, hi, hload]
  | none =>
    obtain ⟨v, hv, hrel⟩ := readCells_one h hr
    refine ⟨v, ?_, hrel⟩
    have hcell := hc off v hv
    unfold Instr.loadAt loadVar isAgg
    split at hz
    · simp at hz
    · simp at hz
    · rename_i td n1 n2 hu
      simp only [Instr.sureAddr, Sem.run_bind, Sem.run_pure, run_underlying hu, Result.andThen_ok]
      cases td <;> first | exact absurd rfl (n1 _) | exact absurd rfl (n2 _ _) | simp [hcell]
    · cases hz
theorem ldE_sound (hi : Inv V L σ w) (he : EnvRel V w env a.tmps) {t : TypeId} {x : Operand} {q : Opd} {sz : Option Nat} (ho : o.op = .load t x) (hq : opd x = some q)
    (hz : aggSz P t = some sz) (hs : ldESem sz [q.val env] = some d) : OpWp P o a w (Res V w L σ d) := by
  have h1 := opd_rel (a := a) he hq
  generalize q.val env = x' at h1 hs
  unfold ldESem at hs
  split at hs
  · rename_i cs off e
    simp only [List.cons.injEq, and_true] at e
    subst e
    simp only [VRel] at h1
    obtain ⟨-, b, base, hv, hrow⟩ := h1
    obtain ⟨vs, h2, h3⟩ := hrow.vals
    obtain ⟨v, hr, hrel⟩ := load_rel (P := P) hz h2.open' (fun i v hv => (h3 i v hv).1) hs
    refine OpWp.value (v := v) (w' := w) ?_ (Res.same hi hrel)
    simp [execOp, ho, hv, hr]
  · cases hs
theorem ext_sound (hi : Inv V L σ w) (he : EnvRel V w env a.tmps) {x : Operand} {i : Nat} {q : Opd} (ho : o.op = .extract x i) (hq : opd x = some q) (hs : extSem i [q.val env] = some d) : OpWp P o a w (Res V w L σ d) := by
  have h1 := opd_rel (a := a) he hq
  generalize q.val env = x' at h1 hs
  unfold extSem at hs
  split at hs
  · rename_i ds e
    simp only [List.cons.injEq, and_true] at e
    subst e
    simp only [VRel] at h1
    obtain ⟨vs, hv, h2⟩ := h1
    obtain ⟨v, h3, h4⟩ := h2.get hs
    have h3' : vs[i]? = some v := by simpa using h3
    refine OpWp.value (v := v) (w' := w) ?_ (Res.same hi h4)
    simp [execOp, ho, hv, Instr.extract, h3']
  · cases hs
theorem lenStr_sound (hi : Inv V L σ w) (he : EnvRel V w env a.tmps) {c : Call} {x : Operand} {q : Opd} {t : TypeId} (ho : o.op = .call c) (hc : c.callee = .builtin .len) (hx : c.args = #[x]) (ht : c.argTypes[0]? = some t)
    (hu : P.underlying t = some .string) (hq : opd x = some q) (hs : lenStrSem [q.val env] = some d) : OpWp P o a w (Res V w L σ d) := by
  have h1 := opd_rel (a := a) he hq
  generalize q.val env = x' at h1 hs
  unfold lenStrSem at hs
  split at hs
  · rename_i s e
    simp only [List.cons.injEq, and_true] at e
    subst e
    simp only [Option.some.injEq] at hs
    subst hs
    simp only [VRel] at h1
    refine OpWp.value (v := .int .i64 s.length) (w' := w) ?_ (Res.same hi (by simp [VRel, goI]))
    simp [execOp, ho, resolve, hc, hx, invoke, builtin, Builtin.len_, ht, h1, run_underlying hu, goInt, size_mk]
  · cases hs
theorem lenSl_sound (hi : Inv V L σ w) (he : EnvRel V w env a.tmps) {c : Call} {x : Operand} {q : Opd} {t e : TypeId} (ho : o.op = .call c) (hc : c.callee = .builtin .len) (hx : c.args = #[x]) (ht : c.argTypes[0]? = some t)
    (hu : P.underlying t = some (.slice e)) (hq : opd x = some q) (hs : lenSlSem [q.val env] = some d) : OpWp P o a w (Res V w L σ d) := by
  have h1 := opd_rel (a := a) he hq
  generalize q.val env = x' at h1 hs
  unfold lenSlSem at hs
  split at hs
  · rename_i pt own sz es e'
    simp only [List.cons.injEq, and_true] at e'
    subst e'
    simp only [Option.some.injEq] at hs
    subst hs
    simp only [VRel] at h1
    obtain ⟨-, b, off, cap, hv, -⟩ := h1
    refine OpWp.value (v := .int .i64 es.length) (w' := w) ?_ (Res.same hi (by simp [VRel, goI]))
    simp [execOp, ho, resolve, hc, hx, invoke, builtin, Builtin.len_, ht, hv, run_underlying hu, goInt]
  · rename_i e'
    simp only [List.cons.injEq, and_true] at e'
    subst e'
    simp only [Option.some.injEq] at hs
    subst hs
    simp only [VRel] at h1
    refine OpWp.value (v := .int .i64 0) (w' := w) ?_ (Res.same hi (by simp [VRel, goI]))
    simp [execOp, ho, resolve, hc, hx, invoke, builtin, Builtin.len_, ht, h1, run_underlying hu, goInt]
  · rename_i sz id off len cap e'
    simp only [List.cons.injEq, and_true] at e'
    subst e'
    simp only [Option.some.injEq] at hs
    subst hs
    simp only [VRel] at h1
    obtain ⟨-, -, c, hv, -⟩ := h1
    refine OpWp.value (v := .int .i64 len) (w' := w) ?_ (Res.same hi (by simp [VRel, goI]))
    simp [execOp, ho, resolve, hc, hx, invoke, builtin, Builtin.len_, ht, hv, run_underlying hu, goInt]
  · rename_i e'
    simp only [List.cons.injEq, and_true] at e'
    subst e'
    simp only [Option.some.injEq] at hs
    subst hs
    simp only [VRel] at h1
    obtain ⟨A, hv⟩ := h1
    refine OpWp.value (v := .int .i64 0) (w' := w) ?_ (Res.same hi (by simp [VRel, goI]))
    simp [execOp, ho, resolve, hc, hx, invoke, builtin, Builtin.len_, ht, hv, run_underlying hu, goInt]
  · cases hs
theorem lenArr_sound (hi : Inv V L σ w) {c : Call} {x : Operand} {t e : TypeId} {n : Nat} (ho : o.op = .call c) (hc : c.callee = .builtin .len) (hx : c.args = #[x]) (ht : c.argTypes[0]? = some t)
    (hu : P.underlying t = some (.array n e)) (hs : some (goI n) = some d) : OpWp P o a w (Res V w L σ d) := by
  simp only [Option.some.injEq] at hs
  subst hs
  refine OpWp.value (v := .int .i64 n) (w' := w) ?_ (Res.same hi (by simp [VRel, goI]))
  simp [execOp, ho, resolve, hc, hx, invoke, builtin, Builtin.len_, ht, run_underlying hu, goInt]
theorem mx_sound (hi : Inv V L σ w) (he : EnvRel V w env a.tmps) {c : Call} {x y : Operand} {p q : Opd} (ho : o.op = .call c) (hc : c.callee = .builtin .max) (hx : c.args = #[x, y]) (hp : opd x = some p) (hq : opd y = some q)
    (hs : mxSem [p.val env, q.val env] = some d) : OpWp P o a w (Res V w L σ d) := by
  have h1 := opd_rel (a := a) he hp
  have h2 := opd_rel (a := a) he hq
  generalize p.val env = x' at h1 hs
  generalize q.val env = y' at h2 hs
  unfold mxSem at hs
  split at hs
  · rename_i k m k' n e
    simp only [List.cons.injEq, and_true] at e
    obtain ⟨rfl, rfl⟩ := e
    split at hs
    · rename_i hk
      subst hk
      simp only [Option.some.injEq] at hs
      subst hs
      simp only [VRel] at h1 h2
      refine OpWp.value (v := .int k (if n > m then n else m)) (w' := w) ?_ (Res.same hi (by simp [VRel]))
      simp [execOp, ho, resolve, hc, hx, invoke, builtin, Builtin.max_, Builtin.max2, h1, h2]
    · cases hs
  · cases hs
theorem mn_sound (hi : Inv V L σ w) (he : EnvRel V w env a.tmps) {c : Call} {x y : Operand} {p q : Opd} (ho : o.op = .call c) (hc : c.callee = .builtin .min) (hx : c.args = #[x, y]) (hp : opd x = some p) (hq : opd y = some q)
    (hs : mnSem [p.val env, q.val env] = some d) : OpWp P o a w (Res V w L σ d) := by
  have h1 := opd_rel (a := a) he hp
  have h2 := opd_rel (a := a) he hq
  generalize p.val env = x' at h1 hs
  generalize q.val env = y' at h2 hs
  unfold mnSem at hs
  split at hs
  · rename_i k m k' n e
    simp only [List.cons.injEq, and_true] at e
    obtain ⟨rfl, rfl⟩ := e
    split at hs
    · rename_i hk
      subst hk
      simp only [Option.some.injEq] at hs
      subst hs
      simp only [VRel] at h1 h2
      refine OpWp.value (v := .int k (if n < m then n else m)) (w' := w) ?_ (Res.same hi (by simp [VRel]))
      simp [execOp, ho, resolve, hc, hx, invoke, builtin, Builtin.min_, Builtin.min2, h1, h2]
    · cases hs
  · cases hs
theorem okCell_up {d : DVal} {v : Value} (h : VRel V w 0 d v) (hd : d.okCell = true) : VRel V w 1 d v := by
  cases d <;> simp only [DVal.okCell, reduceCtorEq, Bool.false_eq_true] at hd <;> simp only [VRel] at h ⊢
  all_goals first
    | exact h
    | exact ⟨by omega, h.2⟩
    | exact ⟨.inl (by omega), h.2⟩
    | (obtain ⟨u, e, h1⟩ := h; exact ⟨u, e, plain_up h1 hd⟩)
theorem okCells_up : ∀ {ds : List DVal} {vs : List Value}, VRels V w 0 ds vs → ds.all DVal.okCell = true → VRels V w 1 ds vs
  | [], _, h, _ => by simpa only [VRels] using h
  | d :: ds, _, h, hd => by
    simp only [VRels] at h ⊢
    simp only [List.all_cons, Bool.and_eq_true] at hd
    obtain ⟨v, us, rfl, h1, h2⟩ := h
    exact ⟨v, us, rfl, okCell_up h1 hd.1, okCells_up h2 hd.2⟩
theorem mkfunc_sound (hi : Inv V L σ w) (he : EnvRel V w env a.tmps) {f : Nat} {first captured : Array Operand} {qs : List Opd} (ho : o.op = .makeFunc (.func f) first captured) (hf : first = #[]) (hq : opds captured.toList = some qs)
    (hs : (if (qs.map (Opd.val env)).all DVal.okCell then some (DVal.func f (qs.map (Opd.val env))) else none) = some d) : OpWp P o a w (Res V w L σ d) := by
  have h1 := opds_rel (a := a) he hq
  split at hs
  · simp only [Option.some.injEq] at hs
    subst hs
    refine OpWp.value (v := .func (.func f) #[] (captured.map a.eval)) (w' := w) ?_ (Res.same hi ?_)
    · simp [execOp, ho, hf, Instr.makeFunc]
    · simp only [VRel]
      exact ⟨by omega, _, rfl, by simpa using okCells_up h1 ‹_›⟩
  · cases hs
theorem nilchk_sound (hi : Inv V L σ w) (he : EnvRel V w env a.tmps) {x : Operand} {q : Opd} (ho : o.op = .nilCheck x) (hq : opd x = some q) (hs : nilchkSem [q.val env] = some d) : OpWp P o a w (Res V w L σ d) := by
  have h1 := opd_rel (a := a) he hq
  generalize q.val env = x' at h1 hs
  simp only [nilchkSem] at hs
  split at hs <;> simp only [Option.some.injEq, reduceCtorEq] at hs <;> subst hs
  · have h2 := h1
    simp only [VRel] at h2
    obtain ⟨-, -, -, A, hv, -⟩ := h2
    refine OpWp.value (v := a.eval x) (w' := w) ?_ (Res.same hi h1)
    simp [execOp, ho, hv]
  · have h2 := h1
    simp only [VRel] at h2
    obtain ⟨-, -, hv⟩ := h2
    refine OpWp.value (v := a.eval x) (w' := w) ?_ (Res.same hi h1)
    simp [execOp, ho, hv]
  · have h2 := h1
    simp only [VRel] at h2
    obtain ⟨-, b, base, hv, -⟩ := h2
    refine OpWp.value (v := a.eval x) (w' := w) ?_ (Res.same hi h1)
    simp [execOp, ho, hv]
  · have h2 := h1
    simp only [VRel] at h2
    obtain ⟨-, vs, hv, -⟩ := h2
    refine OpWp.value (v := a.eval x) (w' := w) ?_ (Res.same hi h1)
    simp [execOp, ho, hv]
end
end Go.Proofs.YtklepphkbbjbjaaDoor
namespace Go.Proofs.YtklepphkbbjbjaaDoor
set_option linter.unusedVariables false
set_option maxHeartbeats 1000000
set_option linter.unusedSimpArgs false
open Go
theorem okCell_one {V : Vw} {w : World} {d : DVal} {v : Value} (h : VRel V w 0 d v) (hd : d.okCell = true) : v.oneCell' = true := by
  cases d <;> simp [DVal.okCell] at hd <;> simp only [VRel] at h
  all_goals first
    | (subst h; rfl)
    | (obtain ⟨-, -, rfl⟩ := h; rfl)
    | (obtain ⟨-, b, off, cap, rfl, -⟩ := h; rfl)
    | (obtain ⟨-, vs, rfl, -⟩ := h; rfl)
    | (obtain ⟨u, rfl, -⟩ := h; rfl)
    | (obtain ⟨-, -, c, rfl, -⟩ := h; rfl)
theorem okCells_one {V : Vw} {w : World} : ∀ {ds : List DVal} {vs : List Value}, VRels V w 0 ds vs → ds.all DVal.okCell = true → ∀ v ∈ vs, v.oneCell' = true
  | [], vs, h, _, v, hv => by simp only [VRels] at h; subst h; simp at hv
  | d :: ds, vs, h, hd, v, hv => by
    simp only [VRels] at h
    obtain ⟨u, us, rfl, h1, h2⟩ := h
    simp only [List.all_cons, Bool.and_eq_true] at hd
    rcases List.mem_cons.1 hv with rfl | hv
    · exact okCell_one h1 hd.1
    · exact okCells_one h2 hd.2 v hv
theorem sealCell_one {V : Vw} {w : World} {d e : DVal} {v : Value} (h : VRel V w 0 d v) (hs : d.sealCell = some e) : v.oneCell' = true := by
  cases d <;> simp only [DVal.sealCell, reduceCtorEq] at hs <;> simp only [VRel] at h
  all_goals first
    | (subst h; rfl)
    | (obtain ⟨-, b, off, cap, rfl, -⟩ := h; rfl)
    | (obtain ⟨u, rfl, -⟩ := h; rfl)
theorem sealCells_one {V : Vw} {w : World} : ∀ {ds es : List DVal} {vs : List Value}, VRels V w 0 ds vs → sealCells ds = some es → ∀ v ∈ vs, v.oneCell' = true
  | [], _, vs, h, _, v, hv => by simp only [VRels] at h; subst h; simp at hv
  | d :: ds, es, vs, h, hs, v, hv => by
    simp only [VRels] at h
    obtain ⟨u, us, rfl, h1, h2⟩ := h
    simp only [sealCells] at hs
    split at hs
    · rename_i e es h3 h4
      rcases List.mem_cons.1 hv with rfl | hv
      · exact sealCell_one h1 h3
      · exact sealCells_one h2 h4 v hv
    · cases hs
theorem mapM_run {α β : Type} {P : Program} {w : World} {g : α → Sem β} {h : α → β} : ∀ {l : List α}, (∀ x ∈ l, (g x).run P w = .ok (h x) w) → (l.mapM g).run P w = .ok (l.map h) w
  | [], _ => by simp
  | x :: l, hl => by
    have h1 := hl x (by simp)
    have h2 := mapM_run (P := P) (w := w) (g := g) (h := h) (l := l) (fun y hy => hl y (by simp [hy]))
    simp [List.mapM_cons, h1, h2]
theorem arrMapM_run {α β : Type} {P : Program} {w : World} {g : α → Sem β} {h : α → β} {l : Array α} (hl : ∀ x ∈ l.toList, (g x).run P w = .ok (h x) w) : (l.mapM g).run P w = .ok (l.map h) w := by
  rw [Array.mapM_eq_mapM_toList]
  simp only [Sem.run_map, mapM_run hl, Result.andThen_ok]
  congr 1
  exact Array.ext' (by simp)
theorem foldl_put : ∀ (vs : List Value) (k off : Nat) (cs : Array Value), off + k + vs.length ≤ cs.size →
    ((vs.zipIdx k).foldl (fun (cs : Array Value) (x : Value × Nat) => cs.setIfInBounds (off + x.2) x.1) cs).toList = cs.toList.take (off + k) ++ vs ++ cs.toList.drop (off + k + vs.length)
  | [], k, off, cs, _ => by simp
  | v :: vs, k, off, cs, h => by
    simp only [List.length_cons] at h
    have ih := foldl_put vs (k + 1) off (cs.setIfInBounds (off + k) v) (by simp; omega)
    simp only [List.zipIdx_cons, List.foldl_cons]
    rw [ih]
    have hlt : off + k < cs.toList.length := by simp; omega
    simp only [Array.toList_setIfInBounds, List.length_cons]
    rw [List.take_set, List.drop_set]
    rw [show off + (k + 1) = off + k + 1 by omega, List.take_succ_eq_append_getElem hlt]
    rw [if_pos (by omega)]
    rw [List.set_append_right _ _ (by simp; omega)]
    simp only [List.length_take]
    rw [show min (off + k) cs.toList.length = off + k by omega, Nat.sub_self]
    simp [List.append_assoc]
    congr 1
    omega
theorem fill_one {n off : Nat} {v : Value} {cells : Array Value} (hv : v.cells.size = n) (hl : off + n ≤ cells.size) :
    (v.cells.zipIdx.foldl (fun cs (c, j) => cs.setIfInBounds (off + j) c) cells).toList = cells.toList.take off ++ v.cells.toList ++ cells.toList.drop (off + n) := by
  have := foldl_put v.cells.toList 0 off cells (by simp; omega)
  rw [← Array.foldl_toList]
  simp only [Array.toList_zipIdx] at this ⊢
  rw [show off + n = off + 0 + v.cells.toList.length by simp; omega]
  simpa using this
theorem writeCells_rel {V : Vw} {w : World} {cl : Nat} {cs new cs' : List DVal} {vs us : List Value} {off : Nat} (h : VRels V w cl cs vs) (hn : VRels V w cl new us) (hw : writeCells cs off new = some cs') :
    off + us.length ≤ vs.length ∧ VRels V w cl cs' (vs.take off ++ us ++ vs.drop (off + us.length)) := by
  simp only [writeCells] at hw
  split at hw
  · rename_i hl
    simp only [Option.some.injEq] at hw
    subst hw
    have e1 := h.length
    have e2 := hn.length
    refine ⟨by omega, ?_⟩
    rw [← List.append_assoc, e2]
    exact ((h.take off).append hn).append (h.drop _)
  · cases hw
theorem fill_rel {V : Vw} {w : World} {cl : Nat} {place : Nat → Option (Nat × Nat)} : ∀ {is : List Nat} {ps : List (Nat × Nat)} {cs ds cs' : List DVal} {cells : Array Value} {us : List Value},
    (∀ (k i : Nat) (p : Nat × Nat), is[k]? = some i → ps[k]? = some p → place i = some p) → is.length = ps.length → VRels V w cl cs cells.toList → VRels V w cl ds us → fillCells cs ps ds = some cs' →
    ∃ cells', Instr.fill place cells (is.zip us) = some cells' ∧ VRels V w cl cs' cells'.toList
  | [], [], cs, ds, cs', cells, us, _, _, h1, h2, hf => by
    cases ds with
    | nil => simp only [fillCells, Option.some.injEq] at hf; subst hf; exact ⟨cells, by simp [Instr.fill], h1⟩
    | cons d ds => simp [fillCells] at hf
  | i :: is, p :: ps, cs, ds, cs', cells, us, hp, hlen, h1, h2, hf => by
    obtain ⟨off, n⟩ := p
    cases ds with
    | nil => simp [fillCells] at hf
    | cons d ds =>
      simp only [VRels] at h2
      obtain ⟨v, us, rfl, h3, h4⟩ := h2
      simp only [fillCells] at hf
      split at hf
      · rename_i hn
        simp only [Option.bind_eq_some_iff] at hf
        obtain ⟨cs1, hw, hf⟩ := hf
        have hc := h3.cells
        have hsz : v.cells.size = n := by have := hc.length; simp at this; omega
        obtain ⟨hl, hr⟩ := writeCells_rel h1 hc hw
        simp only [Array.length_toList] at hl
        have hfo := fill_one (off := off) (cells := cells) hsz (by omega)
        have hr' : VRels V w cl cs1 (v.cells.zipIdx.foldl (fun cs (c, j) => cs.setIfInBounds (off + j) c) cells).toList := by
          rw [hfo]
          rw [show v.cells.toList.length = n by simp [hsz]] at hr
          exact hr
        obtain ⟨cells', g1, g2⟩ := fill_rel (is := is) (fun k i p hi hp' => hp (k + 1) i p (by simpa using hi) (by simpa using hp')) (by simpa using hlen) hr' h4 hf
        refine ⟨cells', ?_, g2⟩
        have hpl := hp 0 i (off, n) (by simp) (by simp)
        have hno : ¬ (cells.size < off + v.cells.size) := by omega
        simp only [List.zip_cons_cons, Instr.fill, hpl, hsz]
        rw [if_neg (by simp; omega)]
        exact g1
      · cases hf
  | [], _ :: _, _, _, _, _, _, _, h, _, _, _ => by simp at h
  | _ :: _, [], _, _, _, _, _, _, h, _, _, _ => by simp at h
theorem places_get {P : Program} {fs : Array Field} : ∀ {is : List Nat} {ps : List (Nat × Nat)}, places P fs is = some ps → is.length = ps.length ∧ ∀ (k i : Nat) (p : Nat × Nat), is[k]? = some i → ps[k]? = some p → ∃ f n, fs[i]? = some f ∧ szOf P f.type = some n ∧ p = (f.offset, n)
  | [], ps, h => by simp only [places, Option.some.injEq] at h; subst h; exact ⟨rfl, fun k i p hi => by simp at hi⟩
  | j :: is, ps, h => by
    simp only [places] at h
    split at h
    · rename_i f qs h1 h2
      simp only [Option.map_eq_some_iff] at h
      obtain ⟨n, h3, rfl⟩ := h
      obtain ⟨h4, h5⟩ := places_get h2
      refine ⟨by simp [h4], fun k i p hi hp => ?_⟩
      cases k with
      | zero => simp at hi hp; subst hi hp; exact ⟨f, n, h1, h3, rfl⟩
      | succ k => exact h5 k i p (by simpa using hi) (by simpa using hp)
    · cases h
theorem zip_parts (a : Act) : ∀ (l : List (Nat × Operand)), (l.map fun (i, x) => (i, a.eval x)) = (l.map (·.1)).zip ((l.map (·.2)).map a.eval)
  | [] => rfl
  | x :: l => by simp [List.zip_cons_cons, zip_parts a l]
theorem szOf_of {P : Program} {t : TypeId} {i : TypeInfo} (h : P.info? t = some i) : szOf P t = some i.size := by simp [szOf, h]
section
variable {P : Program} {h : Hint} {V : Vw} {w : World} {L : Nat → Nat × DVal} {σ : Sto} {env : Nat → DVal} {a : Act} {d : DVal} {o : Oper}
theorem build_sound (hi : Inv V L σ w) (he : EnvRel V w env a.tmps) {t : TypeId} {parts : Array (Nat × Operand)} {fs : Array Field} {z : List DVal} {ps : List (Nat × Nat)} {qs : List Opd} (ho : o.op = .build t parts)
    (hu : P.underlying t = some (.struct fs)) (hz : ((P.info? t).bind (·.zero)).bind ofVal = some (.agg z)) (hall : ∀ f ∈ fs.toList, (szOf P f.type).isSome = true) (hp : places P fs (parts.toList.map (·.1)) = some ps)
    (hq : opds (parts.toList.map (·.2)) = some qs) (hs : (fillCells z ps (qs.map (Opd.val env))).map DVal.agg = some d) : OpWp P o a w (Res V w L σ d) := by
  have h1 := opds_rel (a := a) he hq
  simp only [Option.bind_eq_some_iff] at hz
  obtain ⟨zv, ⟨i, hi1, hi2⟩, hz2⟩ := hz
  have hzr : VRel V w 0 (.agg z) zv := (ofVal_rel (V := V) (w := w) hz2).open'
  simp only [VRel] at hzr
  obtain ⟨zs, rfl, hzr⟩ := hzr
  simp only [Option.map_eq_some_iff] at hs
  obtain ⟨cs', hf, rfl⟩ := hs
  obtain ⟨hlen, hget⟩ := places_get hp
  obtain ⟨cells', g1, g2⟩ := fill_rel (place := fun k => (fs.map fun (f : Field) => (f.offset, (szOf P f.type).getD 0))[k]?) (fun k i p hi hp' => by
    obtain ⟨f, n, a1, a2, rfl⟩ := hget k i p hi hp'
    simp [a1, a2]) hlen hzr h1 hf
  have hm := arrMapM_run (P := P) (w := w) (l := fs) (g := fun (f : Field) => do pure (f.offset, ← sizeOf f.type)) (h := fun (f : Field) => (f.offset, (szOf P f.type).getD 0)) (fun f hf => by
    obtain ⟨n, hn⟩ := Option.isSome_iff_exists.1 (hall f hf)
    simp [run_sizeOf hn, hn])
  refine OpWp.value (v := .agg cells') (w' := w) ?_ (Res.same hi (by simp only [VRel]; exact ⟨_, rfl, g2⟩))
  have hzip : (parts.map fun (i, x) => (i, a.eval x)).toList = (parts.toList.map (·.1)).zip ((parts.toList.map (·.2)).map a.eval) := by
    rw [Array.toList_map]
    exact zip_parts a parts.toList
  rw [← hzip] at g1
  simp only [execOp, ho, Instr.build, Sem.run_bind, zeroValue, typeInfo, run_program, Result.andThen_ok, hi1, hi2, Sem.run_pure, run_underlying hu, Value.cells]
  rw [hm]
  simp only [Result.andThen_ok, g1, Sem.run_pure]
theorem buildA_sound (hi : Inv V L σ w) (he : EnvRel V w env a.tmps) {t e : TypeId} {len k : Nat} {parts : Array (Nat × Operand)} {z : List DVal} {qs : List Opd} (ho : o.op = .build t parts)
    (hu : P.underlying t = some (.array len e)) (hz : ((P.info? t).bind (·.zero)).bind ofVal = some (.agg z)) (hk : szOf P e = some k)
    (hq : opds (parts.toList.map (·.2)) = some qs) (hs : (fillCells z (parts.toList.map fun p => (p.1 * k, k)) (qs.map (Opd.val env))).map DVal.agg = some d) : OpWp P o a w (Res V w L σ d) := by
  have h1 := opds_rel (a := a) he hq
  simp only [Option.bind_eq_some_iff] at hz
  obtain ⟨zv, ⟨i, hi1, hi2⟩, hz2⟩ := hz
  have hzr : VRel V w 0 (.agg z) zv := (ofVal_rel (V := V) (w := w) hz2).open'
  simp only [VRel] at hzr
  obtain ⟨zs, rfl, hzr⟩ := hzr
  simp only [Option.map_eq_some_iff] at hs
  obtain ⟨cs', hf, rfl⟩ := hs
  obtain ⟨cells', g1, g2⟩ := fill_rel (place := fun i => some (i * k, k)) (is := parts.toList.map (·.1)) (fun j i p hi hp' => by
    rw [List.getElem?_map, Option.map_eq_some_iff] at hi hp'
    obtain ⟨x, hx, rfl⟩ := hi
    obtain ⟨y, hy, rfl⟩ := hp'
    rw [hx] at hy
    cases hy
    rfl) (by simp) hzr h1 hf
  refine OpWp.value (v := .agg cells') (w' := w) ?_ (Res.same hi (by simp only [VRel]; exact ⟨_, rfl, g2⟩))
  have hzip : (parts.map fun (i, x) => (i, a.eval x)).toList = (parts.toList.map (·.1)).zip ((parts.toList.map (·.2)).map a.eval) := by
    rw [Array.toList_map]
    exact zip_parts a parts.toList
  rw [← hzip] at g1
  simp only [execOp, ho, Instr.build, Sem.run_bind, zeroValue, typeInfo, run_program, Result.andThen_ok, hi1, hi2, Sem.run_pure, run_underlying hu, Value.cells, run_sizeOf hk, g1]
theorem RowRel.mk {V : Vw} {w : World} {cl : Nat} {b : Nat} : ∀ {cs : List DVal} {off : Nat} {vs : List Value}, (∀ i, i < cs.length → V.imm b (off + i)) → VRels V w cl cs vs → (∀ i v, vs[i]? = some v → w.cell? ⟨b, off + i, none⟩ = some v ∧ v.oneCell' = true) → RowRel V w cl b off cs
  | [], off, vs, _, _, _ => by simp [RowRel]
  | c :: cs, off, vs, h1, h2, h3 => by
    simp only [VRels] at h2
    obtain ⟨v, us, rfl, h4, h5⟩ := h2
    simp only [RowRel]
    refine ⟨by simpa using h1 0 (by simp), ⟨v, by simpa using (h3 0 v (by simp)).1, (h3 0 v (by simp)).2, h4⟩, RowRel.mk (fun i hi => ?_) h5 (fun i u hu => ?_)⟩
    · rw [show off + 1 + i = off + (i + 1) by omega]; exact h1 (i + 1) (by simpa using hi)
    · rw [show off + 1 + i = off + (i + 1) by omega]; exact h3 (i + 1) u (by simpa using hu)
theorem RowsRel.mk {V : Vw} {w : World} {cl : Nat} {b sz : Nat} : ∀ {es : List (List DVal)} {off : Nat} {vs : List Value}, (∀ e ∈ es, e.length = sz) → (∀ i, i < es.flatten.length → V.imm b (off + i)) → VRels V w cl es.flatten vs →
    (∀ i v, vs[i]? = some v → w.cell? ⟨b, off + i, none⟩ = some v ∧ v.oneCell' = true) → RowsRel V w cl b sz off es
  | [], off, vs, _, _, _, _ => by simp [RowsRel]
  | e :: es, off, vs, h0, h1, h2, h3 => by
    rw [List.flatten_cons] at h1 h2
    obtain ⟨us, ws, rfl, h4, h5⟩ := h2.of_append
    have he := h0 e (by simp)
    have hl := h4.length
    simp only [RowsRel]
    refine ⟨he, RowRel.mk (fun i hi => h1 i (by rw [List.length_append]; omega)) h4 (fun i v hv => h3 i v ?_), RowsRel.mk (fun e' he' => h0 e' (by simp [he'])) (fun i hi => ?_) h5 (fun i v hv => ?_)⟩
    · rw [List.getElem?_append_left (List.getElem?_eq_some_iff.1 hv).1]; exact hv
    · rw [show off + sz + i = off + (sz + i) by omega]; exact h1 (sz + i) (by rw [List.length_append]; omega)
    · rw [show off + sz + i = off + (sz + i) by omega]
      refine h3 (sz + i) v ?_
      rw [List.getElem?_append_right (by omega)]
      rw [show sz + i - us.length = i by omega]
      exact hv
theorem bytes_vals {V : Vw} {w : World} {m : Nat} : ∀ {es : List (List DVal)} {l : List UInt8} {vs : List Value}, bytesOf es = some l → VRels V w m es.flatten vs → es.length = l.length ∧ vs = l.map fun b => Value.int .u8 (b.toNat : Int)
  | [], l, vs, h, hv => by
    simp only [bytesOf, Option.some.injEq] at h
    subst h
    simp only [List.flatten_nil, VRels] at hv
    subst hv
    exact ⟨rfl, rfl⟩
  | e :: es, l, vs, h, hv => by
    unfold bytesOf at h
    split at h
    · rename_i e2; cases e2
    · rename_i n es' e2
      simp only [List.cons.injEq] at e2
      obtain ⟨rfl, rfl⟩ := e2
      split at h
      · rename_i hn
        simp only [Option.map_eq_some_iff] at h
        obtain ⟨k, hk, rfl⟩ := h
        rw [List.flatten_cons] at hv
        simp only [List.singleton_append, VRels, VRel] at hv
        obtain ⟨v, us, rfl, rfl, h2⟩ := hv
        obtain ⟨h3, h4⟩ := bytes_vals hk h2
        refine ⟨by simp [h3], ?_⟩
        rw [List.map_cons, ← h4]
        congr 2
        have : n.toNat < 256 := by omega
        simp only [Nat.toUInt8_eq, UInt8.toNat_ofNat']
        omega
      · cases h
    · cases h
theorem RowsRel.vals {V : Vw} {w : World} {cl : Nat} {b sz : Nat} : ∀ {es : List (List DVal)} {off : Nat}, RowsRel V w cl b sz off es → (∀ e ∈ es, e.length = sz) ∧ (∀ i, i < es.flatten.length → V.imm b (off + i)) ∧
    ∃ vs, VRels V w cl es.flatten vs ∧ ∀ i v, vs[i]? = some v → w.cell? ⟨b, off + i, none⟩ = some v ∧ v.oneCell' = true
  | [], off, _ => ⟨by simp, by simp, [], by simp [VRels], by simp⟩
  | e :: es, off, h => by
    simp only [RowsRel] at h
    obtain ⟨h1, h2, h3⟩ := h
    obtain ⟨k1, k2, ws, k3, k4⟩ := RowsRel.vals h3
    obtain ⟨us, m1, m2⟩ := h2.vals
    have hl := m1.length
    refine ⟨by simpa [h1] using k1, fun i hi => ?_, us ++ ws, by rw [List.flatten_cons]; exact m1.append k3, fun i v hv => ?_⟩
    · rw [List.flatten_cons, List.length_append] at hi
      by_cases hc : i < e.length
      · have hg : e[i]? = some e[i] := List.getElem?_eq_getElem hc
        exact (h2.get hg).1
      · have := k2 (i - e.length) (by omega)
        rw [show off + sz + (i - e.length) = off + i by omega] at this
        exact this
    · by_cases hc : i < us.length
      · rw [List.getElem?_append_left hc] at hv
        exact m2 i v hv
      · rw [List.getElem?_append_right (by omega)] at hv
        have := k4 _ v hv
        rw [show off + sz + (i - us.length) = off + i by omega] at this
        exact this
theorem flatten_length {sz : Nat} : ∀ {es : List (List DVal)}, (∀ e ∈ es, e.length = sz) → es.flatten.length = es.length * sz
  | [], _ => by simp
  | e :: es, h => by
    have h1 := h e (by simp)
    have h2 := flatten_length (es := es) (fun x hx => h x (by simp [hx]))
    simp only [List.flatten_cons, List.length_append, List.length_cons, Nat.add_mul]
    omega
theorem RowsRel.drop {V : Vw} {w : World} {cl : Nat} {b sz : Nat} : ∀ {es : List (List DVal)} {off : Nat} (n : Nat), RowsRel V w cl b sz off es → RowsRel V w cl b sz (off + n * sz) (es.drop n)
  | es, off, 0, h => by simpa using h
  | [], off, n + 1, h => by simp [RowsRel]
  | e :: es, off, n + 1, h => by
    simp only [RowsRel] at h
    have := RowsRel.drop n h.2.2
    rw [show off + sz + n * sz = off + (n + 1) * sz by rw [Nat.add_mul]; omega] at this
    simpa using this
theorem RowsRel.take {V : Vw} {w : World} {cl : Nat} {b sz : Nat} : ∀ {es : List (List DVal)} {off : Nat} (n : Nat), RowsRel V w cl b sz off es → RowsRel V w cl b sz off (es.take n)
  | es, off, 0, h => by simp [RowsRel]
  | [], off, n + 1, h => by simp [RowsRel]
  | e :: es, off, n + 1, h => by
    simp only [RowsRel, List.take_succ_cons] at h ⊢
    exact ⟨h.1, h.2.1, h.2.2.take n⟩
theorem sealElems_rel {V : Vw} {w : World} {pt : Bool} {sz : Nat} : ∀ {ds : List DVal} {us : List Value} {es : List (List DVal)}, VRels V w 0 ds us → sealElems pt sz ds = some es →
    (∀ e ∈ es, e.length = sz) ∧ VRels V w (emode pt) es.flatten (us.flatMap fun u => u.cells.toList) ∧ (∀ u ∈ us, u.cells.size = sz ∧ ∀ c ∈ u.cells.toList, c.oneCell' = true) ∧ es.length = us.length
  | [], us, es, h, hs => by
    simp only [sealElems, Option.some.injEq] at hs
    simp only [VRels] at h
    subst hs h
    simp [VRels]
  | d :: ds, us, es, h, hs => by
    simp only [VRels] at h
    obtain ⟨v, us, rfl, h1, h2⟩ := h
    simp only [sealElems] at hs
    split at hs
    · rename_i hn
      split at hs
      · rename_i e es' he hes
        simp only [Option.some.injEq] at hs
        subst hs
        obtain ⟨k1, k2, k3, k4⟩ := sealElems_rel h2 hes
        have hc := h1.cells
        have hsz : v.cells.size = sz := by have := hc.length; simp at this; omega
        have hel : VRels V w (emode pt) e v.cells.toList ∧ e.length = sz ∧ ∀ c ∈ v.cells.toList, c.oneCell' = true := by
          cases pt with
          | true =>
            simp only [if_true] at he
            split at he
            · rename_i hall
              simp only [Option.some.injEq] at he
              subst he
              exact ⟨okCells_up hc hall, hn, okCells_one hc hall⟩
            · cases he
          | false =>
            simp only [Bool.false_eq_true, if_false] at he
            have hr := sealCells_rel hc he
            exact ⟨hr, by have := hr.length; simp at this; omega, sealCells_one hc he⟩
        refine ⟨by simpa [hel.2.1] using k1, ?_, ?_, by simp [k4]⟩
        rotate_left
        · intro u hu
          rcases List.mem_cons.1 hu with rfl | hu
          · exact ⟨hsz, hel.2.2⟩
          · exact k3 u hu
        rw [List.flatten_cons, List.flatMap_cons]
        exact hel.1.append k2
      · cases hs
    · cases hs
theorem fillAll {sz : Nat} : ∀ {us : List Value} {k : Nat} {cells : Array Value}, (∀ u ∈ us, u.cells.size = sz) → (k + us.length) * sz ≤ cells.size →
    ∃ cells', Instr.fill (fun i => some (i * sz, sz)) cells ((List.range' k us.length).zip us) = some cells' ∧ cells'.toList = cells.toList.take (k * sz) ++ (us.flatMap fun u => u.cells.toList) ++ cells.toList.drop ((k + us.length) * sz)
  | [], k, cells, _, _ => ⟨cells, by simp [Instr.fill], by simp⟩
  | u :: us, k, cells, h, hl => by
    have hu := h u (by simp)
    simp only [List.length_cons] at hl
    have h1 : (k + 1) * sz ≤ (k + (us.length + 1)) * sz := Nat.mul_le_mul_right _ (by omega)
    have h1' : (k + 1) * sz = k * sz + sz := by rw [Nat.add_mul, Nat.one_mul]
    have hf := fill_one (off := k * sz) (cells := cells) hu (by omega)
    have hsize : (u.cells.zipIdx.foldl (fun cs (c, j) => cs.setIfInBounds (k * sz + j) c) cells).size = cells.size := by
      have := congrArg List.length hf
      rw [Array.length_toList] at this
      rw [this]
      simp
      omega
    obtain ⟨cells', g1, g2⟩ := fillAll (us := us) (k := k + 1) (cells := u.cells.zipIdx.foldl (fun cs (c, j) => cs.setIfInBounds (k * sz + j) c) cells) (fun x hx => h x (by simp [hx])) (by rw [hsize, show k + 1 + us.length = k + (us.length + 1) by omega]; exact hl)
    refine ⟨cells', ?_, ?_⟩
    · simp only [List.length_cons, List.range'_succ, List.zip_cons_cons, Instr.fill, hu]
      rw [if_neg (by simp; omega)]
      exact g1
    · rw [g2, hf, List.flatMap_cons]
      simp only [List.length_cons]
      rw [show k + 1 + us.length = k + (us.length + 1) by omega]
      have e1 : (List.take (k * sz) cells.toList ++ u.cells.toList ++ List.drop (k * sz + sz) cells.toList).take ((k + 1) * sz) = List.take (k * sz) cells.toList ++ u.cells.toList := by
        rw [List.take_left']
        simp; omega
      have e2 : (List.take (k * sz) cells.toList ++ u.cells.toList ++ List.drop (k * sz + sz) cells.toList).drop ((k + (us.length + 1)) * sz) = cells.toList.drop ((k + (us.length + 1)) * sz) := by
        rw [List.drop_append]
        have hlen : (List.take (k * sz) cells.toList ++ u.cells.toList).length = (k + 1) * sz := by simp; omega
        rw [List.drop_eq_nil_of_le (by rw [hlen]; exact h1), hlen, List.nil_append, List.drop_drop]
        congr 1
        omega
      rw [e1, e2]
      simp [List.append_assoc]
theorem bslice_sound (hi : Inv V L σ w) (he : EnvRel V w env a.tmps) {t e : TypeId} {len : Nat} {parts : Array (Nat × Operand)} {i : TypeInfo} {pt : Bool} {qs : List Opd} (ho : o.op = .buildSlice t len parts)
    (hu : P.underlying t = some (.slice e)) (hi1 : P.info? e = some i) (hz : i.zero.isSome = true) (hsmall : len * i.size ≤ 2 ^ 24) (hp : parts.toList.map (·.1) = List.range len)
    (hq : opds (parts.toList.map (·.2)) = some qs) (hs : (sealElems pt i.size (qs.map (Opd.val env))).map (fun es => DVal.slice pt 1 i.size es) = some d) : OpWp P o a w (Res V w L σ d) := by
  have h1 := opds_rel (a := a) he hq
  simp only [Option.map_eq_some_iff] at hs
  obtain ⟨es, hes, rfl⟩ := hs
  obtain ⟨k1, k2, k3, k4⟩ := sealElems_rel h1 hes
  obtain ⟨z, hz⟩ := Option.isSome_iff_exists.1 hz
  have hlen : ((parts.toList.map (·.2)).map a.eval).length = len := by
    have := congrArg List.length hp
    simpa using this
  let zeroCells : Array Value := if len * i.size = 0 then #[] else z.cells
  obtain ⟨cells', g1, g2⟩ := fillAll (us := (parts.toList.map (·.2)).map a.eval) (k := 0) (cells := (Array.range (len * i.size)).map (zeroCells[· % zeroCells.size]!)) (fun u hu => (k3 u hu).1) (by simp at hlen ⊢; rw [hlen]; exact Nat.le_refl _)
  rw [hlen] at g1 g2
  have hcells : cells'.toList = ((parts.toList.map (·.2)).map a.eval).flatMap fun u => u.cells.toList := by
    rw [g2]
    rw [List.drop_eq_nil_of_le (by simp)]
    simp
  obtain ⟨ha, hinv⟩ := hi.newImm (.cells cells' e)
  have hzip := zip_parts a parts.toList
  rw [hp] at hzip
  have hk2 := VRels.ext ha.ei _ (emode pt) _ (fun _ => ha.er) (fun _ => ha.el) k2
  refine OpWp.value (v := .slice (some ⟨w.heap.size, 0, none⟩) len len) (w' := w.alloc (.cells cells' e)) ?_ ⟨_, ha, hinv, ?_⟩
  · rw [List.range_eq_range', ← Array.toList_map] at hzip
    rw [← hzip] at g1
    have hno : ¬ (16777216 < len * i.size) := by omega
    simp only [execOp, ho, Instr.buildSlice, Sem.run_bind, run_underlying hu, Result.andThen_ok, run_sizeOf (szOf_of hi1), Sem.run_ite]
    rw [if_neg (by omega)]
    simp only [Sem.run_pure, Result.andThen_ok]
    by_cases h0 : len * i.size = 0
    · simp only [h0, if_true, Sem.run_pure, Result.andThen_ok]
      simp only [zeroCells, h0, if_true] at g1
      simp only [g1, newRow, Sem.run_bind, run_newObj, Result.andThen_ok, Sem.run_pure]
      rfl
    · simp only [h0, if_false, Sem.run_bind, zeroValue, typeInfo, run_program, Result.andThen_ok, hi1, hz, Sem.run_pure]
      simp only [zeroCells, h0, if_false] at g1
      simp only [g1, newRow, Sem.run_bind, run_newObj, Result.andThen_ok, Sem.run_pure]
      rfl
  · have hel : es.length = len := by rw [k4, hlen]
    simp only [VRel]
    refine ⟨.inl (by omega), w.heap.size, 0, len, by rw [hel], by omega, ⟨by omega, fun _ => hel.symm, fun e => by omega⟩, ?_⟩
    refine RowsRel.mk k1 (fun j hj => ?_) hk2 (fun j v hv => ?_)
    · refine .inr ⟨hi.hB, .inl ?_⟩
      simp [upd]
    · constructor
      · rw [cell_of_row _ _ _ _ _ _ (heap_alloc_new w _)]
        rw [← hcells] at hv
        simpa using hv
      · obtain ⟨u, hu, hc⟩ := List.mem_flatMap.1 (List.mem_of_getElem? hv)
        exact (k3 u hu).2 v hc
theorem len2 {α : Type} {xs : List α} (h : xs.length = 2) : ∃ x y, xs = [x, y] := by
  match xs, h with
  | [x, y], _ => exact ⟨x, y, rfl⟩
theorem len3 {α : Type} {xs : List α} (h : xs.length = 3) : ∃ x y z, xs = [x, y, z] := by
  match xs, h with
  | [x, y, z], _ => exact ⟨x, y, z, rfl⟩
theorem slcOwn {V : Vw} {w : World} {own sz len b off cap l h : Nat} {lo m : Bool} (ho : OwnRel V w own sz len b off cap) (h1 : l ≤ h) (h2 : h ≤ len) (h0 : lo = false → l = 0) :
    OwnRel V w (if m then 1 else if lo then 0 else if own = 1 then 0 else own) sz (h - l) b (if lo then off + l * sz else off) ((if m then h else cap) - l) := by
  obtain ⟨o1, o2, o3⟩ := ho
  cases m with
  | true => exact ⟨by simp, fun _ => by simp, fun e => by simp at e⟩
  | false =>
    cases lo with
    | true => exact ⟨by simp, fun e => by simp at e, fun e => by simp at e⟩
    | false =>
      have := h0 rfl
      subst this
      simp only [Bool.false_eq_true, if_false, Nat.sub_zero]
      by_cases e1 : own = 1
      · rw [if_pos e1]
        exact ⟨by simp, fun e => by simp at e, fun e => by simp at e⟩
      · rw [if_neg e1]
        refine ⟨o1, fun e => absurd e e1, fun e => ?_⟩
        obtain ⟨p1, p2, p3⟩ := o3 e
        have hle : h * sz ≤ len * sz := Nat.mul_le_mul_right _ h2
        exact ⟨p1, by omega, fun ez => p3 (by omega)⟩
theorem optCount_some (x : Operand) : optCount (some x) = [x] := rfl
theorem optCount_none : optCount none = [] := rfl
theorem bounds_run {isSlice : Bool} {lo hi mx : Option Operand} {len cap : Nat} {xs : List DVal} {l h : Nat} (hcap : len ≤ cap)
    (hr : VRels V w 0 xs ((optCount lo ++ optCount hi ++ optCount mx).map a.eval)) (hb : bounds lo.isSome hi.isSome mx.isSome len xs = some (l, h)) :
    l ≤ h ∧ h ≤ len ∧ (lo = none → l = 0) ∧ (Instr.sliceBounds isSlice len cap (lo.map a.eval) (hi.map a.eval) (mx.map a.eval)).run P w = .ok (l, h, if mx.isSome then h else cap) w := by
  cases lo <;> cases hi <;> cases mx <;> simp only [Option.isSome_none, Option.isSome_some, optCount_some, optCount_none, List.nil_append, List.append_nil, List.cons_append, List.map_cons, List.map_nil] at hr hb
  · -- no bound
    cases xs with
    | nil =>
      simp only [bounds, Option.some.injEq, Prod.mk.injEq] at hb
      obtain ⟨rfl, rfl⟩ := hb
      refine ⟨Nat.zero_le _, Nat.le_refl _, fun _ => rfl, ?_⟩
      simp [Instr.sliceBounds]
    | cons x xs => simp [bounds] at hb
  · -- max alone
    rename_i m
    cases xs <;> simp [bounds] at hb
  · -- high
    rename_i hiO
    obtain ⟨x, rfl⟩ : ∃ x, xs = [x] := by
      have := hr.length
      simp at this
      exact List.length_eq_one_iff.1 (by omega)
    obtain ⟨v, hv, h1⟩ := hr.one
    simp only [List.cons.injEq, and_true] at hv
    cases x <;> simp only [bounds, reduceCtorEq] at hb
    rename_i k j
    simp only [VRel] at h1
    split at hb
    · rename_i hc
      simp only [Option.some.injEq, Prod.mk.injEq] at hb
      obtain ⟨rfl, rfl⟩ := hb
      refine ⟨Nat.zero_le _, by omega, fun _ => rfl, ?_⟩
      rw [h1] at hv
      simp [Instr.sliceBounds, hv, run_sliceBound w k j cap _ hc.1 (by omega)]
    · cases hb
  · -- high and max
    rename_i hiO mO
    obtain ⟨x, y, rfl⟩ : ∃ x y, xs = [x, y] := by
      have := hr.length
      simp at this
      exact len2 (by omega)
    obtain ⟨v, u, hv, h1, h2⟩ := hr.two
    simp only [List.cons.injEq, and_true] at hv
    cases x <;> cases y <;> simp only [bounds, reduceCtorEq] at hb
    rename_i k j k' m
    simp only [VRel] at h1 h2
    split at hb
    · rename_i hc
      obtain ⟨c1, c2, rfl⟩ := hc
      simp only [Option.some.injEq, Prod.mk.injEq] at hb
      obtain ⟨rfl, rfl⟩ := hb
      refine ⟨Nat.zero_le _, by omega, fun _ => rfl, ?_⟩
      rw [h1, h2] at hv
      simp [Instr.sliceBounds, hv.1, hv.2, run_sliceBound w k' m cap _ c1 (by omega), run_sliceBound w k m m.toNat _ c1 (by omega)]
    · cases hb
  · -- low
    rename_i loO
    obtain ⟨x, rfl⟩ : ∃ x, xs = [x] := by
      have := hr.length
      simp at this
      exact List.length_eq_one_iff.1 (by omega)
    obtain ⟨v, hv, h1⟩ := hr.one
    simp only [List.cons.injEq, and_true] at hv
    cases x <;> simp only [bounds, reduceCtorEq] at hb
    rename_i k j
    simp only [VRel] at h1
    split at hb
    · rename_i hc
      simp only [Option.some.injEq, Prod.mk.injEq] at hb
      obtain ⟨rfl, rfl⟩ := hb
      refine ⟨by omega, Nat.le_refl _, fun e => by simp at e, ?_⟩
      rw [h1] at hv
      simp [Instr.sliceBounds, hv, run_sliceBound w k j len _ hc.1 (by omega)]
    · cases hb
  · -- low and max
    rename_i loO mO
    obtain ⟨x, y, rfl⟩ : ∃ x y, xs = [x, y] := by
      have := hr.length
      simp at this
      exact len2 (by omega)
    simp [bounds] at hb
  · -- low and high
    rename_i loO hiO
    obtain ⟨x, y, rfl⟩ : ∃ x y, xs = [x, y] := by
      have := hr.length
      simp at this
      exact len2 (by omega)
    obtain ⟨v, u, hv, h1, h2⟩ := hr.two
    simp only [List.cons.injEq, and_true] at hv
    cases x <;> cases y <;> simp only [bounds, reduceCtorEq, ite_self] at hb
    rename_i k i k' j
    simp only [VRel] at h1 h2
    split at hb
    · rename_i hc
      split at hb
      · rename_i hc2
        simp only [Option.some.injEq, Prod.mk.injEq] at hb
        obtain ⟨rfl, rfl⟩ := hb
        refine ⟨by omega, by omega, fun e => by simp at e, ?_⟩
        rw [h1, h2] at hv
        simp [Instr.sliceBounds, hv.1, hv.2, run_sliceBound w k' j cap _ hc.1 (by omega), run_sliceBound w k i j.toNat _ hc2.1 (by omega)]
      · cases hb
    · cases hb
  · -- all three
    rename_i loO hiO mO
    obtain ⟨x, y, z, rfl⟩ : ∃ x y z, xs = [x, y, z] := by
      have := hr.length
      simp at this
      exact len3 (by omega)
    obtain ⟨v, u, t, hv, h1, h2, h3⟩ := hr.three
    simp only [List.cons.injEq, and_true] at hv
    cases x <;> cases y <;> cases z <;> simp only [bounds, reduceCtorEq, ite_self] at hb
    rename_i k i k' j k2 m
    simp only [VRel] at h1 h2 h3
    split at hb
    · rename_i hc
      obtain ⟨c1, c2, rfl⟩ := hc
      split at hb
      · rename_i hc2
        simp only [Option.some.injEq, Prod.mk.injEq] at hb
        obtain ⟨rfl, rfl⟩ := hb
        refine ⟨by omega, by omega, fun e => by simp at e, ?_⟩
        rw [h1, h2, h3] at hv
        simp [Instr.sliceBounds, hv.1, hv.2.1, hv.2.2, run_sliceBound w k2 m cap _ c1 (by omega), run_sliceBound w k' m m.toNat _ c1 (by omega), run_sliceBound w k i m.toNat _ hc2.1 (by omega)]
      · cases hb
    · cases hb
theorem slcS_sound (hi : Inv V L σ w) (he : EnvRel V w env a.tmps) {t : TypeId} {x : Operand} {lo hi' : Option Operand} {qs : List Opd} (ho : o.op = .slice t x lo hi' none)
    (hu : P.underlying t = some .string) (hq : opds (x :: optCount lo ++ optCount hi') = some qs) (hs : slcSSem lo.isSome hi'.isSome (qs.map (Opd.val env)) = some d) : OpWp P o a w (Res V w L σ d) := by
  have hr := opds_rel (a := a) he hq
  generalize qs.map (Opd.val env) = ds at hr hs
  unfold slcSSem at hs
  split at hs
  · rename_i s xs
    simp only [Option.map_eq_some_iff] at hs
    obtain ⟨⟨l, h⟩, hb, rfl⟩ := hs
    simp only [List.cons_append, List.map_cons, VRels] at hr
    obtain ⟨v, us, hv, h1, h2⟩ := hr
    simp only [List.cons.injEq] at hv
    obtain ⟨hv, rfl⟩ := hv
    simp only [VRel] at h1
    obtain ⟨b1, b2, -, b3⟩ := bounds_run (P := P) (a := a) (isSlice := false) (mx := none) (Nat.le_refl s.length) (by simpa [optCount_none] using h2) (by simpa using hb)
    simp only [Option.isSome_none, Bool.false_eq_true, if_false] at b3
    refine OpWp.value (v := .string ((⟨s.toArray⟩ : ByteArray).extract l h)) (w' := w) ?_ (Res.same hi ?_)
    · rw [h1] at hv
      simp only [Option.map_none] at b3
      simp [execOp, ho, hv, Instr.sliceAt, run_underlying hu, Instr.slice, size_mk, b3]
    · simp only [VRel]
      congr 1
      apply ByteArray.ext
      simp [ByteArray.data_extract, List.extract_eq_take_drop]
  · cases hs
theorem slcV_sound (hi : Inv V L σ w) (he : EnvRel V w env a.tmps) {t e : TypeId} {sz : Nat} {x : Operand} {lo hi' mx : Option Operand} {qs : List Opd} (ho : o.op = .slice t x lo hi' mx)
    (hu : P.underlying t = some (.slice e)) (hz : szOf P e = some sz) (hq : opds (x :: optCount lo ++ optCount hi' ++ optCount mx) = some qs) (hs : slcVSem sz lo.isSome hi'.isSome mx.isSome (qs.map (Opd.val env)) = some d) : OpWp P o a w (Res V w L σ d) := by
  have hr := opds_rel (a := a) he hq
  generalize qs.map (Opd.val env) = ds at hr hs
  unfold slcVSem at hs
  split at hs
  · rename_i pt own sz' es xs
    split at hs
    · rename_i hsz
      subst hsz
      simp only [Option.map_eq_some_iff] at hs
      obtain ⟨⟨l, h⟩, hb, rfl⟩ := hs
      simp only [List.cons_append, List.map_cons, VRels] at hr
      obtain ⟨v, us, hv, h1, h2⟩ := hr
      simp only [List.cons.injEq] at hv
      obtain ⟨hv, rfl⟩ := hv
      simp only [VRel] at h1
      obtain ⟨-, b, off, cap, rfl, hc, hown, hrows⟩ := h1
      obtain ⟨b1, b2, b4, b3⟩ := bounds_run (P := P) (a := a) (isSlice := true) hc h2 hb
      refine OpWp.value (v := .slice (if (if mx.isSome then h else cap) = l then some ⟨b, off, none⟩ else some ⟨b, off + l * sz', none⟩) (h - l) ((if mx.isSome then h else cap) - l)) (w' := w) ?_ (Res.same hi ?_)
      · simp only [execOp, ho, hv, Instr.sliceAt, Sem.run_bind, run_underlying hu, Result.andThen_ok, Instr.slice, b3, run_sizeOf hz, Sem.run_pure, Option.map_some, add_mk]
      · have hel : ((es.drop l).take (h - l)).length = h - l := by simp; omega
        have hd := (hrows.drop l).take (h - l)
        have ho' := slcOwn (lo := lo.isSome) (m := mx.isSome) hown b1 b2 (fun e => b4 (by simpa using e))
        have hcap : h - l ≤ (if mx.isSome then h else cap) - l := by
          have : h ≤ if mx.isSome then h else cap := by cases mx.isSome <;> simp <;> omega
          omega
        simp only [VRel]
        by_cases hm : (if mx.isSome then h else cap) = l
        · have hhl : h = l := by
            have : h ≤ if mx.isSome then h else cap := by cases mx.isSome <;> simp <;> omega
            omega
          have hnil : (es.drop l).take (h - l) = [] := List.eq_nil_of_length_eq_zero (by omega)
          by_cases hlo : lo.isSome = true
          · refine ⟨.inl (by omega), b, off, (if mx.isSome then h else cap) - l, by rw [if_pos hm, hel], by rw [hel]; exact hcap, ?_, by rw [hnil]; simp [RowsRel]⟩
            rw [hel]
            rw [if_pos hlo] at ho' ⊢
            refine ⟨?_, fun e => ?_, fun e => ?_⟩
            · split <;> omega
            · omega
            · split at e <;> omega
          · rw [if_neg hlo] at ho' ⊢
            have hl0 : l = 0 := b4 (by simpa using hlo)
            refine ⟨.inl (by omega), b, off, (if mx.isSome then h else cap) - l, by rw [if_pos hm, hel], by rw [hel]; exact hcap, by rw [hel, if_neg hlo] at *; exact ho', by rw [hnil]; simp [RowsRel]⟩
        · refine ⟨.inl (by omega), b, off + l * sz', (if mx.isSome then h else cap) - l, by rw [if_neg hm, hel], by rw [hel]; exact hcap, ?_, hd⟩
          rw [hel]
          by_cases hlo : lo.isSome = true
          · rw [if_pos hlo] at ho'
            rw [if_pos hlo] at ho'
            simp only [hlo, if_true]
            exact ho'
          · have hl0 : l = 0 := b4 (by simpa using hlo)
            subst hl0
            simp only [hlo] at ho' ⊢
            simpa using ho'
    · cases hs
  · rename_i xs
    simp only [Option.map_eq_some_iff] at hs
    obtain ⟨⟨l, h⟩, hb, rfl⟩ := hs
    simp only [List.cons_append, List.map_cons, VRels] at hr
    obtain ⟨v, us, hv, h1, h2⟩ := hr
    simp only [List.cons.injEq] at hv
    obtain ⟨hv, rfl⟩ := hv
    simp only [VRel] at h1
    obtain ⟨b1, b2, b4, b3⟩ := bounds_run (P := P) (a := a) (isSlice := true) (Nat.le_refl 0) h2 hb
    have hh : h = 0 := by omega
    have hl : l = 0 := by omega
    subst hh hl
    refine OpWp.value (v := .slice none 0 0) (w' := w) ?_ (Res.same hi (by simp [VRel]))
    rw [h1] at hv
    simp only [execOp, ho, hv, Instr.sliceAt, Sem.run_bind, run_underlying hu, Result.andThen_ok, Instr.slice, b3, run_sizeOf hz, Sem.run_pure, Option.map_none]
    congr 2
    split <;> simp
  · rename_i xs
    simp only [Option.map_eq_some_iff] at hs
    obtain ⟨⟨l, h⟩, hb, rfl⟩ := hs
    simp only [List.cons_append, List.map_cons, VRels] at hr
    obtain ⟨v, us, hv, h1, h2⟩ := hr
    simp only [List.cons.injEq] at hv
    obtain ⟨hv, rfl⟩ := hv
    simp only [VRel] at h1
    obtain ⟨A, h1⟩ := h1
    obtain ⟨b1, b2, b4, b3⟩ := bounds_run (P := P) (a := a) (isSlice := true) (Nat.le_refl 0) h2 hb
    have hh : h = 0 := by omega
    have hl : l = 0 := by omega
    subst hh hl
    refine OpWp.value (v := .slice (some A) 0 0) (w' := w) ?_ (Res.same hi (by simp only [VRel]; exact ⟨A, rfl⟩))
    rw [h1] at hv
    simp only [execOp, ho, hv, Instr.sliceAt, Sem.run_bind, run_underlying hu, Result.andThen_ok, Instr.slice, b3, run_sizeOf hz, Sem.run_pure]
    congr 2
    cases mx <;> simp [Addr.add]
  · rename_i sz' id off len cap xs
    split at hs
    · rename_i hsz
      subst hsz
      simp only [Option.bind_eq_some_iff] at hs
      obtain ⟨⟨l, h⟩, hb, hs⟩ := hs
      simp only at hs
      split at hs
      · rename_i hlt
        simp only [Option.some.injEq] at hs
        subst hs
        simp only [List.cons_append, List.map_cons, VRels] at hr
        obtain ⟨v, us, hv, h1, h2⟩ := hr
        simp only [List.cons.injEq] at hv
        obtain ⟨hv, rfl⟩ := hv
        simp only [VRel] at h1
        obtain ⟨-, hid, c, rfl, hc, hcap, cur, el, hcur, hroom⟩ := h1
        obtain ⟨b1, b2, b4, b3⟩ := bounds_run (P := P) (a := a) (isSlice := true) hc h2 hb
        have hm : ¬ (if mx.isSome then h else c) = l := by cases mx.isSome <;> simp <;> omega
        refine OpWp.value (v := .slice (some ⟨V.phi id, off + l * sz', none⟩) (h - l) ((if mx.isSome then h else c) - l)) (w' := w) ?_ (Res.same hi ?_)
        · simp only [execOp, ho, hv, Instr.sliceAt, Sem.run_bind, run_underlying hu, Result.andThen_ok, Instr.slice, b3, run_sizeOf hz, Sem.run_pure, Option.map_some, add_mk, if_neg hm]
        · simp only [VRel]
          refine ⟨by omega, hid, _, rfl, by cases mx.isSome <;> simp <;> omega, fun k hk => ?_, cur, el, hcur, ?_⟩
          rotate_left
          · have h1 : (if mx.isSome then h else c) - l ≤ c - l := by cases mx.isSome <;> simp <;> omega
            have h2 := Nat.mul_le_mul_right sz' h1
            have h3 : l * sz' + (c - l) * sz' = c * sz' := by rw [← Nat.add_mul]; congr 1; omega
            omega
          cases hx : mx.isSome with
          | true => rw [hx] at hk; simpa using hk
          | false =>
            rw [hx] at hk
            simp only [Bool.false_eq_true, if_false, Option.map_eq_some_iff] at hk ⊢
            obtain ⟨q, hq, rfl⟩ := hk
            rw [hcap q hq]
      · cases hs
    · cases hs
  · cases hs
end
end Go.Proofs.YtklepphkbbjbjaaDoor
