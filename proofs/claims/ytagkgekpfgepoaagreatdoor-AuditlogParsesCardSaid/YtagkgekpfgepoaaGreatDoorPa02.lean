/- Texts of this proof, part 2: see the card for what is proved. -/
import Derived.Test.YtagkgekpfgepoaaGreatDoorPa00
namespace Go.Proofs.YtagkgekpfgepoaaGreatDoor
set_option linter.unusedVariables false
open Go
inductive Ex where
  | v (i : Nat)
  | k (d : DVal)
instance : Inhabited Ex := ⟨.k .undef⟩
def Ex.val (ρ : List DVal) : Ex → DVal
  | .v i => ρ.getD i .undef
  | .k d => d
def Ex.ok (n : Nat) : Ex → Bool
  | .v i => Nat.blt i n
  | .k _ => true
inductive JOp where
  | p (o : POp)
  | box
  | wr (off n : Nat)
  | rng
  | nx (second : Bool)
def jboxSem : List DVal → Option DVal
  | [x] => if x.cells.all DVal.okCell then some (.agg x.cells) else none
  | _ => none
def jwrSem (off n : Nat) : List DVal → Option DVal
  | [.agg cs, v] => if v.cells.length = n ∧ v.cells.all DVal.okCell then (writeCells cs off v.cells).map .agg else none
  | _ => none
def jrngSem : List DVal → Option DVal
  | [.str s] => some (.tup [.str s, goI 0])
  | _ => none
def jnxSem (second : Bool) : List DVal → Option DVal
  | [.tup [.str s, .int .i64 pos]] =>
    if pos < s.length then
      some (if second then .tup [.str s, goI (pos.toNat + (Utf8.decode ⟨s.toArray⟩ pos.toNat).2)] else .tup [.bool true, .int .i64 pos, .int .i32 (Utf8.decode ⟨s.toArray⟩ pos.toNat).1])
    else some (if second then .tup [.str s, .int .i64 pos] else .tup [.bool false])
  | _ => none
def JOp.sem (call : Nat → List DVal → Option DVal) (xs : List DVal) : JOp → Option DVal
  | .p o => o.sem call xs
  | .box => jboxSem xs
  | .wr off n => jwrSem off n xs
  | .rng => jrngSem xs
  | .nx b => jnxSem b xs
abbrev Gd := Option (Nat × Bool)
inductive T where
  | ret (xs : List Ex)
  | p (o : JOp) (xs : List Ex) (g : Gd) (k : T)
  | s (o : SOp) (xs : List Ex) (g : Gd) (k : T)
  | ite (c : Ex) (a b : T)
  | loop (l : Nat) (init : List Ex) (body : T)
  | join (l m : Nat) (body k : T)
  | next (l : Nat) (xs : List Ex)
inductive Out where
  | done (v : DVal) (σ : Sto)
  | next (l : Nat) (vs : List DVal) (σ : Sto)
def resEx : List DVal → Option DVal
  | [v] => if v.okVal then some v else none
  | vs => if vs.all DVal.okVal then some (.tup vs) else none
def iterJ (l : Nat) (f : List DVal → Sto → Option Out) : Nat → List DVal → Sto → Option Out
  | 0, _, _ => none
  | m + 1, vs, σ => match f vs σ with
    | some (.next i vs' σ') => if i = l then iterJ l f m vs' σ' else some (.next i vs' σ')
    | r => r
def joinJ (l : Nat) (k : List DVal → Sto → Option Out) : Option Out → Option Out
  | some (.next i vs' σ') => if i = l then k vs' σ' else some (.next i vs' σ')
  | r => r
def gB (ρ : List DVal) : Gd → Bool
  | none => true
  | some (i, b) => (ρ.getD i .undef).isB b
def guarded (ρ : List DVal) (g : Gd) (x : Option DVal) : Option DVal :=
  match g with
  | none => x
  | some (i, b) => if (ρ.getD i .undef).isB b then x else some .undef
def guardedS (ρ : List DVal) (σ : Sto) (g : Gd) (x : Option (DVal × Sto)) : Option (DVal × Sto) :=
  match g with
  | none => x
  | some (i, b) => if (ρ.getD i .undef).isB b then x else some (.undef, σ)
def iteJ (c : DVal) (a b : Option Out) : Option Out :=
  match c with
  | .bool true => a
  | .bool false => b
  | _ => none
def bndP (x : Option DVal) (k : DVal → Option Out) : Option Out :=
  match x with
  | some v => k v
  | none => none
def bndS (x : Option (DVal × Sto)) (k : DVal → Sto → Option Out) : Option Out :=
  match x with
  | some (v, σ) => k v σ
  | none => none
def retJ (x : Option DVal) (σ : Sto) : Option Out :=
  match x with
  | some v => some (.done v σ)
  | none => none
def padFrom (vs : List DVal) : Nat → Nat → List DVal
  | _, 0 => []
  | i, m + 1 => vs.getD i .undef :: padFrom vs (i + 1) m
section
variable (cp : Nat → List DVal → Option DVal) (ci : Nat → List DVal → Sto → Option (DVal × Sto)) (n : Nat)
def den : T → List DVal → Sto → Option Out
  | .ret xs, ρ, σ => retJ (resEx (xs.map (Ex.val ρ))) σ
  | .p o xs g k, ρ, σ => bndP (guarded ρ g (o.sem cp (xs.map (Ex.val ρ)))) fun v => den k (ρ ++ [v]) σ
  | .s o xs g k, ρ, σ => bndS (guardedS ρ σ g (o.sem cp ci σ (xs.map (Ex.val ρ)))) fun v σ' => den k (ρ ++ [v]) σ'
  | .ite c a b, ρ, σ => iteJ (c.val ρ) (den a ρ σ) (den b ρ σ)
  | .loop l init body, ρ, σ => iterJ l (fun vs σ => den body (ρ ++ padFrom vs 0 init.length) σ) n (init.map (Ex.val ρ)) σ
  | .join l m body k, ρ, σ => joinJ l (fun vs σ => den k (ρ ++ padFrom vs 0 m) σ) (den body ρ σ)
  | .next l xs, ρ, σ => some (.next l (xs.map (Ex.val ρ)) σ)
end
def T.esc (l : Nat) : T → Bool
  | .ret _ => true
  | .p _ _ _ k | .s _ _ _ k => k.esc l
  | .ite _ a b => a.esc l && b.esc l
  | .loop i _ body => i == l || body.esc l
  | .join i _ body k => (i == l || body.esc l) && k.esc l
  | .next i _ => i != l
inductive SV where
  | ex (e : Ex)
  | ptr (r off : Nat) (g : Gd)
structure SS where
  env : List (Nat × SV)
  loc : List (Nat × (Ex × Gd))
  nv : Nat
  dep : Nat
def SS.slot (s : SS) (t : Nat) : Option SV := s.env.lookup t
def SS.put (s : SS) (d : Option Nat) (v : SV) : SS :=
  match d with
  | some t => { s with env := (t, v) :: s.env.filter fun p => p.1 != t }
  | none => s
def SS.setLoc (s : SS) (r : Nat) (e : Ex) (g : Gd) : SS := { s with loc := (r, (e, g)) :: s.loc.filter fun p => p.1 != r }
def SV.notTo (r : Nat) : SV → Bool
  | .ex _ => true
  | .ptr q _ _ => q != r
def SS.drop (s : SS) (r : Nat) : SS := { s with env := s.env.filter fun p => p.2.notTo r }
def SS.more (s : SS) (k : Nat) : SS := { s with nv := s.nv + k }
def SS.ex (s : SS) : Opd → Option Ex
  | .t n => match s.slot n with
    | some (.ex e) => some e
    | _ => none
  | .c v => some (.k v)
def SS.exs (s : SS) : List Opd → Option (List Ex)
  | [] => some []
  | x :: xs => match s.ex x, s.exs xs with
    | some e, some es => some (e :: es)
    | _, _ => none
def okG (g G : Gd) : Bool :=
  match g with
  | none => true
  | some (i, b) => match G with
    | some (j, c) => Nat.beq i j && (b == c)
    | none => false
def SS.ptr (s : SS) (G : Gd) : Opd → Option (Nat × Nat)
  | .t n => match s.slot n with
    | some (.ptr r off g) => if okG g G then some (r, off) else none
    | _ => none
  | .c _ => none
def SS.cont (s : SS) (G : Gd) (r : Nat) : Option Ex :=
  match s.loc.lookup r with
  | some (e, g) => if okG g G then some e else none
  | none => none
inductive JI where
  | p (o : JOp)
  | s (o : SOp)
structure JIns where
  op : JI
  xs : List Ex
  g : Gd
def JIns.tree (i : JIns) (k : T) : T :=
  match i.op with
  | .p o => .p o i.xs i.g k
  | .s o => .s o i.xs i.g k
def isMv : POp → Option Nat
  | .mv | .nilchk => some 0
  | .off n => some n
  | _ => none
def symbP (s : SS) (G : Gd) (dst : Option Nat) (o : POp) (xs : List Opd) : Option (List JIns × SS) :=
  match (match isMv o, xs with | some n, [x] => (s.ptr G x).map fun p => (p.1, p.2 + n) | _, _ => none) with
  | some (r, off) => some ([], s.put dst (.ptr r off G))
  | none =>
    match s.exs xs with
    | some es =>
      match o, es, G with
      | .mv, [e], none => some ([], s.put dst (.ex e))
      | _, _, _ => some ([⟨.p (.p o), es, G⟩], (s.more 1).put dst (.ex (.v s.nv)))
    | none => none
def symbL (s : SS) (G : Gd) (dst : Option Nat) (r : Nat) (o : LOp) (xs : List Opd) : Option (List JIns × SS) :=
  match o, xs with
  | .box, [x] => (s.ex x).map fun e => ([⟨.p .box, [e], G⟩], (((s.more 1).drop r).put dst (.ptr r 0 G)).setLoc r (.v s.nv) G)
  | .alloc z, [] => some ([], ((s.drop r).put dst (.ptr r 0 G)).setLoc r (.k (.agg z)) G)
  | .rng, [x] => (s.ex x).map fun e => ([⟨.p .rng, [e], G⟩], (((s.more 1).drop r).put dst (.ptr r 0 G)).setLoc r (.v s.nv) G)
  | .st n, [p, x] =>
    match s.ptr G p, s.ex x, s.cont G r with
    | some (q, off), some e, some c => if q = r then some ([⟨.p (.wr off n), [c, e], G⟩], ((s.more 1).put dst (.ex (.k .undef))).setLoc r (.v s.nv) G) else none
    | _, _, _ => none
  | .next, [p] =>
    match s.ptr G p, s.cont G r with
    | some (q, 0), some c => if q = r then some ([⟨.p (.nx false), [c], G⟩, ⟨.p (.nx true), [c], G⟩], ((s.more 2).put dst (.ex (.v s.nv))).setLoc r (.v (s.nv + 1)) G) else none
    | _, _ => none
  | _, _ => none
def SS.guard (s : SS) : Option (Nat × Bool) → Option Gd
  | none => some none
  | some (t, b) => match s.slot t with
    | some (.ex (.v i)) => some (some (i, b))
    | _ => none
def symbOp (s : SS) (o : IOper) : Option (List JIns × SS) :=
  match s.guard o.guard with
  | none => none
  | some G =>
    match o.op with
    | .p q => symbP s G o.dst q o.xs
    | .lr r sz => match o.xs with
      | [x] => match s.ptr G x, s.cont G r with
        | some (q, off), some c => if q = r then some ([⟨.p (.p (.fld off sz)), [c], G⟩], (s.more 1).put o.dst (.ex (.v s.nv))) else none
        | _, _ => none
      | _ => none
    | .lw r q => symbL s G o.dst r q o.xs
    | .s _ q => (s.exs o.xs).map fun es => ([⟨.s q, es, G⟩], (s.more 1).put o.dst (.ex (.v s.nv)))
def symbOps : List IOper → SS → Option (List JIns × SS)
  | [], s => some ([], s)
  | o :: os, s => match symbOp s o with
    | some (is, s') => match symbOps os s' with
      | some (js, s'') => some (is ++ js, s'')
      | none => none
    | none => none
def IOper.root : IOper → Option Nat
  | ⟨_, .lw r _, _, _⟩ => some r
  | _ => none
def IOper.boxed : IOper → Option Nat
  | ⟨_, .lw r (.st _), _, _⟩ | ⟨_, .lw r .next, _, _⟩ => none
  | ⟨_, .lw r _, _, _⟩ => some r
  | _ => none
def ICode.wr (f : IOper → Option Nat) : ICode → List Nat
  | .skip | .ret | .exit _ => []
  | .reg ops => ops.filterMap f
  | .seq a b | .cond _ a b => a.wr f ++ b.wr f
  | .block _ a | .loop a => a.wr f
def ICode.outs (t : Option Nat) : ICode → Nat
  | .skip | .reg _ => match t with | none => 1 | _ => 0
  | .ret => 0
  | .exit i => match t with | some j => if i = j then 1 else 0 | none => 0
  | .seq a b => match t with
    | none => a.outs none * b.outs none
    | t => a.outs t + a.outs none * b.outs t
  | .cond _ a b => a.outs t + b.outs t
  | .block i a => match t with
    | none => a.outs none + a.outs (some i)
    | t => a.outs t
  | .loop a => match t with
    | none => 0
    | t => a.outs t
def ICode.size : ICode → Nat
  | .skip | .ret | .exit _ => 0
  | .reg ops => ops.length
  | .seq a b | .cond _ a b => a.size + b.size
  | .block _ a => a.size
  | .loop a => a.size + 100
def slotVars (w : List Nat) : List (Nat × SV) → List Nat
  | [] => []
  | (t, .ex _) :: ps => if w.contains t then t :: slotVars w ps else slotVars w ps
  | _ :: ps => slotVars w ps
def rootVars (w : List Nat) : List (Nat × (Ex × Gd)) → List Nat
  | [] => []
  | (r, (_, none)) :: ps => if w.contains r then r :: rootVars w ps else rootVars w ps
  | _ :: ps => rootVars w ps
def varsEnv : Nat → List Nat → List (Nat × SV)
  | _, [] => []
  | b, d :: ds => (d, .ex (.v b)) :: varsEnv (b + 1) ds
def varsLoc : Nat → List Nat → List (Nat × (Ex × Gd))
  | _, [] => []
  | b, d :: ds => (d, (.v b, none)) :: varsLoc (b + 1) ds
def ptrVars (w : List Nat) : List (Nat × SV) → List (Nat × (Nat × Nat))
  | [] => []
  | (t, .ptr r off none) :: ps => if w.contains t then (t, (r, off)) :: ptrVars w ps else ptrVars w ps
  | _ :: ps => ptrVars w ps
def keepEnv (W WB : List Nat) (env : List (Nat × SV)) : List (Nat × SV) :=
  env.filter fun p => !W.contains p.1 && (match p.2 with | .ex _ => true | .ptr r _ _ => !WB.contains r)
def keepLoc (WR : List Nat) (loc : List (Nat × (Ex × Gd))) : List (Nat × (Ex × Gd)) := loc.filter fun p => !WR.contains p.1
def headOf (a : ICode) (s : SS) (dep : Nat) : SS :=
  let W := a.wr IOper.dst
  let WR := a.wr IOper.root
  let WB := a.wr IOper.boxed
  let vs := slotVars W s.env
  let rs := rootVars WR s.loc
  { env := varsEnv s.nv vs ++ (ptrVars W s.env).map (fun p => (p.1, .ptr p.2.1 p.2.2 none)) ++ keepEnv W WB s.env
    loc := varsLoc (s.nv + vs.length) rs ++ keepLoc WR s.loc
    nv := s.nv + (vs.length + rs.length)
    dep := dep }
def getSlots (s : SS) : List Nat → Option (List Ex)
  | [] => some []
  | t :: ts => match s.ex (.t t), getSlots s ts with
    | some e, some es => some (e :: es)
    | _, _ => none
def getRoots (s : SS) : List Nat → Option (List Ex)
  | [] => some []
  | r :: rs => match s.cont none r, getRoots s rs with
    | some e, some es => some (e :: es)
    | _, _ => none
def samePtrs (s : SS) : List (Nat × (Nat × Nat)) → Bool
  | [] => true
  | (t, (r, off)) :: ps => (match s.ptr none (.t t) with | some (q, o) => Nat.beq q r && Nat.beq o off | none => false) && samePtrs s ps
def nowVals (a : ICode) (s0 s : SS) : Option (List Ex) :=
  let W := a.wr IOper.dst
  let WR := a.wr IOper.root
  match getSlots s (slotVars W s0.env), getRoots s (rootVars WR s0.loc) with
  | some es, some fs => if samePtrs s (ptrVars W s0.env) then some (es ++ fs) else none
  | _, _ => none
def numVals (a : ICode) (s0 : SS) : Nat := (slotVars (a.wr IOper.dst) s0.env).length + (rootVars (a.wr IOper.root) s0.loc).length
def insTree : List JIns → T → T
  | [], t => t
  | i :: is, t => i.tree (insTree is t)
def noEsc (l : Nat) (t : T) : Option T := if t.esc l then some t else none
def joinAt (a : ICode) (s : SS) (k : Exit → SS → Option T) : Exit → SS → Option T
  | .normal, s' => (nowVals a s s').map fun es => .next s.dep es
  | e, s' => (k e s').bind (noEsc s.dep)
def symb : ICode → Nat → SS → (Exit → SS → Option T) → Option T
  | .skip, _, s, k => k .normal s
  | .ret, _, s, k => k .ret s
  | .exit i, _, s, k => k (.exit i) s
  | .reg ops, _, s, k => match symbOps ops s with
    | some (is, s') => (k .normal s').map (insTree is)
    | none => none
  | .seq a b, rs, s, k => symb a (b.size + rs) s fun e s' => match e with
    | .normal => symb b rs s' k
    | e => k e s'
  | .cond c a b, rs, s, k =>
    match s.ex c with
    | some e =>
      if Nat.blt 1 (a.outs none + b.outs none) && Nat.blt 4 rs then
        let s1 := { s with dep := s.dep + 1 }
        match symb a 0 s1 (joinAt (.cond c a b) s k), symb b 0 s1 (joinAt (.cond c a b) s k), k .normal (headOf (.cond c a b) s s.dep) with
        | some ta, some tb, some tk => some (.join s.dep (numVals (.cond c a b) s) (.ite e ta tb) tk)
        | _, _, _ => none
      else match symb a rs s k, symb b rs s k with
        | some ta, some tb => some (.ite e ta tb)
        | _, _ => none
    | none => none
  | .block id a, rs, s, k =>
    let kk : (Exit → SS → Option T) → Exit → SS → Option T := fun k e s' => match e with
      | .exit i => if i = id then k .normal s' else k (.exit i) s'
      | e => k e s'
    if Nat.blt 1 (ICode.outs none (.block id a)) && Nat.blt 4 rs then
      match symb a 0 { s with dep := s.dep + 1 } (kk (joinAt (.block id a) s k)), k .normal (headOf (.block id a) s s.dep) with
      | some ta, some tk => some (.join s.dep (numVals (.block id a) s) ta tk)
      | _, _ => none
    else symb a rs s (kk k)
  | .loop a, rs, s, k =>
    match nowVals a s s with
    | some init => (symb a 0 (headOf a s (s.dep + 1)) (joinAt a s k)).map fun body => .loop s.dep init body
    | none => none
def resTree : List IRes → SS → List Ex → Option T
  | [], _, es => some (.ret es)
  | .t n :: rs, s, es => (s.ex (.t n)).bind fun e => resTree rs s (es ++ [e])
  | .cell r sz :: rs, s, es => match s.ptr none (.t r), s.cont none r with
    | some (q, off), some c => if q = r then (resTree rs (s.more 1) (es ++ [.v s.nv])).map fun t => .p (.p (.fld off sz)) [c] none t else none
    | _, _ => none
def parEnv : Nat → List (Nat × SV)
  | 0 => []
  | n + 1 => (n, .ex (.v n)) :: parEnv n
def symbFun (F : IFunc) : Option T :=
  symb F.body 0 { env := parEnv F.npar, loc := [], nv := F.npar, dep := 0 } fun e s => match e with
    | .ret | .normal => resTree F.res s []
    | _ => none
inductive JFun where
  | body (npar : Nat) (t : T)
  | prim (sem : List DVal → Option DVal)
def evJ (prog : Nat → Option JFun) : Nat → Nat → List DVal → Option Sto → Option (DVal × Sto)
  | 0, _, _, _ => none
  | n + 1, f, args, none =>
    match prog f with
    | some (.body np t) => if args.length = np then
        match den (fun g xs => (evJ prog n g xs none).map (·.1)) (fun g xs τ => evJ prog n g xs (some τ)) n t args emptySto with
        | some (.done v σ) => (v.handBack σ).map fun u => (u, emptySto)
        | _ => none
      else none
    | some (.prim sem) => (sem args).map fun v => (v, emptySto)
    | none => none
  | n + 1, f, args, some σ =>
    match prog f with
    | some (.body np t) => if args.length = np then
        match den (fun g xs => (evJ prog n g xs none).map (·.1)) (fun g xs τ => evJ prog n g xs (some τ)) n t args σ with
        | some (.done v σ') => some (v, σ')
        | _ => none
      else none
    | _ => none
def cpJ (prog : Nat → Option JFun) (n : Nat) (f : Nat) (args : List DVal) : Option DVal := (evJ prog n f args none).map (·.1)
def ciJ (prog : Nat → Option JFun) (n : Nat) (f : Nat) (args : List DVal) (σ : Sto) : Option (DVal × Sto) := evJ prog n f args (some σ)
end Go.Proofs.YtagkgekpfgepoaaGreatDoor
