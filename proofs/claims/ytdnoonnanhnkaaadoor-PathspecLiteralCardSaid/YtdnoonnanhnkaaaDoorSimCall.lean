/- Calls: what is asked of a callee, and what it gives its caller. -/
import Derived.Test.YtdnoonnanhnkaaaDoorSimApp
set_option linter.unusedVariables false
set_option linter.unusedSimpArgs false
namespace Go.Proofs.YtdnoonnanhnkaaaDoor
open Go Go.RowKit

/-- A view with nothing but cells that are never written. -/
def VI (I : Nat → Nat → Prop) (B : Nat) : Vw :=
  { B := B, I0 := I, tag := fun _ => (0, 0), lam := fun _ => 0, phi := fun _ => 0, tb := fun _ => 0, ep := fun _ => 0, nobj := 0, ntok := 0, fr := fun _ => 0 }

theorem VI_imm {I : Nat → Nat → Prop} {B b n : Nat} : (VI I B).imm b n ↔ b < B ∧ I b n := by simp [Vw.imm, VI]

/-- The cells that are never written, with all new blocks; of block x, if there is one, only the first k cells. -/
def newI (I : Nat → Nat → Prop) (w w' : World) (x : Option Nat) (k : Nat) (b n : Nat) : Prop :=
  I b n ∨ (w.heap.size ≤ b ∧ b < w'.heap.size ∧ (x = some b → n < k))

/-- What a pure call hands back. -/
def HRel (I : Nat → Nat → Prop) (w w' : World) (r : DVal) (v : Value) : Prop :=
  match r with
  | .slice false 2 sz es => ∃ b cap c el, v = .slice (some ⟨b, 0, none⟩) es.length cap ∧ w.heap.size ≤ b ∧ w'.heap[b]? = some (.cells c el (0, 0)) ∧ c.size = cap * sz ∧ es.length ≤ cap ∧
      RowsRel (VI (newI I w w' (some b) (es.length * sz)) w'.heap.size) w' 2 b sz 0 es
  | r => VRel (VI (newI I w w' none 0) w'.heap.size) w' 2 r v

def callable (P : Program) (f : FuncId) : Prop := ∃ fn, P.funcs[f]? = some fn ∧ (fn.name == "runtime.NumGoroutine") = false ∧ fn.body.isNone = false

/-- Cells that stand where they stood when the first call began: the variables of packages that the program never writes. -/
def HasG (Gl : List (Nat × Value)) (I : Nat → Nat → Prop) (w : World) : Prop := ∀ p ∈ Gl, I p.1 0 ∧ w.cell? ⟨p.1, 0, none⟩ = some p.2

theorem HasG.ext {Gl : List (Nat × Value)} {I J : Nat → Nat → Prop} {w w' : World} (h : HasG Gl I w) (hI : ∀ b n, I b n → J b n ∧ w'.cell? ⟨b, n, none⟩ = w.cell? ⟨b, n, none⟩) : HasG Gl J w' :=
  fun p hp => ⟨(hI _ _ (h p hp).1).1, (hI _ _ (h p hp).1).2.trans (h p hp).2⟩

def PureOk (P : Program) (Gl : List (Nat × Value)) (f : FuncId) (sem : List DVal → Option DVal) : Prop :=
  ∀ (I : Nat → Nat → Prop) (w : World) (ds : List DVal) (vs : List Value) (r : DVal), (∀ b n, I b n → b < w.heap.size) → HasG Gl I w → VRels (VI I w.heap.size) w 2 ds vs → sem ds = some r →
    callable P f ∧ Calls P f vs.toArray w fun e w' => ∃ v, e = .returned v ∧ Below w.heap.size w w' ∧ HRel I w w' r v

def noRoots : Nat → Nat × DVal := fun _ => (0, .undef)

def ImpOk (P : Program) (Gl : List (Nat × Value)) (f : FuncId) (sem : List DVal → Sto → Option (DVal × Sto)) : Prop :=
  ∀ (V : Vw) (σ σ' : Sto) (w : World) (ds : List DVal) (vs : List Value) (r : DVal), Inv V noRoots σ w → HasG Gl V.imm w → VRels V w 1 ds vs → sem ds σ = some (r, σ') →
    callable P f ∧ Calls P f vs.toArray w fun e w' => ∃ v V', e = .returned v ∧ Adv V w V' w' ∧ Inv V' noRoots σ' w' ∧ VRel V' w' 1 r v

/-- Behind a pure call: x, k: the block of a fresh slice and its cells. -/
theorem Inv.afterPure {V : Vw} {L : Nat → Nat × DVal} {σ : Sto} {w w' : World} (h : Inv V L σ w) (hb : Below w.heap.size w w') :
    ∃ V', Adv V w V' w' ∧ Inv V' L σ w' ∧ V'.B = V.B ∧ ∀ b n, newI V.imm w w' none 0 b n → V'.imm b n := by
  have hsize := hb.size
  let V' : Vw := { V with tag := fun b => if w.heap.size ≤ b ∧ b < w'.heap.size then (1, 0) else V.tag b }
  have hold : ∀ b, b < w.heap.size → V'.tag b = V.tag b := fun b hlt => by simp only [V']; rw [if_neg (by omega)]
  have hcell : ∀ b n, b < w.heap.size → w'.cell? ⟨b, n, none⟩ = w.cell? ⟨b, n, none⟩ := fun b n hlt => World.cell?_of_block (hb.block b hlt)
  have himm : ∀ b n, V.imm b n → V'.imm b n := fun b n hi => by
    have hlt := h.imm_lt hi
    unfold Vw.imm at hi ⊢
    rw [hold b hlt]
    exact hi
  have ha : Adv V w V' w' := by
    refine ⟨fun b n hi => ⟨himm b n hi, hcell b n (h.imm_lt hi)⟩, ⟨Nat.le_refl _, fun _ _ => rfl, Nat.le_refl _, fun _ _ => Nat.le_refl _, fun g hg _ => ⟨rfl, fun c el hc => ⟨c, ?_, rfl⟩⟩⟩, ⟨fun _ => Nat.le_refl _, fun _ _ _ => rfl⟩, rfl, fun b hlt h0 => by rw [hold b hlt]; exact h0, fun b hlt _ => hb.block b hlt, hsize, hb.os, hb.tape, hb.output, rfl⟩
    rw [hb.block _ (h.tok_lt hg)]
    exact hc
  refine ⟨V', ha, ?_, rfl, fun b n hn => ?_⟩
  · constructor
    · exact Nat.le_trans h.hB hsize
    · intro b h0
      simp only [V'] at h0
      split at h0
      · have := h.hB; exact ⟨by show V.B ≤ b; omega, by omega⟩
      · have := h.tag b h0; exact ⟨this.1, by omega⟩
    · exact h.ep
    · intro r hr
      exact ⟨by rw [hold _ (h.root_lt hr)]; exact (h.root r hr).1, (h.root r hr).2.ext ha.ei ha.er (hb.block _ (h.root_lt hr))⟩
    · exact h.nobj
    · intro r hr
      exact ⟨by rw [hold _ (h.obj_lt hr)]; exact (h.obj r hr).1, (h.obj r hr).2.ext ha.ei ha.er (hb.block _ (h.obj_lt hr))⟩
    · exact h.ntok
    · exact h.fr
    · intro b h4
      simp only [V'] at h4 ⊢
      split at h4
      · simp at h4
      · rename_i hn; rw [if_neg hn]; exact h.tag4 b h4
    · intro g hg
      obtain ⟨k1, c, el, k2, k3⟩ := h.tok g hg
      exact ⟨by rw [hold _ (h.tok_lt hg)]; exact k1, c, el, by rw [hb.block _ (h.tok_lt hg)]; exact k2, k3⟩
  · rcases hn with hn | ⟨h1, h2, -⟩
    · exact himm b n hn
    · refine .inr ⟨by show V.B ≤ b; have := h.hB; omega, .inl ?_⟩
      simp only [V']
      rw [if_pos ⟨h1, h2⟩]

/-- Behind a pure call whose result may be appended to. -/
theorem Inv.afterFresh {V : Vw} {L : Nat → Nat × DVal} {σ : Sto} {w w' : World} (h : Inv V L σ w) (hb : Below w.heap.size w w') {x k : Nat} {c : Array Value} {el : TypeId} (hx : w.heap.size ≤ x) (hc : w'.heap[x]? = some (.cells c el (0, 0))) (hk : k ≤ c.size) :
    ∃ V', Adv V w V' w' ∧ Inv V' L { σ with ntok := σ.ntok + 1, fr := upd σ.fr σ.ntok k } w' ∧ V'.B = V.B ∧ (∀ b n, newI V.imm w w' (some x) k b n → V'.imm b n) ∧ V'.ntok = σ.ntok + 1 ∧ V'.tb σ.ntok = x ∧ V'.fr σ.ntok = k := by
  have hsize := hb.size
  have hxl : x < w'.heap.size := (Array.getElem?_eq_some_iff.1 hc).1
  have hnt := h.ntok
  let V' : Vw := { V with tag := fun b => if b = x then (4, σ.ntok) else if w.heap.size ≤ b ∧ b < w'.heap.size then (1, 0) else V.tag b, tb := upd V.tb σ.ntok x, ntok := σ.ntok + 1, fr := upd V.fr σ.ntok k }
  have hold : ∀ b, b < w.heap.size → V'.tag b = V.tag b := fun b hlt => by simp only [V']; rw [if_neg (by omega), if_neg (by omega)]
  have hcell : ∀ b n, b < w.heap.size → w'.cell? ⟨b, n, none⟩ = w.cell? ⟨b, n, none⟩ := fun b n hlt => World.cell?_of_block (hb.block b hlt)
  have hfr : ∀ g, g < V.ntok → V'.fr g = V.fr g := fun g hg => by simp only [V', upd]; rw [if_neg (by omega)]
  have htb : ∀ g, g < V.ntok → V'.tb g = V.tb g := fun g hg => by simp only [V', upd]; rw [if_neg (by omega)]
  have himm : ∀ b n, V.imm b n → V'.imm b n := fun b n hi => by
    have hlt := h.imm_lt hi
    unfold Vw.imm at hi ⊢
    rw [hold b hlt]
    rcases hi with hi | ⟨h1, h2 | ⟨h2, h3⟩⟩
    · exact .inl hi
    · exact .inr ⟨h1, .inl h2⟩
    · exact .inr ⟨h1, .inr ⟨h2, by rw [hfr _ (h.tag4 b h2)]; exact h3⟩⟩
  have ha : Adv V w V' w' := by
    refine ⟨fun b n hi => ⟨himm b n hi, hcell b n (h.imm_lt hi)⟩, ⟨Nat.le_refl _, fun _ _ => rfl, by show V.ntok ≤ σ.ntok + 1; omega, fun g hg => by rw [hfr g hg]; exact Nat.le_refl _, fun g hg _ => ⟨htb g hg, fun d e hd => ⟨d, ?_, rfl⟩⟩⟩, ⟨fun _ => Nat.le_refl _, fun _ _ _ => rfl⟩, rfl, fun b hlt h0 => by rw [hold b hlt]; exact h0, fun b hlt _ => hb.block b hlt, hsize, hb.os, hb.tape, hb.output, rfl⟩
    rw [hb.block _ (h.tok_lt hg)]
    exact hd
  refine ⟨V', ha, ?_, rfl, fun b n hn => ?_, rfl, by simp [V', upd], by simp [V', upd]⟩
  · constructor
    · exact Nat.le_trans h.hB hsize
    · intro b h0
      have hBw := h.hB
      simp only [V'] at h0
      split at h0
      · exact ⟨by show V.B ≤ b; omega, by omega⟩
      · split at h0
        · exact ⟨by show V.B ≤ b; omega, by omega⟩
        · have := h.tag b h0; exact ⟨this.1, by omega⟩
    · exact h.ep
    · intro r hr
      exact ⟨by rw [hold _ (h.root_lt hr)]; exact (h.root r hr).1, (h.root r hr).2.ext ha.ei ha.er (hb.block _ (h.root_lt hr))⟩
    · exact h.nobj
    · intro r hr
      exact ⟨by rw [hold _ (h.obj_lt hr)]; exact (h.obj r hr).1, (h.obj r hr).2.ext ha.ei ha.er (hb.block _ (h.obj_lt hr))⟩
    · rfl
    · show upd V.fr σ.ntok k = upd σ.fr σ.ntok k
      rw [h.fr]
    · intro b h4
      show (V'.tag b).2 < σ.ntok + 1
      simp only [V'] at h4 ⊢
      split at h4
      · rename_i e; rw [if_pos e]; exact Nat.lt_succ_self _
      · rename_i e
        rw [if_neg e]
        split at h4
        · simp at h4
        · rename_i hn; rw [if_neg hn]; have := h.tag4 b h4; omega
    · intro g hg
      by_cases e : g = σ.ntok
      · subst e
        refine ⟨by simp [V', upd], c, el, by simp only [V', upd, if_true]; exact hc, by simp only [V', upd, if_true]; exact hk⟩
      · have hg' : g < V.ntok := by have : g < σ.ntok + 1 := hg; omega
        obtain ⟨k1, d, e', k2, k3⟩ := h.tok g hg'
        rw [htb g hg', hfr g hg']
        exact ⟨by rw [hold _ (h.tok_lt hg')]; exact k1, d, e', by rw [hb.block _ (h.tok_lt hg')]; exact k2, k3⟩
  · rcases hn with hn | ⟨h1, h2, h3⟩
    · exact himm b n hn
    · have hBw := h.hB
      refine .inr ⟨by show V.B ≤ b; omega, ?_⟩
      by_cases e : b = x
      · subst e
        exact .inr ⟨by simp [V'], by simp only [V', if_true, upd]; exact h3 rfl⟩
      · refine .inl ?_
        simp only [V']
        rw [if_neg e, if_pos ⟨h1, h2⟩]

section
variable {P : Program} {Gl : List (Nat × Value)} {V : Vw} {w : World} {L : Nat → Nat × DVal} {σ : Sto} {env : Nat → DVal} {a : Act} {d : DVal} {o : Oper}

theorem exec_call {c : Call} {f : FuncId} (ho : o.op = .call c) (hc : c.callee = .value (.func f)) (hf : callable P f) : (execOp a.eval o).run P w = .ok (.enter f ((c.args.toList.map a.eval).toArray)) w := by
  obtain ⟨fn, h1, h2, h3⟩ := hf
  have e : c.args.map a.eval = (c.args.toList.map a.eval).toArray := by apply Array.ext'; simp
  simp only [execOp, ho, resolve, hc, Act.eval, Sem.run_bind, Deferred.ofValue, Sem.run_pure, Result.andThen_ok, invoke, callFunc, run_program, h1, h2, h3, Bool.false_eq_true, if_false, Array.empty_append, Array.append_empty]
  rw [← e]

theorem exec_callV {c : Call} {t : Tmp} {f : FuncId} {caps : Array Value} (ho : o.op = .call c) (hc : c.callee = .value (.tmp t)) (hv : a.eval (.tmp t) = .func (.func f) #[] caps) (hf : callable P f) :
    (execOp a.eval o).run P w = .ok (.enter f ((c.args.toList.map a.eval) ++ caps.toList).toArray) w := by
  obtain ⟨fn, h1, h2, h3⟩ := hf
  have e : c.args.map a.eval ++ caps = ((c.args.toList.map a.eval) ++ caps.toList).toArray := by apply Array.ext'; simp
  simp only [execOp, ho, resolve, hc, hv, Sem.run_bind, Deferred.ofValue, Sem.run_pure, Result.andThen_ok, invoke, callFunc, run_program, h1, h2, h3, Bool.false_eq_true, if_false, Array.empty_append]
  rw [← e]

/-- The arguments of a pure call. -/
theorem sealed_args (hi : Inv V L σ w) {xs ys : List DVal} {vs : List Value} (h : VRels V w 0 xs vs) (hs : sealVals xs = some ys) : VRels (VI V.imm w.heap.size) w 2 ys vs :=
  VRels.ext (V := V) (w := w) (fun b n hn => ⟨VI_imm.2 ⟨hi.imm_lt hn, hn⟩, rfl⟩) _ _ _ (fun e => by omega) (fun e => by omega) (sealVals_rel h hs)

theorem HRel.at {V' : Vw} {w' : World} {r : DVal} {v : Value} {x : Option Nat} {k : Nat} (h : VRel (VI (newI V.imm w w' x k) w'.heap.size) w' 2 r v) (hV : ∀ b n, newI V.imm w w' x k b n → V'.imm b n) : VRel V' w' 0 r v :=
  (VRel.ext (V' := V') (w' := w') (fun b n hn => ⟨hV b n (VI_imm.1 hn).2, rfl⟩) _ _ _ (fun e => by omega) (fun e => by omega) h).open'

theorem RowsRel.at {V' : Vw} {w' : World} {x : Option Nat} {k b sz off : Nat} {es : List (List DVal)} (h : RowsRel (VI (newI V.imm w w' x k) w'.heap.size) w' 2 b sz off es) (hV : ∀ b n, newI V.imm w w' x k b n → V'.imm b n) : RowsRel V' w' 2 b sz off es :=
  RowsRel.ext (V' := V') (w' := w') (fun b n hn => ⟨hV b n (VI_imm.1 hn).2, rfl⟩) _ _ _ _ _ (fun e => by omega) (fun e => by omega) h

theorem newI_weaken {I : Nat → Nat → Prop} {w w' : World} {x : Option Nat} {k b n : Nat} (h : newI I w w' x k b n) : newI I w w' none 0 b n := by
  rcases h with h | ⟨h1, h2, -⟩
  · exact .inl h
  · exact .inr ⟨h1, h2, fun e => by simp at e⟩

theorem callP_sound {cp : Nat → List DVal → Option DVal} (hcp : ∀ f, PureOk P Gl f (cp f)) (hG : HasG Gl V.imm w) (hi : Inv V L σ w) (he : EnvRel V w env a.tmps) {c : Call} {f : FuncId} {qs : List Opd} (ho : o.op = .call c) (hc : c.callee = .value (.func f))
    (hq : opds c.args.toList = some qs) (hs : ((sealVals (qs.map (Opd.val env))).bind fun ys => (cp f ys).map DVal.stale) = some d) : OpWp P o a w (Res V w L σ d) := by
  have h1 := opds_rel (a := a) he hq
  simp only [Option.bind_eq_some_iff, Option.map_eq_some_iff] at hs
  obtain ⟨ys, hys, r, hr, rfl⟩ := hs
  obtain ⟨hcall, hC⟩ := hcp f V.imm w ys _ r (fun b n => hi.imm_lt) hG (sealed_args hi h1 hys) hr
  refine OpWp.call (exec_call ho hc hcall) (hC.mono ?_)
  rintro e w' ⟨v, rfl, hb, hrel⟩
  obtain ⟨V', ha, hinv, -, hV⟩ := hi.afterPure hb
  refine ⟨v, rfl, V', ha, hinv, ?_⟩
  unfold HRel at hrel
  split at hrel
  · rename_i sz es
    obtain ⟨b, cap, cc, el, rfl, g1, g2, g3, g4, g5⟩ := hrel
    simp only [DVal.stale, VRel]
    exact ⟨.inl (by omega), b, 0, cap, rfl, g4, ⟨by omega, fun e => by omega, fun e => by omega⟩, g5.at fun b n hn => hV b n (newI_weaken hn)⟩
  · rename_i hne
    have hst : r.stale = r := by
      unfold DVal.stale
      split
      · rename_i pt sz es
        exfalso
        simp only [VRel] at hrel
        rcases hrel.1 with hh | ⟨hh, -⟩
        · omega
        · subst hh; exact hne _ _ rfl
      · rfl
    rw [hst]
    exact HRel.at hrel hV

theorem methodTbl_get {name : String} : ∀ {n : Nat} {t f : Nat}, (methodTbl P name n).lookup t = some f → methodOf P name t = some f
  | 0, _, _, h => by simp [methodTbl] at h
  | n + 1, t, f, h => by
    unfold methodTbl at h
    split at h
    · rename_i g hg
      rw [List.lookup_cons] at h
      split at h
      · rename_i e
        have e' : t = n := by simpa using e
        simp only [Option.some.injEq] at h
        rw [e', hg, h]
      · exact methodTbl_get h
    · exact methodTbl_get h

theorem run_method {name : String} {t f : Nat} {v : Value} (h : methodOf P name t = some f) (k : Nat) : (method (k + 1) t v name).run P w = .ok (f, v) w := by
  unfold methodOf at h
  split at h
  · rename_i i u hi1 hu
    have key : ∀ {x : Option FuncId}, x = (match i.methods.find? (·.name == name) with
        | some m => if m.path.isEmpty then (match m.func with | some (f, false) => some f | _ => none) else none
        | none => none) → x = some f → ∃ m, i.methods.find? (·.name == name) = some m ∧ m.path.toList = [] ∧ m.func = some (f, false) := by
      intro x hx hxf
      rw [hxf] at hx
      split at hx
      · rename_i m hm
        split at hx
        · rename_i hp
          split at hx
          · rename_i g hg
            simp only [Option.some.injEq] at hx
            subst hx
            exact ⟨m, hm, by simpa using hp, hg⟩
          · cases hx
        · cases hx
      · cases hx
    cases u with
    | pointer e => cases h
    | _ =>
      obtain ⟨m, h1, h2, h3⟩ := key rfl h
      simp [method, typeInfo, hi1, h1, h2, follow, h3, receiverAt, run_underlying hu, Place.get]
  · cases h

theorem exec_callM {c : Call} {r : Operand} {name : String} {t : Nat} {f : FuncId} {v : Value} (ho : o.op = .call c) (hc : c.callee = .invoke r name) (hv : a.eval r = .iface t v) (hm : methodOf P name t = some f) (hf : callable P f) :
    (execOp a.eval o).run P w = .ok (.enter f ((v :: c.args.toList.map a.eval).toArray)) w := by
  obtain ⟨fn, h1, h2, h3⟩ := hf
  have e : (#[v] ++ c.args.map a.eval) = (v :: c.args.toList.map a.eval).toArray := by apply Array.ext'; simp
  have e2 : (#[Value.iface t v] ++ c.args.map a.eval).extract 1 (#[Value.iface t v] ++ c.args.map a.eval).size = c.args.map a.eval := by
    apply Array.ext'
    simp only [Array.toList_extract, Array.toList_append, List.extract_eq_take_drop, Array.size_append]
    simp
    exact List.take_of_length_le (by simp)
  have e3 : (#[Value.iface t v] ++ c.args.map a.eval)[0]? = some (.iface t v) := by
    rw [Array.getElem?_append_left (by simp)]; rfl
  have hmd : 0 < Made.depth := by decide
  have hrm := run_method (P := P) (w := w) (v := v) hm (P.types.size + (Made.depth - 1))
  rw [show P.types.size + (Made.depth - 1) + 1 = P.types.size + Made.depth by omega] at hrm
  simp only [execOp, ho, resolve, hc, hv, Sem.run_bind, Sem.run_pure, Result.andThen_ok, invoke, e2, e3, callMethod, run_program, hrm, callFunc, h1, h2, h3, Bool.false_eq_true, if_false]
  rw [e]

theorem callM_sound {cp : Nat → List DVal → Option DVal} (hcp : ∀ f, PureOk P Gl f (cp f)) (hG : HasG Gl V.imm w) (hi : Inv V L σ w) (he : EnvRel V w env a.tmps) {c : Call} {r : Operand} {name : String} {qs : List Opd} (ho : o.op = .call c) (hc : c.callee = .invoke r name)
    (hq : opds (r :: c.args.toList) = some qs) (hs : callMSem cp (methodTbl P name P.types.size) (qs.map (Opd.val env)) = some d) : OpWp P o a w (Res V w L σ d) := by
  have h1 := opds_rel (a := a) he hq
  unfold callMSem at hs
  split at hs
  · rename_i t d0 xs exs
    rw [exs] at h1
    simp only [List.map_cons, VRels] at h1
    obtain ⟨v0, us, e0, ⟨u0, hu0, hr0⟩, hrs⟩ := h1
    simp only [List.cons.injEq] at e0
    obtain ⟨e0, rfl⟩ := e0
    split at hs
    · rename_i f hf
      simp only [Option.bind_eq_some_iff, Option.map_eq_some_iff] at hs
      obtain ⟨ys, hys, r', hr, rfl⟩ := hs
      have hargs : VRels V w 0 (d0 :: xs) (u0 :: c.args.toList.map a.eval) := by simp only [VRels]; exact ⟨_, _, rfl, hr0, hrs⟩
      obtain ⟨hcall, hC⟩ := hcp f V.imm w ys _ r' (fun b n => hi.imm_lt) hG (sealed_args hi hargs hys) hr
      refine OpWp.call (exec_callM ho hc (by rw [e0, hu0]) (methodTbl_get hf) hcall) (hC.mono ?_)
      rintro e w' ⟨v, rfl, hb, hrel⟩
      obtain ⟨V', ha, hinv, -, hV⟩ := hi.afterPure hb
      refine ⟨v, rfl, V', ha, hinv, ?_⟩
      unfold HRel at hrel
      split at hrel
      · rename_i sz es
        obtain ⟨b, cap, cc, el, rfl, g1, g2, g3, g4, g5⟩ := hrel
        simp only [DVal.stale, VRel]
        exact ⟨.inl (by omega), b, 0, cap, rfl, g4, ⟨by omega, fun e => by omega, fun e => by omega⟩, g5.at fun b n hn => hV b n (newI_weaken hn)⟩
      · rename_i hne
        have hst : r'.stale = r' := by
          unfold DVal.stale
          split
          · rename_i pt sz es
            exfalso
            simp only [VRel] at hrel
            rcases hrel.1 with hh | ⟨hh, -⟩
            · omega
            · subst hh; exact hne _ _ rfl
          · rfl
        rw [hst]
        exact HRel.at hrel hV
    · cases hs
  · cases hs

theorem callF_sound {cp : Nat → List DVal → Option DVal} (hcp : ∀ f, PureOk P Gl f (cp f)) (hG : HasG Gl V.imm w) (hi : Inv V L σ w) (he : EnvRel V w env a.tmps) {c : Call} {f : FuncId} {qs : List Opd} {σ' : Sto} (ho : o.op = .call c) (hc : c.callee = .value (.func f))
    (hq : opds c.args.toList = some qs) (hs : ((sealVals (qs.map (Opd.val env))).bind fun ys => (cp f ys).map (importVal σ)) = some (d, σ')) : OpWp P o a w (Res V w L σ' d) := by
  have h1 := opds_rel (a := a) he hq
  simp only [Option.bind_eq_some_iff, Option.map_eq_some_iff] at hs
  obtain ⟨ys, hys, r, hr, hd⟩ := hs
  obtain ⟨hcall, hC⟩ := hcp f V.imm w ys _ r (fun b n => hi.imm_lt) hG (sealed_args hi h1 hys) hr
  refine OpWp.call (exec_call ho hc hcall) (hC.mono ?_)
  rintro e w' ⟨v, rfl, hb, hrel⟩
  unfold HRel at hrel
  split at hrel
  · rename_i sz es
    obtain ⟨b, cap, cc, el, rfl, g1, g2, g3, g4, g5⟩ := hrel
    simp only [importVal, Prod.mk.injEq] at hd
    obtain ⟨rfl, rfl⟩ := hd
    have hk : es.length * sz ≤ cc.size := by rw [g3]; exact Nat.mul_le_mul_right _ g4
    obtain ⟨V', ha, hinv, -, hV, e1, e2, e3⟩ := hi.afterFresh hb g1 g2 hk
    refine ⟨_, rfl, V', ha, hinv, ?_⟩
    simp only [VRel]
    exact ⟨.inl (by omega), b, 0, cap, rfl, g4, ⟨by omega, fun e => by omega, fun _ => ⟨by omega, by simp [e3], fun _ => ⟨by simpa using e2, rfl, cc, el, g2, g3⟩⟩⟩, by simpa [emode] using g5.at hV⟩
  · rename_i hne
    obtain ⟨V', ha, hinv, -, hV⟩ := hi.afterPure hb
    have hst : importVal σ r = (r, σ) := by
      unfold importVal
      split
      · rename_i pt sz es
        exfalso
        simp only [VRel] at hrel
        rcases hrel.1 with hh | ⟨hh, -⟩
        · omega
        · subst hh; exact hne _ _ rfl
      · rfl
    rw [hst] at hd
    simp only [Prod.mk.injEq] at hd
    obtain ⟨rfl, rfl⟩ := hd
    exact ⟨v, rfl, V', ha, hinv, HRel.at hrel hV⟩

/-- A callee that shares the store does not know the caller's locals. -/
def Vw.callee (V : Vw) : Vw := { V with tag := fun b => if (V.tag b).1 = 2 then (0, 0) else V.tag b, ep := fun _ => 0 }

def Vw.back (V V' : Vw) : Vw := { V' with tag := fun b => if (V.tag b).1 = 2 then V.tag b else if (V'.tag b).1 = 2 then (0, 0) else V'.tag b, ep := V.ep, lam := V.lam }

theorem callee_imm (V : Vw) {b n : Nat} (h : V.imm b n) : V.callee.imm b n := by
  unfold Vw.imm at h ⊢
  rcases h with h | ⟨h1, h2⟩
  · exact .inl h
  · refine .inr ⟨h1, ?_⟩
    simp only [Vw.callee]
    rcases h2 with h2 | ⟨h2, h3⟩
    · rw [if_neg (by omega)]; exact .inl h2
    · rw [if_neg (by omega)]; exact .inr ⟨h2, h3⟩

theorem callee_rel {ds : List DVal} {vs : List Value} (h : VRels V w 1 ds vs) : VRels V.callee w 1 ds vs :=
  VRels.ext (V := V) (w := w) (fun b n hn => ⟨callee_imm V hn, rfl⟩) _ _ _ (fun _ => ⟨Nat.le_refl _, fun _ _ => rfl, Nat.le_refl _, fun _ _ => Nat.le_refl _, fun _ _ _ => ⟨rfl, fun c el h => ⟨c, h, rfl⟩⟩⟩) (fun e => by omega) h

theorem Inv.callee (h : Inv V L σ w) : Inv V.callee noRoots σ w := by
  have hI : ExtI V w V.callee w := fun b n hn => ⟨callee_imm V hn, rfl⟩
  have hS : ExtS V w V.callee w := ⟨Nat.le_refl _, fun _ _ => rfl, Nat.le_refl _, fun _ _ => Nat.le_refl _, fun _ _ _ => ⟨rfl, fun c el h => ⟨c, h, rfl⟩⟩⟩
  constructor
  · exact h.hB
  · intro b hb
    simp only [Vw.callee] at hb
    split at hb
    · simp at hb
    · exact h.tag b hb
  · intro r; rfl
  · intro r hr; simp [Vw.callee] at hr
  · exact h.nobj
  · intro id hid
    obtain ⟨k1, k2⟩ := h.obj id hid
    refine ⟨?_, k2.ext hI hS rfl⟩
    show (if (V.tag (V.phi id)).1 = 2 then (0, 0) else V.tag (V.phi id)) = _
    rw [k1, if_neg (by simp)]
  · exact h.ntok
  · exact h.fr
  · intro b h4
    show ((if (V.tag b).1 = 2 then (0, 0) else V.tag b)).2 < V.ntok
    simp only [Vw.callee] at h4
    split at h4
    · simp at h4
    · rename_i e; rw [if_neg e]; exact h.tag4 b h4
  · intro g hg
    obtain ⟨k1, k2⟩ := h.tok g hg
    refine ⟨?_, k2⟩
    show (if (V.tag (V.tb g)).1 = 2 then (0, 0) else V.tag (V.tb g)) = _
    rw [k1, if_neg (by simp)]

theorem Inv.back {V' : Vw} {w' : World} {σ' : Sto} (h : Inv V L σ w) (ha : Adv V.callee w V' w') (h' : Inv V' noRoots σ' w') :
    Adv V w (V.back V') w' ∧ Inv (V.back V') L σ' w' ∧ ∀ d v, VRel V' w' 1 d v → VRel (V.back V') w' 0 d v := by
  have h2 : ∀ b, (V.tag b).1 = 2 → (V'.tag b).1 = 0 ∧ w'.heap[b]? = w.heap[b]? := fun b hb => by
    have hlt := (h.tag b (by omega)).2
    have h0 : (V.callee.tag b).1 = 0 := by simp [Vw.callee, hb]
    exact ⟨ha.zero b hlt h0, ha.frame b hlt h0⟩
  have himm : ∀ b n, V'.imm b n → (V.back V').imm b n := fun b n hn => by
    unfold Vw.imm at hn ⊢
    rcases hn with hn | ⟨h1, hn⟩
    · exact .inl hn
    · refine .inr ⟨h1, ?_⟩
      have hne : (V'.tag b).1 ≠ 0 ∧ (V'.tag b).1 ≠ 2 := by rcases hn with hn | ⟨hn, -⟩ <;> omega
      have hv : (V.back V').tag b = V'.tag b := by
        simp only [Vw.back]
        rw [if_neg (fun e => hne.1 (h2 b e).1), if_neg hne.2]
      rw [hv]
      exact hn
  have hI : ExtI V' w' (V.back V') w' := fun b n hn => ⟨himm b n hn, rfl⟩
  have hS : ExtS V' w' (V.back V') w' := ⟨Nat.le_refl _, fun _ _ => rfl, Nat.le_refl _, fun _ _ => Nat.le_refl _, fun _ _ _ => ⟨rfl, fun c el h => ⟨c, h, rfl⟩⟩⟩
  have hkeep : ∀ b, (V'.tag b).1 ≠ 0 → (V'.tag b).1 ≠ 2 → (V.back V').tag b = V'.tag b := fun b n0 n2 => by
    simp only [Vw.back]
    rw [if_neg (fun e => n0 (h2 b e).1), if_neg n2]
  have hadv : Adv V w (V.back V') w' := by
    refine ⟨fun b n hn => ⟨himm b n (ha.ei b n (callee_imm V hn)).1, (ha.ei b n (callee_imm V hn)).2⟩, ⟨ha.er.nobj, ha.er.phi, ha.er.ntok, ha.er.fr, ha.er.tb⟩, ⟨fun _ => Nat.le_refl _, fun _ _ _ => rfl⟩, ha.B, fun b hlt h0 => ?_, fun b hlt h0 => ?_, ha.size, ha.os, ha.tape, ha.output, ha.I0⟩
    · have hc : (V.callee.tag b).1 = 0 := by simp [Vw.callee, h0]
      have := ha.zero b hlt hc
      simp only [Vw.back]
      rw [if_neg (by omega), if_neg (by omega)]
      exact this
    · have hc : (V.callee.tag b).1 = 0 := by simp [Vw.callee, h0]
      exact ha.frame b hlt hc
  refine ⟨hadv, ?_, fun d v hv => (VRel.ext hI d 1 v (fun _ => hS) (fun e => by omega) hv).open'⟩
  constructor
  · show V'.B ≤ _
    rw [ha.B]
    have := h.hB; have := ha.size; show V.B ≤ _; omega
  · intro b hb
    simp only [Vw.back] at hb
    split at hb
    · have := h.tag b hb
      have hs := ha.size
      exact ⟨by show V'.B ≤ b; rw [ha.B]; exact this.1, by omega⟩
    · split at hb
      · simp at hb
      · exact h'.tag b hb
  · exact h.ep
  · intro r hr
    have ht := (h.root r hr).1
    refine ⟨?_, (h.root r hr).2.ext hadv.ei hadv.er (h2 _ (by show (V.tag (V.lam r)).1 = 2; rw [ht])).2⟩
    show (if (V.tag (V.lam r)).1 = 2 then V.tag (V.lam r) else _) = _
    rw [if_pos (by rw [ht]), ht]
  · exact h'.nobj
  · intro id hid
    obtain ⟨k1, k2⟩ := h'.obj id hid
    refine ⟨?_, k2.ext hI hS rfl⟩
    show (V.back V').tag (V'.phi id) = _
    rw [hkeep _ (by rw [k1]; simp) (by rw [k1]; simp), k1]
  · exact h'.ntok
  · exact h'.fr
  · intro b h4
    show ((V.back V').tag b).2 < V'.ntok
    have hn : (V'.tag b).1 = 4 := by
      simp only [Vw.back] at h4
      split at h4
      · omega
      · split at h4
        · simp at h4
        · exact h4
    rw [hkeep b (by omega) (by omega)]
    exact h'.tag4 b hn
  · intro g hg
    obtain ⟨k1, k2⟩ := h'.tok g hg
    refine ⟨?_, k2⟩
    show (V.back V').tag (V'.tb g) = _
    rw [hkeep _ (by rw [k1]; simp) (by rw [k1]; simp), k1]

theorem okVal_up {d : DVal} {v : Value} (h : VRel V w 0 d v) (hd : d.okVal = true) : VRel V w 1 d v := by
  cases d with
  | agg cs =>
    simp only [VRel] at h ⊢
    obtain ⟨vs, rfl, h1⟩ := h
    exact ⟨vs, rfl, okCells_up h1 hd⟩
  | _ => exact okCell_up h hd

theorem okVals_up : ∀ {ds : List DVal} {vs : List Value}, VRels V w 0 ds vs → ds.all DVal.okVal = true → VRels V w 1 ds vs
  | [], _, h, _ => by simpa only [VRels] using h
  | d :: ds, _, h, hd => by
    simp only [VRels] at h ⊢
    simp only [List.all_cons, Bool.and_eq_true] at hd
    obtain ⟨v, us, rfl, h1, h2⟩ := h
    exact ⟨v, us, rfl, okVal_up h1 hd.1, okVals_up h2 hd.2⟩

theorem callI_sound {ci : Nat → List DVal → Sto → Option (DVal × Sto)} (hci : ∀ f, ImpOk P Gl f (ci f)) (hG : HasG Gl V.imm w) (hi : Inv V L σ w) (he : EnvRel V w env a.tmps) {c : Call} {f : FuncId} {qs : List Opd} {σ' : Sto} (ho : o.op = .call c) (hc : c.callee = .value (.func f))
    (hq : opds c.args.toList = some qs) (hs : (if (qs.map (Opd.val env)).all DVal.okVal then ci f (qs.map (Opd.val env)) σ else none) = some (d, σ')) : OpWp P o a w (Res V w L σ' d) := by
  have h1 := opds_rel (a := a) he hq
  split at hs
  · rename_i hok
    obtain ⟨hcall, hC⟩ := hci f V.callee σ σ' w _ _ d hi.callee (hG.ext fun b n hn => ⟨callee_imm V hn, rfl⟩) (callee_rel (okVals_up h1 hok)) hs
    refine OpWp.call (exec_call ho hc hcall) (hC.mono ?_)
    rintro e w' ⟨v, V', rfl, ha, hinv, hrel⟩
    obtain ⟨b1, b2, b3⟩ := hi.back ha hinv
    exact ⟨v, rfl, V.back V', b1, b2, b3 _ _ hrel⟩
  · cases hs

theorem callV_sound {ci : Nat → List DVal → Sto → Option (DVal × Sto)} (hci : ∀ f, ImpOk P Gl f (ci f)) (hG : HasG Gl V.imm w) (hi : Inv V L σ w) (he : EnvRel V w env a.tmps) {c : Call} {t : Tmp} {qs : List Opd} {σ' : Sto} (ho : o.op = .call c) (hc : c.callee = .value (.tmp t))
    (hq : opds c.args.toList = some qs) (hs : callVSem ci σ (env t :: qs.map (Opd.val env)) = some (d, σ')) : OpWp P o a w (Res V w L σ' d) := by
  have h1 := opds_rel (a := a) he hq
  have h0 := he t
  generalize qs.map (Opd.val env) = xs at h1 hs
  generalize env t = f0 at h0 hs
  unfold callVSem at hs
  split at hs
  · rename_i f caps ys e
    simp only [List.cons.injEq] at e
    obtain ⟨rfl, rfl⟩ := e
    split at hs
    · rename_i hok
      simp only [VRel] at h0
      obtain ⟨-, vs, hv, hcaps⟩ := h0
      obtain ⟨hcall, hC⟩ := hci f V.callee σ σ' w _ _ d hi.callee (hG.ext fun b n hn => ⟨callee_imm V hn, rfl⟩) (callee_rel ((okVals_up h1 hok).append hcaps)) hs
      refine OpWp.call (exec_callV ho hc hv hcall) (hC.mono ?_)
      rintro e w' ⟨v, V', rfl, ha, hinv, hrel⟩
      obtain ⟨b1, b2, b3⟩ := hi.back ha hinv
      exact ⟨v, rfl, V.back V', b1, b2, b3 _ _ hrel⟩
    · cases hs
  · cases hs

end

end Go.Proofs.YtdnoonnanhnkaaaDoor
