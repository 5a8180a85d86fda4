/- Code, whatever it is: what the small language says comes about in the model. -/
import Derived.Test.YtdnoonnanhnkaaaDoorSimOrder
import Derived.Scope
set_option linter.unusedVariables false
set_option linter.unusedSimpArgs false
namespace Go.Proofs.YtdnoonnanhnkaaaDoor
open Go Go.RowKit

/-- The model's state reads as st. -/
def Good (V0 : Vw) (w0 : World) (nt : Nat) (st : St) (a : Act) (w : World) : Prop :=
  ∃ V, Adv V0 w0 V w ∧ Inv V st.loc st.sto w ∧ EnvRel V w st.env a.tmps ∧ a.tmps.size = nt ∧ a.defers = []

section
variable {P : Program} {Gl : List (Nat × Value)} {h : Hint} {cp : Nat → List DVal → Option DVal} {ci : Nat → List DVal → Sto → Option (DVal × Sto)} {V0 : Vw} {w0 : World} {nt : Nat}

theorem guard_val {V : Vw} {w : World} {env : Nat → DVal} {t : Array Value} (he : EnvRel V w env t) (d : Nat) (b : Bool) :
    ((match t[d]? with | some (Value.bool c) => some c | _ => none) == some b) = (env d).isB b := by
  have hd := he d
  rw [Array.getD_eq_getD_getElem?] at hd
  have key : ∀ v, VRel V w 0 (env d) v → ((match some v with | some (Value.bool c) => some c | _ => none) == some b) = (env d).isB b := by
    intro v hv
    generalize env d = x at hv
    cases x <;> simp only [VRel] at hv
    case bool c => subst hv; simp [DVal.isB]
    case undef => obtain ⟨-, rfl⟩ := hv; simp [DVal.isB, Go.undef]
    case int => subst hv; simp [DVal.isB]
    case str => subst hv; simp [DVal.isB]
    case nilp => subst hv; simp [DVal.isB]
    case nils => subst hv; simp [DVal.isB]
    case nilm => subst hv; simp [DVal.isB]
    case nilf => subst hv; simp [DVal.isB]
    case loc => obtain ⟨-, -, -, A, rfl, -⟩ := hv; simp [DVal.isB]
    case obj => obtain ⟨-, -, rfl⟩ := hv; simp [DVal.isB]
    case elem => obtain ⟨-, b, o, rfl, -⟩ := hv; simp [DVal.isB]
    case slice => obtain ⟨-, b, o, c, rfl, -⟩ := hv; simp [DVal.isB]
    case map => obtain ⟨-, -, rfl⟩ := hv; simp [DVal.isB]
    case func => obtain ⟨-, vs, rfl, -⟩ := hv; simp [DVal.isB]
    case agg => obtain ⟨vs, rfl, -⟩ := hv; simp [DVal.isB]
    case tup => obtain ⟨vs, rfl, -⟩ := hv; simp [DVal.isB]
    case nilI => subst hv; simp [DVal.isB]
    case iface => obtain ⟨u, rfl, -⟩ := hv; simp [DVal.isB]
    case mslice => obtain ⟨-, -, -, rfl⟩ := hv; simp [DVal.isB]
  cases ht : t[d]? with
  | none =>
    rw [ht] at hd
    have := key _ hd
    rw [← this]
    simp [Go.undef]
  | some v =>
    rw [ht] at hd
    exact key v hd

/-- Is it wanted? -/
def guardB (env : Nat → DVal) : Option (Nat × Bool) → Bool
  | none => true
  | some (d, b) => (env d).isB b

theorem wanted_iff {V : Vw} {w : World} {env : Nat → DVal} {a : Act} {ops : Array Oper} {o : Oper} {g : Option (Nat × Bool)} (he : EnvRel V w env a.tmps) (hg : compGuard ops.toList o.guard = some g) :
    Region.wanted o (yielded ops a.tmps) = guardB env g := by
  unfold Region.wanted
  generalize o.guard = gd at hg ⊢
  cases gd with
  | none => simp only [compGuard, Option.some.injEq] at hg; subst hg; rfl
  | some jb =>
    obtain ⟨j, b⟩ := jb
    simp only [compGuard] at hg
    split at hg
    · rename_i p hp
      simp only [Option.map_eq_some_iff] at hg
      obtain ⟨d, hd, rfl⟩ := hg
      have hp' : ops[j]? = some p := by rw [← hp, Array.getElem?_toList]
      have := guard_val he d b
      unfold yielded
      simp only [hp', Option.bind_some, hd]
      exact this
    · cases hg

theorem put_good {V : Vw} {w : World} {st : St} {a : Act} {dst : Option Nat} {d : DVal} {v : Value} (hd : slotOk nt dst = true) (ha : Adv V0 w0 V w) (hi : Inv V st.loc st.sto w) (he : EnvRel V w st.env a.tmps) (hn : a.tmps.size = nt) (hf : a.defers = [])
    (hv : VRel V w 0 d v) : Good V0 w0 nt (st.put dst d) (a.put dst v) w := by
  cases dst with
  | none => exact ⟨V, ha, hi, he, hn, hf⟩
  | some t =>
    simp only [slotOk, decide_eq_true_eq] at hd
    exact ⟨V, ha, hi, he.put (by omega) hv, by simp [Act.put, hn], hf⟩

/-- One operation of a region. -/
theorem step_sound {ops : Array Oper} {Q : Exit → Act → World → Prop} {o : Oper} {io : IOper} {st st' : St} {a : Act} {w : World} {K : Act → World → Prop} {i : Nat} (hcp : ∀ f, PureOk P Gl f (cp f)) (hci : ∀ f, ImpOk P Gl f (ci f)) (hG : HasG Gl V0.imm w0)
    (ho : ops[i]? = some o) (hc : compOper P h nt ops.toList o = some io) (hs : stepOp cp ci io st = some st') (hg : Good V0 w0 nt st a w) (hK : ∀ a' w', Good V0 w0 nt st' a' w' → K a' w') : wpOp P ops Q i K a w := by
  obtain ⟨V, hadv, hi, he, hn, hf⟩ := hg
  unfold compOper at hc
  split at hc
  · rename_i iop xs g h1 h2
    split at hc
    · rename_i hslot
      simp only [Option.some.injEq] at hc
      subst hc
      unfold wpOp
      simp only [ho]
      rw [wanted_iff he h2]
      have hexec : ∀ {st'}, execOp' cp ci o.dst iop xs st = some st' → (∀ a' w', Good V0 w0 nt st' a' w' → K a' w') → o.wp P a w K Q := by
        intro st' hs hK
        obtain ⟨env, L, σ⟩ := st
        obtain ⟨d, L', σ', rfl, hop⟩ := op_sound (h := h) (dst := o.dst) hcp hci (hG.ext hadv.ei) hi he h1 hs
        refine hop K Q fun v w' hv => ?_
        obtain ⟨V', ha', hi', hv'⟩ := hv
        exact hK _ _ (put_good (st := ⟨env, L', σ'⟩) hslot (hadv.trans ha') hi' (he.adv ha') hn hf hv')
      unfold stepOp at hs
      split at hs
      · rename_i e
        simp only at e
        subst e
        simp only [guardB, if_true]
        exact .inl (hexec hs hK)
      · rename_i d b e
        simp only at e
        subst e
        simp only at hs
        split at hs
        · rename_i hb
          rw [if_pos (show guardB st.env (some (d, b)) = true from hb)]
          exact .inl (hexec hs hK)
        · rename_i hb
          rw [if_neg (show ¬ guardB st.env (some (d, b)) = true from hb)]
          simp only [Option.some.injEq] at hs
          subst hs
          exact hK _ _ (put_good hslot hadv hi he hn hf (by simp [VRel]))
    · cases hc
  · cases hc

theorem compOpers_get {ops : List Oper} : ∀ {os : List Oper} {ios : List IOper}, compOpers P h nt ops os = some ios → ios.length = os.length ∧ ∀ (i : Nat) (io : IOper), ios[i]? = some io → ∃ o, os[i]? = some o ∧ compOper P h nt ops o = some io
  | [], ios, hc => by
    simp only [compOpers, Option.some.injEq] at hc
    subst hc
    exact ⟨rfl, fun i io hi => by simp at hi⟩
  | o :: os, ios, hc => by
    simp only [compOpers] at hc
    split at hc
    · rename_i io' is h1 h2
      simp only [Option.some.injEq] at hc
      subst hc
      obtain ⟨g1, g2⟩ := compOpers_get h2
      refine ⟨by simp [g1], fun i io hi => ?_⟩
      cases i with
      | zero => simp only [List.getElem?_cons_zero, Option.some.injEq] at hi; subst hi; exact ⟨o, rfl, h1⟩
      | succ i => rw [List.getElem?_cons_succ] at hi ⊢; exact g2 i io hi
    · cases hc

theorem ops_sound {ops : Array Oper} {Q : Exit → Act → World → Prop} {ios : List IOper} (hcp : ∀ f, PureOk P Gl f (cp f)) (hci : ∀ f, ImpOk P Gl f (ci f)) (hG : HasG Gl V0.imm w0) (hc : compOpers P h nt ops.toList ops.toList = some ios) :
    ∀ (l : List Nat) (st st' : St) (a : Act) (w : World), runIdx cp ci ios l st = some st' → Good V0 w0 nt st a w → (∀ a' w', Good V0 w0 nt st' a' w' → Q .normal a' w') → wpOps P ops Q l a w
  | [], st, st', a, w, hr, hg, hQ => by
    simp only [runIdx, Option.some.injEq] at hr
    subst hr
    exact hQ _ _ hg
  | i :: l, st, st', a, w, hr, hg, hQ => by
    rw [wpOps_cons]
    simp only [runIdx] at hr
    split at hr
    · rename_i io hio
      simp only [Option.bind_eq_some_iff] at hr
      obtain ⟨s, h1, h2⟩ := hr
      obtain ⟨o, ho, hco⟩ := (compOpers_get hc).2 i io hio
      exact step_sound hcp hci hG (by rw [← ho, Array.getElem?_toList]) hco h1 hg fun a' w' hg' => ops_sound hcp hci hG hc l s st' a' w' h2 hg' hQ
    · cases hr

theorem iter_goto {f : St → Option (Exit × St)} (hf : ∀ st e st', f st = some (e, st') → ∀ l, e ≠ .goto l) : ∀ (n : Nat) (st : St) (e : Exit) (st' : St), iter f n st = some (e, st') → ∀ l, e ≠ .goto l
  | 0, st, e, st', hi => by simp [iter] at hi
  | n + 1, st, e, st', hi => by
    simp only [iter] at hi
    split at hi
    · exact iter_goto hf n _ e st' hi
    · exact hf _ _ _ hi

theorem runCode_goto {n : Nat} : ∀ (c : ICode) (st : St) (e : Exit) (st' : St), runCode cp ci n c st = some (e, st') → ∀ l, e ≠ .goto l
  | .skip, st, e, st', hr => by simp only [runCode, Option.some.injEq, Prod.mk.injEq] at hr; obtain ⟨rfl, -⟩ := hr; intro l e; cases e
  | .ret, st, e, st', hr => by simp only [runCode, Option.some.injEq, Prod.mk.injEq] at hr; obtain ⟨rfl, -⟩ := hr; intro l e; cases e
  | .exit id, st, e, st', hr => by simp only [runCode, Option.some.injEq, Prod.mk.injEq] at hr; obtain ⟨rfl, -⟩ := hr; intro l e; cases e
  | .reg ops, st, e, st', hr => by simp only [runCode, Option.map_eq_some_iff, Prod.mk.injEq] at hr; obtain ⟨_, -, rfl, -⟩ := hr; intro l e; cases e
  | .seq a b, st, e, st', hr => by
    simp only [runCode] at hr
    split at hr
    · exact runCode_goto b _ e st' hr
    · exact runCode_goto a _ e st' hr
  | .cond c a b, st, e, st', hr => by
    simp only [runCode] at hr
    split at hr
    · exact runCode_goto a _ e st' hr
    · exact runCode_goto b _ e st' hr
    · cases hr
  | .block id a, st, e, st', hr => by
    simp only [runCode] at hr
    split at hr
    · rename_i i s hs
      split at hr
      · simp only [Option.some.injEq, Prod.mk.injEq] at hr; obtain ⟨rfl, -⟩ := hr; intro l e; cases e
      · simp only [Option.some.injEq, Prod.mk.injEq] at hr; obtain ⟨rfl, -⟩ := hr; intro l e; cases e
    · exact runCode_goto a _ e st' hr
  | .loop a, st, e, st', hr => by
    simp only [runCode] at hr
    exact iter_goto (fun st e st' => runCode_goto a st e st') n st e st' hr

theorem least (p : Nat → Prop) : ∀ n, p n → ∃ m, p m ∧ ∀ k, p k → m ≤ k := by
  intro n
  induction n using Nat.strongRecOn with
  | _ n ih =>
    intro hp
    by_cases hl : ∃ k, k < n ∧ p k
    · obtain ⟨k, hk, hpk⟩ := hl
      exact ih k hk hpk
    · exact ⟨n, hp, fun k hk => Nat.le_of_not_lt fun hlt => hl ⟨k, hlt, hk⟩⟩

/-- Rounds left. -/
noncomputable def rounds (p : Act → World → Nat → Prop) (a : Act) (w : World) : Nat :=
  open Classical in if hp : ∃ m, p a w m ∧ ∀ k, p a w k → m ≤ k then Classical.choose hp else 0

theorem rounds_spec {p : Act → World → Nat → Prop} {a : Act} {w : World} {n : Nat} (hp : p a w n) : p a w (rounds p a w) ∧ ∀ k, p a w k → rounds p a w ≤ k := by
  have hl := least (p a w) n hp
  unfold rounds
  rw [dif_pos hl]
  exact Classical.choose_spec hl

/-- Code that the small language knows. -/
theorem code_sound (hcp : ∀ f, PureOk P Gl f (cp f)) (hci : ∀ f, ImpOk P Gl f (ci f)) (hG : HasG Gl V0.imm w0) {n : Nat} : ∀ (c : Code) (ic : ICode), compCode P h nt c = some ic →
    ∀ (st st' : St) (e : Exit) (a : Act) (w : World) (Q : Exit → Act → World → Prop), runCode cp ci n ic st = some (e, st') → Good V0 w0 nt st a w → (∀ a' w', Good V0 w0 nt st' a' w' → Q e a' w') → c.wp P Q a w := by
  intro c
  induction c with
  | skip =>
    intro ic hc st st' e a w Q hr hg hQ
    simp only [compCode, Option.some.injEq] at hc
    subst hc
    simp only [runCode, Option.some.injEq, Prod.mk.injEq] at hr
    obtain ⟨rfl, rfl⟩ := hr
    exact wp_skip (hQ _ _ hg)
  | label l =>
    intro ic hc st st' e a w Q hr hg hQ
    simp only [compCode, Option.some.injEq] at hc
    subst hc
    simp only [runCode, Option.some.injEq, Prod.mk.injEq] at hr
    obtain ⟨rfl, rfl⟩ := hr
    exact wp_label (hQ _ _ hg)
  | ret =>
    intro ic hc st st' e a w Q hr hg hQ
    simp only [compCode, Option.some.injEq] at hc
    subst hc
    simp only [runCode, Option.some.injEq, Prod.mk.injEq] at hr
    obtain ⟨rfl, rfl⟩ := hr
    exact wp_ret (hQ _ _ hg)
  | exit id =>
    intro ic hc st st' e a w Q hr hg hQ
    simp only [compCode, Option.some.injEq] at hc
    subst hc
    simp only [runCode, Option.some.injEq, Prod.mk.injEq] at hr
    obtain ⟨rfl, rfl⟩ := hr
    exact wp_exit (hQ _ _ hg)
  | region id ops draw =>
    intro ic hc st st' e a w Q hr hg hQ
    simp only [compCode, Option.bind_eq_some_iff] at hc
    obtain ⟨ios, h1, hc⟩ := hc
    split at hc
    · rename_i hd
      simp only [Option.some.injEq] at hc
      subst hc
      simp only [runCode, Option.map_eq_some_iff, Prod.mk.injEq] at hr
      obtain ⟨s, hr, rfl, rfl⟩ := hr
      have hlen : ios.length = ops.size := by have := (compOpers_get h1).1; simpa using this
      cases draw with
      | false =>
        refine wp_region (ops_sound hcp hci hG h1 _ st s a w ?_ hg hQ)
        rw [List.range_eq_range', ← hlen, ← runOps_idx ios _ 0 st (by omega)]
        simpa using hr
      | true =>
        simp only [Bool.not_true, Bool.false_or, drawOk, Bool.and_eq_true] at hd
        obtain ⟨⟨d1, d2⟩, d3⟩ := hd
        refine wp_region_draw fun t => ?_
        simp only [Region.schedule, d1, Bool.true_or, if_true]
        refine ops_sound hcp hci hG h1 _ st s a _ (linearise_sound hlen d3 d2 t hr) ?_ hQ
        obtain ⟨V, g1, g2, g3, g4⟩ := hg
        have hcell : ∀ A, ({ w with drawn := w.drawn + 1 } : World).cell? A = w.cell? A := fun A => rfl
        have hadv : Adv V w V { w with drawn := w.drawn + 1 } := ⟨fun b n hi => ⟨hi, rfl⟩, ⟨Nat.le_refl _, fun _ _ => rfl, Nat.le_refl _, fun _ _ => Nat.le_refl _, fun _ _ _ => ⟨rfl, fun c el h => ⟨c, h, rfl⟩⟩⟩, .refl V, rfl, fun _ _ h => h, fun _ _ _ => rfl, Nat.le_refl _, rfl, rfl, rfl, rfl⟩
        refine ⟨V, g1.trans hadv, ?_, g3.adv hadv, g4⟩
        exact ⟨g2.hB, g2.tag, g2.ep, fun r hr => ⟨(g2.root r hr).1, (g2.root r hr).2.ext hadv.ei hadv.er rfl⟩, g2.nobj, fun r hr => ⟨(g2.obj r hr).1, (g2.obj r hr).2.ext hadv.ei hadv.er rfl⟩, g2.ntok, g2.fr, g2.tag4, g2.tok⟩
    · cases hc
  | seq x y ihx ihy =>
    intro ic hc st st' e a w Q hr hg hQ
    simp only [compCode] at hc
    split at hc
    · rename_i ix iy hx hy
      simp only [Option.some.injEq] at hc
      subst hc
      simp only [runCode] at hr
      split at hr
      · rename_i s hs
        exact wp_seq (ihx ix hx st s .normal a w _ hs hg fun a' w' hg' => ihy iy hy s st' e a' w' Q hr hg' hQ)
      · rename_i hs
        refine wp_seq (ihx ix hx st st' e a w _ hr hg fun a' w' hg' => ?_)
        cases e with
        | normal => exact absurd hr (hs st')
        | _ => exact hQ a' w' hg'
    · cases hc
  | cond q x y ihx ihy =>
    intro ic hc st st' e a w Q hr hg hQ
    simp only [compCode] at hc
    split at hc
    · rename_i d ix iy hd hx hy
      simp only [Option.some.injEq] at hc
      subst hc
      have hv : VRel _ w 0 (d.val st.env) (a.eval q) := opd_rel (a := a) (Classical.choose_spec hg).2.2.1 hd
      simp only [runCode] at hr
      split at hr
      · rename_i hb
        rw [hb] at hv
        simp only [VRel] at hv
        exact wp_cond_true hv (ihx ix hx st st' e a w Q hr hg hQ)
      · rename_i hb
        rw [hb] at hv
        simp only [VRel] at hv
        exact wp_cond_false hv (ihy iy hy st st' e a w Q hr hg hQ)
      · cases hr
    · cases hc
  | block id x ihx =>
    intro ic hc st st' e a w Q hr hg hQ
    simp only [compCode, Option.map_eq_some_iff] at hc
    obtain ⟨ix, hx, rfl⟩ := hc
    simp only [runCode] at hr
    split at hr
    · rename_i i s hs
      split at hr
      · rename_i hid
        simp only [Option.some.injEq, Prod.mk.injEq] at hr
        obtain ⟨rfl, rfl⟩ := hr
        exact wp_block (ihx ix hx st s _ a w _ hs hg fun a' w' hg' => by simp only [Exit.inBlock, hid, if_true]; exact hQ _ _ hg')
      · rename_i hid
        simp only [Option.some.injEq, Prod.mk.injEq] at hr
        obtain ⟨rfl, rfl⟩ := hr
        exact wp_block (ihx ix hx st s _ a w _ hs hg fun a' w' hg' => by simp only [Exit.inBlock, hid, if_false]; exact hQ _ _ hg')
    · rename_i hs
      refine wp_block (ihx ix hx st st' e a w _ hr hg fun a' w' hg' => ?_)
      cases e with
      | exit i => exact absurd hr (hs i st')
      | _ => exact hQ _ _ hg'
  | loop x ihx =>
    intro ic hc st st' e a w Q hr hg hQ
    simp only [compCode, Option.map_eq_some_iff] at hc
    obtain ⟨ix, hx, rfl⟩ := hc
    simp only [runCode] at hr
    let p : Act → World → Nat → Prop := fun a w m => ∃ s, Good V0 w0 nt s a w ∧ iter (runCode cp ci n ix) m s = some (e, st')
    refine wp_loop (fun a w => ∃ m, p a w m) (rounds p) ⟨n, st, hg, hr⟩ ?_
    rintro a w ⟨m, hm⟩
    obtain ⟨⟨s, hgs, hit⟩, hmin⟩ := rounds_spec hm
    cases hk : rounds p a w with
    | zero => rw [hk] at hit; simp [iter] at hit
    | succ k =>
      rw [hk] at hit
      simp only [iter] at hit
      split at hit
      · rename_i s' hs'
        refine ihx ix hx s s' .normal a w _ hs' hgs fun a' w' hg' => ?_
        have hp' : p a' w' k := ⟨s', hg', hit⟩
        refine ⟨⟨k, hp'⟩, ?_⟩
        have := (rounds_spec hp').2 k hp'
        omega
      · rename_i hs'
        refine ihx ix hx s st' e a w _ hit hgs fun a' w' hg' => ?_
        cases e with
        | normal => exact absurd hit (hs' st')
        | _ => exact hQ _ _ hg'
  | scope x ihx =>
    intro ic hc st st' e a w Q hr hg hQ
    simp only [compCode] at hc
    refine wp_scope_straight (ihx ic hc st st' e a w _ hr hg fun a' w' hg' => ?_)
    cases e with
    | goto l => exact absurd rfl (runCode_goto ic st _ st' hr l)
    | _ => exact hQ _ _ hg'
  | _ => intro ic hc; simp [compCode] at hc

end

end Go.Proofs.YtdnoonnanhnkaaaDoor
