/- Texts of this proof, part 2: see the card for what is proved. -/
import Derived.Test.YtklepphkbbjbjaaDoorPc01
import Derived.Scope
import Derived.Test.YtklepphkbbjbjaaDoorPc00
namespace Go.Proofs.YtklepphkbbjbjaaDoor
set_option linter.unusedVariables false
set_option linter.unusedSimpArgs false
open Go Go.RowKit
def Good (V0 : Vw) (w0 : World) (nt : Nat) (st : St) (a : Act) (w : World) : Prop :=
  ∃ V, Adv V0 w0 V w ∧ Inv V st.loc st.sto w ∧ EnvRel V w st.env a.tmps ∧ a.tmps.size = nt ∧ a.defers = []
section
variable {P : Program} {Gl : List (Nat × Nat × Option Value)} {h : Hint} {cp : Nat → List DVal → Option DVal} {ci : Nat → List DVal → Sto → Option (DVal × Sto)} {V0 : Vw} {w0 : World} {nt : Nat}
theorem guard_val {V : Vw} {w : World} {env : Nat → DVal} {t : Array Value} (he : EnvRel V w env t) (d : Nat) (b : Bool) :
    ((match t[d]? with | some (Value.bool c) => some c | _ => none) == some b) = (env d).isB b := by
  have hd := he d
  rw [Array.getD_eq_getD_getElem?] at hd
  have key : ∀ v, VRel V w 0 (env d) v → ((match some v with | some (Value.bool c) => some c | _ => none) == some b) = (env d).isB b := by
    intro v hv
    generalize env d = x at hv
    cases x <;> simp only [VRel] at hv
    case bool c => subst hv; simp [DVal.isB]
    case undef => obtain ⟨-, rfl⟩ := hv; simp [DVal.isB, Go.undef]
    case int => subst hv; simp [DVal.isB]
    case str => subst hv; simp [DVal.isB]
    case nilp => subst hv; simp [DVal.isB]
    case nils => subst hv; simp [DVal.isB]
    case nilm => subst hv; simp [DVal.isB]
    case nilf => subst hv; simp [DVal.isB]
    case loc => obtain ⟨-, -, -, A, rfl, -⟩ := hv; simp [DVal.isB]
    case obj => obtain ⟨-, -, rfl⟩ := hv; simp [DVal.isB]
    case elem => obtain ⟨-, b, o, rfl, -⟩ := hv; simp [DVal.isB]
    case slice => obtain ⟨-, b, o, c, rfl, -⟩ := hv; simp [DVal.isB]
    case map => obtain ⟨-, -, rfl⟩ := hv; simp [DVal.isB]
    case func => obtain ⟨-, vs, rfl, -⟩ := hv; simp [DVal.isB]
    case agg => obtain ⟨vs, rfl, -⟩ := hv; simp [DVal.isB]
    case tup => obtain ⟨vs, rfl, -⟩ := hv; simp [DVal.isB]
    case empt => obtain ⟨A, rfl⟩ := hv; simp [DVal.isB]
    case err => obtain ⟨t, u, rfl⟩ := hv; simp [DVal.isB]
    case nilI => subst hv; simp [DVal.isB]
    case iface => obtain ⟨u, rfl, -⟩ := hv; simp [DVal.isB]
    case mslice => obtain ⟨-, -, c, rfl, -⟩ := hv; simp [DVal.isB]
  cases ht : t[d]? with
  | none =>
    rw [ht] at hd
    have := key _ hd
    rw [← this]
    simp [Go.undef]
  | some v =>
    rw [ht] at hd
    exact key v hd
def guardB (env : Nat → DVal) : Option (Nat × Bool) → Bool
  | none => true
  | some (d, b) => (env d).isB b
theorem wanted_iff {V : Vw} {w : World} {env : Nat → DVal} {a : Act} {ops : Array Oper} {o : Oper} {g : Option (Nat × Bool)} (he : EnvRel V w env a.tmps) (hg : compGuard ops.toList o.guard = some g) :
    Region.wanted o (yielded ops a.tmps) = guardB env g := by
  unfold Region.wanted
  generalize o.guard = gd at hg ⊢
  cases gd with
  | none => simp only [compGuard, Option.some.injEq] at hg; subst hg; rfl
  | some jb =>
    obtain ⟨j, b⟩ := jb
    simp only [compGuard] at hg
    split at hg
    · rename_i p hp
      simp only [Option.map_eq_some_iff] at hg
      obtain ⟨d, hd, rfl⟩ := hg
      have hp' : ops[j]? = some p := by rw [← hp, Array.getElem?_toList]
      have := guard_val he d b
      unfold yielded
      simp only [hp', Option.bind_some, hd]
      exact this
    · cases hg
theorem put_good {V : Vw} {w : World} {st : St} {a : Act} {dst : Option Nat} {d : DVal} {v : Value} (hd : slotOk nt dst = true) (ha : Adv V0 w0 V w) (hi : Inv V st.loc st.sto w) (he : EnvRel V w st.env a.tmps) (hn : a.tmps.size = nt) (hf : a.defers = [])
    (hv : VRel V w 0 d v) : Good V0 w0 nt (st.put dst d) (a.put dst v) w := by
  cases dst with
  | none => exact ⟨V, ha, hi, he, hn, hf⟩
  | some t =>
    simp only [slotOk, decide_eq_true_eq] at hd
    exact ⟨V, ha, hi, he.put (by omega) hv, by simp [Act.put, hn], hf⟩
theorem step_sound {ops : Array Oper} {Q : Exit → Act → World → Prop} {o : Oper} {io : IOper} {st st' : St} {a : Act} {w : World} {K : Act → World → Prop} {i : Nat} (hcp : ∀ f, PureOk P Gl f (cp f)) (hci : ∀ f, ImpOk P Gl f (ci f)) (hG : HasG Gl V0.imm w0) (hdet : h.rng = false ∨ io.op.det = true)
    (ho : ops[i]? = some o) (hc : compOper P h nt ops.toList o = some io) (hs : stepOp cp ci io st = some st') (hg : Good V0 w0 nt st a w) (hK : ∀ a' w', Good V0 w0 nt st' a' w' → K a' w') : wpOp P ops Q i K a w := by
  obtain ⟨V, hadv, hi, he, hn, hf⟩ := hg
  unfold compOper at hc
  split at hc
  · rename_i g h2
    split at hc
    · rename_i hslot
      simp only [Option.some.injEq] at hc
      subst hc
      unfold wpOp
      simp only [ho]
      rw [wanted_iff he h2]
      have hexec : ∀ {st'}, execOp' cp ci o.dst (compOpS P h o.dst o.op).1 (compOpS P h o.dst o.op).2 st = some st' → (∀ a' w', Good V0 w0 nt st' a' w' → K a' w') → o.wp P a w K Q := by
        intro st' hs hK
        have hdet1 := hdet
        simp only at hdet1
        unfold compOpS at hs hdet1
        split at hs
        case h_2 => simp [execOp', POp.sem] at hs
        rename_i x h1
        obtain ⟨iop, xs⟩ := x
        rw [h1] at hdet1
        have hdet' : h.rng = false ∨ iop.det = true := hdet1
        obtain ⟨env, L, σ⟩ := st
        obtain ⟨d, L', σ', rfl, hop⟩ := op_sound (h := h) (dst := o.dst) hcp hci (hG.ext hadv.ei) hi he hdet' h1 hs
        refine hop K Q fun v w' hv => ?_
        obtain ⟨V', ha', hi', hv'⟩ := hv
        exact hK _ _ (put_good (st := ⟨env, L', σ'⟩) hslot (hadv.trans ha') hi' (he.adv ha') hn hf hv')
      unfold stepOp at hs
      split at hs
      · rename_i e
        simp only at e
        subst e
        simp only [guardB, if_true]
        exact .inl (hexec hs hK)
      · rename_i d b e
        simp only at e
        subst e
        simp only at hs
        split at hs
        · rename_i hb
          rw [if_pos (show guardB st.env (some (d, b)) = true from hb)]
          exact .inl (hexec hs hK)
        · rename_i hb
          rw [if_neg (show ¬ guardB st.env (some (d, b)) = true from hb)]
          simp only [Option.some.injEq] at hs
          subst hs
          exact hK _ _ (put_good hslot hadv hi he hn hf (by simp [VRel]))
    · cases hc
  · cases hc
theorem compOpers_get {ops : List Oper} : ∀ {os : List Oper} {ios : List IOper}, compOpers P h nt ops os = some ios → ios.length = os.length ∧ ∀ (i : Nat) (io : IOper), ios[i]? = some io → ∃ o, os[i]? = some o ∧ compOper P h nt ops o = some io
  | [], ios, hc => by
    simp only [compOpers, Option.some.injEq] at hc
    subst hc
    exact ⟨rfl, fun i io hi => by simp at hi⟩
  | o :: os, ios, hc => by
    simp only [compOpers] at hc
    split at hc
    · rename_i io' is h1 h2
      simp only [Option.some.injEq] at hc
      subst hc
      obtain ⟨g1, g2⟩ := compOpers_get h2
      refine ⟨by simp [g1], fun i io hi => ?_⟩
      cases i with
      | zero => simp only [List.getElem?_cons_zero, Option.some.injEq] at hi; subst hi; exact ⟨o, rfl, h1⟩
      | succ i => rw [List.getElem?_cons_succ] at hi ⊢; exact g2 i io hi
    · cases hc
theorem ops_sound {ops : Array Oper} {Q : Exit → Act → World → Prop} {ios : List IOper} (hcp : ∀ f, PureOk P Gl f (cp f)) (hci : ∀ f, ImpOk P Gl f (ci f)) (hG : HasG Gl V0.imm w0) (hr0 : ∀ io ∈ ios, h.rng = false ∨ io.op.det = true) (hc : compOpers P h nt ops.toList ops.toList = some ios) :
    ∀ (l : List Nat) (st st' : St) (a : Act) (w : World), runIdx cp ci ios l st = some st' → Good V0 w0 nt st a w → (∀ a' w', Good V0 w0 nt st' a' w' → Q .normal a' w') → wpOps P ops Q l a w
  | [], st, st', a, w, hr, hg, hQ => by
    simp only [runIdx, Option.some.injEq] at hr
    subst hr
    exact hQ _ _ hg
  | i :: l, st, st', a, w, hr, hg, hQ => by
    rw [wpOps_cons]
    simp only [runIdx] at hr
    split at hr
    · rename_i io hio
      simp only [Option.bind_eq_some_iff] at hr
      obtain ⟨s, h1, h2⟩ := hr
      obtain ⟨o, ho, hco⟩ := (compOpers_get hc).2 i io hio
      exact step_sound hcp hci hG (hr0 io (List.mem_of_getElem? hio)) (by rw [← ho, Array.getElem?_toList]) hco h1 hg fun a' w' hg' => ops_sound hcp hci hG hr0 hc l s st' a' w' h2 hg' hQ
    · cases hr
theorem iter_goto {f : St → Option (Exit × St)} (hf : ∀ st e st', f st = some (e, st') → ∀ l, e ≠ .goto l) : ∀ (n : Nat) (st : St) (e : Exit) (st' : St), iter f n st = some (e, st') → ∀ l, e ≠ .goto l
  | 0, st, e, st', hi => by simp [iter] at hi
  | n + 1, st, e, st', hi => by
    simp only [iter] at hi
    split at hi
    · exact iter_goto hf n _ e st' hi
    · exact hf _ _ _ hi
theorem runCode_goto {n : Nat} : ∀ (c : ICode) (st : St) (e : Exit) (st' : St), runCode cp ci n c st = some (e, st') → ∀ l, e ≠ .goto l
  | .skip, st, e, st', hr => by simp only [runCode, Option.some.injEq, Prod.mk.injEq] at hr; obtain ⟨rfl, -⟩ := hr; intro l e; cases e
  | .ret, st, e, st', hr => by simp only [runCode, Option.some.injEq, Prod.mk.injEq] at hr; obtain ⟨rfl, -⟩ := hr; intro l e; cases e
  | .exit id, st, e, st', hr => by simp only [runCode, Option.some.injEq, Prod.mk.injEq] at hr; obtain ⟨rfl, -⟩ := hr; intro l e; cases e
  | .reg ops, st, e, st', hr => by simp only [runCode, Option.map_eq_some_iff, Prod.mk.injEq] at hr; obtain ⟨_, -, rfl, -⟩ := hr; intro l e; cases e
  | .seq a b, st, e, st', hr => by
    simp only [runCode] at hr
    split at hr
    · exact runCode_goto b _ e st' hr
    · exact runCode_goto a _ e st' hr
  | .cond c a b, st, e, st', hr => by
    simp only [runCode] at hr
    split at hr
    · exact runCode_goto a _ e st' hr
    · exact runCode_goto b _ e st' hr
    · cases hr
  | .block id a, st, e, st', hr => by
    simp only [runCode] at hr
    split at hr
    · rename_i i s hs
      split at hr
      · simp only [Option.some.injEq, Prod.mk.injEq] at hr; obtain ⟨rfl, -⟩ := hr; intro l e; cases e
      · simp only [Option.some.injEq, Prod.mk.injEq] at hr; obtain ⟨rfl, -⟩ := hr; intro l e; cases e
    · exact runCode_goto a _ e st' hr
  | .loop a, st, e, st', hr => by
    simp only [runCode] at hr
    exact iter_goto (fun st e st' => runCode_goto a st e st') n st e st' hr
theorem least (p : Nat → Prop) : ∀ n, p n → ∃ m, p m ∧ ∀ k, p k → m ≤ k := by
  intro n
  induction n using Nat.strongRecOn with
  | _ n ih =>
    intro hp
    by_cases hl : ∃ k, k < n ∧ p k
    · obtain ⟨k, hk, hpk⟩ := hl
      exact ih k hk hpk
    · exact ⟨n, hp, fun k hk => Nat.le_of_not_lt fun hlt => hl ⟨k, hlt, hk⟩⟩
noncomputable def rounds (p : Act → World → Nat → Prop) (a : Act) (w : World) : Nat :=
  open Classical in if hp : ∃ m, p a w m ∧ ∀ k, p a w k → m ≤ k then Classical.choose hp else 0
theorem rounds_spec {p : Act → World → Nat → Prop} {a : Act} {w : World} {n : Nat} (hp : p a w n) : p a w (rounds p a w) ∧ ∀ k, p a w k → rounds p a w ≤ k := by
  have hl := least (p a w) n hp
  unfold rounds
  rw [dif_pos hl]
  exact Classical.choose_spec hl
def unG : Exit → Exit
  | .exit i => if i < 1000000 then .exit i else .goto (i - 1000000)
  | e => e
theorem iter_exits {f : St → Option (Exit × St)} {S : List Nat} (hf : ∀ st i st', f st = some (.exit i, st') → i ∈ S) : ∀ (n : Nat) (st : St) (i : Nat) (st' : St), iter f n st = some (.exit i, st') → i ∈ S
  | 0, st, i, st', h => by simp [iter] at h
  | n + 1, st, i, st', h => by
    simp only [iter] at h
    split at h
    · exact iter_exits hf n _ i st' h
    · exact hf _ _ _ h
theorem run_exits {n : Nat} : ∀ (c : ICode) (st : St) (i : Nat) (st' : St), runCode cp ci n c st = some (.exit i, st') → i ∈ c.exits
  | .skip, st, i, st', hr => by simp [runCode] at hr
  | .ret, st, i, st', hr => by simp [runCode] at hr
  | .exit id, st, i, st', hr => by
    simp only [runCode, Option.some.injEq, Prod.mk.injEq, Exit.exit.injEq] at hr
    simp [ICode.exits, hr.1]
  | .reg ops, st, i, st', hr => by simp [runCode] at hr
  | .seq a b, st, i, st', hr => by
    simp only [runCode] at hr
    unfold ICode.exits
    split at hr
    · exact List.mem_append_right _ (run_exits b _ i st' hr)
    · exact List.mem_append_left _ (run_exits a _ i st' hr)
  | .cond c a b, st, i, st', hr => by
    simp only [runCode] at hr
    unfold ICode.exits
    split at hr
    · exact List.mem_append_left _ (run_exits a _ i st' hr)
    · exact List.mem_append_right _ (run_exits b _ i st' hr)
    · cases hr
  | .block id a, st, i, st', hr => by
    simp only [runCode] at hr
    unfold ICode.exits
    split at hr
    · rename_i k s hs
      split at hr
      · simp at hr
      · rename_i hne
        simp only [Option.some.injEq, Prod.mk.injEq, Exit.exit.injEq] at hr
        obtain ⟨rfl, rfl⟩ := hr
        exact List.mem_filter.2 ⟨run_exits a _ _ _ hs, by simpa using hne⟩
    · rename_i hs
      exact absurd hr (hs i st')
  | .loop a, st, i, st', hr => by
    simp only [runCode] at hr
    unfold ICode.exits
    exact iter_exits (fun st i st' => run_exits a st i st') n st i st' hr
def wpL (P : Program) : List Code → (Exit → Act → World → Prop) → Act → World → Prop
  | [], Z, a, w => Z .normal a w
  | c :: cs, Z, a, w => c.wp P (Exit.then (wpL P cs Z) Z) a w
theorem then_mono {Z Z' : Exit → Act → World → Prop} {n n' : Act → World → Prop} (h1 : ∀ a w, n a w → n' a w) (h2 : ∀ e a w, e ≠ .normal → Z e a w → Z' e a w) : ∀ e a w, Exit.then n Z e a w → Exit.then n' Z' e a w := by
  intro e a w h
  cases e <;> first | exact h1 _ _ h | exact h2 _ _ _ (by simp) h
theorem wpL_app : ∀ {xs ys : List Code} {Z : Exit → Act → World → Prop} {a : Act} {w : World}, wpL P (xs ++ ys) Z a w ↔ wpL P xs (Exit.then (wpL P ys Z) Z) a w
  | [], ys, Z, a, w => Iff.rfl
  | c :: cs, ys, Z, a, w => by
    constructor
    · intro h
      exact wp_mono h (then_mono (fun a w h => wpL_app.1 h) fun e a w hne h => by cases e <;> first | exact absurd rfl hne | exact h)
    · intro h
      exact wp_mono h (then_mono (fun a w h => wpL_app.2 h) fun e a w hne h => by cases e <;> first | exact absurd rfl hne | exact h)
def flatG : Code → List Code
  | .seq a b => flatG a ++ flatG b
  | c => [c]
theorem wp_then {c : Code} {Q : Exit → Act → World → Prop} {a : Act} {w : World} (h : c.wp P (Exit.then (Q .normal) Q) a w) : c.wp P Q a w :=
  wp_mono h fun e a w h => by cases e <;> exact h
theorem flat_wp : ∀ {c : Code} {Q : Exit → Act → World → Prop} {a : Act} {w : World}, wpL P (flatG c) Q a w → c.wp P Q a w := by
  intro c
  induction c with
  | seq x y ihx ihy =>
    intro Q a w h
    simp only [flatG] at h
    exact wp_seq (wp_mono (ihx (wpL_app.1 h)) (then_mono (fun a w h => ihy h) fun e a w _ h => h))
  | _ => intro Q a w h; exact wp_then h
theorem find_none : ∀ {c : Code} {l : Nat}, findLabel c l = none → Code.label l ∉ flatG c := by
  intro c
  induction c with
  | seq x y ihx ihy =>
    intro l h
    simp only [findLabel] at h
    split at h
    · cases h
    · rename_i hx
      simp only [flatG, List.mem_append, not_or]
      exact ⟨ihx hx, ihy h⟩
  | label k =>
    intro l h
    simp only [findLabel] at h
    split at h
    · cases h
    · rename_i hne
      simp only [flatG, List.mem_singleton, Code.label.injEq]
      intro e
      exact hne (by rw [e]; simp)
  | _ => intro l h; simp [flatG]
theorem find_some : ∀ {c rest : Code} {l : Nat}, findLabel c l = some rest → ∃ pre suf, flatG c = pre ++ .label l :: suf ∧ Code.label l ∉ pre ∧ ∀ (Q : Exit → Act → World → Prop) a w, wpL P suf Q a w → rest.wp P Q a w := by
  intro c
  induction c with
  | seq x y ihx ihy =>
    intro rest l h
    simp only [findLabel] at h
    split at h
    · rename_i r hx
      simp only [Option.some.injEq] at h
      subst h
      obtain ⟨pre, suf, h1, h2, h3⟩ := ihx hx
      refine ⟨pre, suf ++ flatG y, by simp [flatG, h1], h2, fun Q a w hw => ?_⟩
      exact wp_seq (wp_mono (h3 _ a w (wpL_app.1 hw)) (then_mono (fun a w h => flat_wp h) fun e a w _ h => h))
    · rename_i hx
      obtain ⟨pre, suf, h1, h2, h3⟩ := ihy h
      refine ⟨flatG x ++ pre, suf, by simp [flatG, h1], ?_, h3⟩
      simp only [List.mem_append, not_or]
      exact ⟨find_none hx, h2⟩
  | label k =>
    intro rest l h
    simp only [findLabel] at h
    split at h
    · rename_i e
      simp only [Option.some.injEq] at h
      subst h
      have : k = l := by simpa using e
      subst this
      exact ⟨[], [], rfl, by simp, fun Q a w hw => wp_skip hw⟩
    · cases h
  | _ => intro rest l h; simp [findLabel] at h
theorem first_unique {α : Type} {x : α} : ∀ {p q s t : List α}, p ++ x :: s = q ++ x :: t → x ∉ p → x ∉ q → s = t
  | [], [], s, t, h, _, _ => by simpa using h
  | [], y :: q, s, t, h, _, hq => by
    simp only [List.nil_append, List.cons_append, List.cons.injEq] at h
    exact absurd (by rw [h.1]; simp) hq
  | y :: p, [], s, t, h, hp, _ => by
    simp only [List.nil_append, List.cons_append, List.cons.injEq] at h
    exact absurd (by rw [← h.1]; simp) hp
  | y :: p, z :: q, s, t, h, hp, hq => by
    simp only [List.cons_append, List.cons.injEq] at h
    exact first_unique h.2 (fun hh => hp (List.mem_cons_of_mem _ hh)) (fun hh => hq (List.mem_cons_of_mem _ hh))
def ZsG (P : Program) (c : Code) (Q : Exit → Act → World → Prop) (e : Exit) (a : Act) (w : World) : Prop :=
  ∀ Z : Exit → Act → World → Prop, (∀ e a w, (∀ l, e = .goto l → findLabel c l = none) → Q e a w → Z e a w) → (∀ l rest a w, findLabel c l = some rest → rest.wp P Z a w → Z (.goto l) a w) → Z e a w
theorem ZsG.out {c : Code} {Q : Exit → Act → World → Prop} {e : Exit} {a : Act} {w : World} (h : ∀ l, e = .goto l → findLabel c l = none) (hq : Q e a w) : ZsG P c Q e a w :=
  fun Z h1 _ => h1 e a w h hq
theorem ZsG.goto {c rest : Code} {Q : Exit → Act → World → Prop} {l : Nat} {a : Act} {w : World} (h : findLabel c l = some rest) (hw : rest.wp P (ZsG P c Q) a w) : ZsG P c Q (.goto l) a w :=
  fun Z h1 h2 => h2 l rest a w h (wp_mono hw fun e a w hz => hz Z h1 h2)
theorem scope_wp {c : Code} {Q : Exit → Act → World → Prop} {a : Act} {w : World} (h : c.wp P (ZsG P c Q) a w) : (Code.scope c).wp P Q a w := by
  intro b k cs
  have key : ∀ e a1 w1, ZsG P c Q e a1 w1 → ∀ m, Arrives P m b (.inScope c :: k) cs e a1 w1 → ∃ e' a' w', Q e' a' w' ∧ Arrives P m b k cs e' a' w' := by
    intro e a1 w1 hz
    refine hz (fun e a1 w1 => ∀ m, Arrives P m b (.inScope c :: k) cs e a1 w1 → ∃ e' a' w', Q e' a' w' ∧ Arrives P m b k cs e' a' w') ?_ ?_
    · intro e a1 w1 hl hq m harr
      refine ⟨e, a1, w1, hq, ?_⟩
      cases e with
      | normal => exact Steps.trans harr (.one step_inScope)
      | exit id => exact fun k' hk => harr k' (by simp [exitTo, hk])
      | goto l => exact fun k' hk => harr k' (by simp [gotoIn, hl l rfl, hk])
      | ret => exact harr
      | panic ch => exact harr
      | outgrown => exact harr
    · intro l rest a1 w1 hf hw m harr
      have hs := harr (.code rest :: .inScope c :: k) (by simp [gotoIn, hf])
      obtain ⟨e2, a2, w2, hz2, harr2⟩ := hw b (.inScope c :: k) cs
      exact hz2 m (.of_steps hs harr2)
  obtain ⟨e, a1, w1, hz, harr⟩ := h b (.inScope c :: k) cs
  obtain ⟨e', a', w', hq, harr'⟩ := key e a1 w1 hz _ harr
  exact ⟨e', a', w', hq, .of_steps (.one step_scope) harr'⟩
def SoundL (P : Program) (cp : Nat → List DVal → Option DVal) (ci : Nat → List DVal → Sto → Option (DVal × Sto)) (V0 : Vw) (w0 : World) (nt n : Nat) (s : ICode) (L : List Code) : Prop :=
  ∀ (st st' : St) (e : Exit) (a : Act) (w : World) (Z : Exit → Act → World → Prop), runCode cp ci n s st = some (e, st') → Good V0 w0 nt st a w → (∀ a' w', Good V0 w0 nt st' a' w' → Z (unG e) a' w') → wpL P L Z a w
def segs : List (Nat × List Code) → List Code
  | [] => []
  | (l, L) :: r => .label l :: (L ++ segs r)
def noLab (L : List Code) : Prop := ∀ l, Code.label l ∉ L
inductive SegsOk (P : Program) (cp : Nat → List DVal → Option DVal) (ci : Nat → List DVal → Sto → Option (DVal × Sto)) (V0 : Vw) (w0 : World) (nt n : Nat) : List (Nat × ICode) → List (Nat × List Code) → Prop where
  | nil : SegsOk P cp ci V0 w0 nt n [] []
  | cons {l s L ls Ls} : SoundL P cp ci V0 w0 nt n s L → noLab L → SegsOk P cp ci V0 w0 nt n ls Ls → SegsOk P cp ci V0 w0 nt n ((l, s) :: ls) ((l, L) :: Ls)
def SpOk (P : Program) (cp : Nat → List DVal → Option DVal) (ci : Nat → List DVal → Sto → Option (DVal × Sto)) (V0 : Vw) (w0 : World) (nt n : Nat) (c : Code) (sp : Sp) : Prop :=
  ∃ L0 Ls, flatG c = L0 ++ segs Ls ∧ SoundL P cp ci V0 w0 nt n sp.1 L0 ∧ noLab L0 ∧ SegsOk P cp ci V0 w0 nt n sp.2 Ls
theorem unG_ne {e : Exit} (h : e ≠ .normal) : unG e ≠ .normal := by
  cases e <;> simp only [unG] <;> first | exact h | (split <;> simp) | simp
theorem SoundL.seq {n : Nat} {s t : ICode} {L M : List Code} (h1 : SoundL P cp ci V0 w0 nt n s L) (h2 : SoundL P cp ci V0 w0 nt n t M) : SoundL P cp ci V0 w0 nt n (.seq s t) (L ++ M) := by
  intro st st' e a w Z hr hg hZ
  rw [wpL_app]
  simp only [runCode] at hr
  split at hr
  · rename_i s1 hs
    exact h1 st s1 .normal a w _ hs hg fun a' w' hg' => h2 s1 st' e a' w' Z hr hg' hZ
  · rename_i hs
    have hne : e ≠ .normal := fun he => hs st' (by rw [← he]; exact hr)
    refine h1 st st' e a w _ hr hg fun a' w' hg' => ?_
    have := hZ a' w' hg'
    have hu := unG_ne hne
    generalize unG e = u at *
    cases u <;> first | exact absurd rfl hu | exact this
theorem noLab.app {L M : List Code} (h1 : noLab L) (h2 : noLab M) : noLab (L ++ M) := fun l h => (List.mem_append.1 h).elim (h1 l) (h2 l)
theorem segs_app : ∀ {A B : List (Nat × List Code)}, segs (A ++ B) = segs A ++ segs B
  | [], B => rfl
  | (l, L) :: A, B => by simp [segs, segs_app (A := A)]
theorem SegsOk.app {n : Nat} {ls ms : List (Nat × ICode)} {Ls Ms : List (Nat × List Code)} (h1 : SegsOk P cp ci V0 w0 nt n ls Ls) (h2 : SegsOk P cp ci V0 w0 nt n ms Ms) : SegsOk P cp ci V0 w0 nt n (ls ++ ms) (Ls ++ Ms) := by
  induction h1 with
  | nil => exact h2
  | cons a b _ ih => exact .cons a b ih
theorem SegsOk.last {n : Nat} {b : ICode} {M : List Code} (hb : SoundL P cp ci V0 w0 nt n b M) (hM : noLab M) : ∀ {ls : List (Nat × ICode)} {Ls : List (Nat × List Code)} {p : Nat × ICode}, SegsOk P cp ci V0 w0 nt n (p :: ls) Ls → ∃ Ls', SegsOk P cp ci V0 w0 nt n (addLast b p ls) Ls' ∧ segs Ls' = segs Ls ++ M
  | [], _, (l, s), .cons (L := L) h1 h2 .nil => ⟨[(l, L ++ M)], .cons (h1.seq hb) (h2.app hM) .nil, by simp [segs]⟩
  | q :: qs, _, (l, s), .cons (L := L) h1 h2 h3 => by
    obtain ⟨Ls', h4, h5⟩ := SegsOk.last hb hM h3
    exact ⟨(l, L) :: Ls', .cons h1 h2 h4, by simp [segs, h5]⟩
theorem SpOk.seq {n : Nat} {x y : Code} {s t : Sp} (h1 : SpOk P cp ci V0 w0 nt n x s) (h2 : SpOk P cp ci V0 w0 nt n y t) : SpOk P cp ci V0 w0 nt n (.seq x y) (spSeq s t) := by
  obtain ⟨L0, Ls, a1, a2, a3, a4⟩ := h1
  obtain ⟨M0, Ms, b1, b2, b3, b4⟩ := h2
  obtain ⟨s0, ls⟩ := s
  obtain ⟨t0, ms⟩ := t
  cases ls with
  | nil =>
    cases a4
    exact ⟨L0 ++ M0, Ms, by simp [flatG, a1, b1, segs], a2.seq b2, a3.app b3, b4⟩
  | cons p ls =>
    obtain ⟨Ls', c1, c2⟩ := SegsOk.last b2 b3 a4
    exact ⟨L0, Ls' ++ Ms, by simp [flatG, a1, b1, segs_app, c2], a2, a3, c1.app b4⟩
theorem seg_labels {n : Nat} {ls : List (Nat × ICode)} {Ls : List (Nat × List Code)} (h : SegsOk P cp ci V0 w0 nt n ls Ls) : ∀ l, Code.label l ∈ segs Ls → l ∈ ls.map (·.1) := by
  induction h with
  | nil => intro l hl; simp [segs] at hl
  | cons h1 h2 _ ih =>
    intro k hk
    simp only [segs, List.mem_cons, List.mem_append, Code.label.injEq] at hk
    simp only [List.map_cons, List.mem_cons]
    rcases hk with hk | hk | hk
    · exact .inl hk
    · exact absurd hk (h2 k)
    · exact .inr (ih k hk)
theorem distinct_cons {x : Nat} {xs : List Nat} (h : distinct (x :: xs) = true) : x ∉ xs ∧ distinct xs = true := by
  simpa [distinct] using h
theorem seg_sound {n : Nat} {c : Code} {Q : Exit → Act → World → Prop} {l : Nat} {s : ICode} {L : List Code} {R : List Code} (hs : SoundL P cp ci V0 w0 nt n s L) (hx : ∀ i ∈ s.exits, i < 2000000)
    (hgoto : ∀ a w, wpL P (L ++ R) (ZsG P c Q) a w → ZsG P c Q (.goto l) a w) {e : Exit} {st' : St}
    (hn : e = .normal → ∀ a' w', Good V0 w0 nt st' a' w' → wpL P R (ZsG P c Q) a' w') (he : e ≠ .normal → ∀ a' w', Good V0 w0 nt st' a' w' → ZsG P c Q (unG e) a' w') :
    ∀ {st : St}, runCode cp ci n (segLoop l s) st = some (e, st') → ∀ a w, Good V0 w0 nt st a w → wpL P (L ++ R) (ZsG P c Q) a w := by
  have hu : unG (.exit (1000000 + l)) = .goto l := by
    simp only [unG]
    rw [if_neg (by omega), Nat.add_sub_cancel_left]
  -- what the loop leaves
  have key : ∀ (m : Nat) (st : St) (e2 : Exit), iter (runCode cp ci n (.block (1000000 + l) (.seq s (.exit (2000000 + l))))) m st = some (e2, st') → (e2 = .exit (2000000 + l) → e = .normal) → (e2 ≠ .exit (2000000 + l) → e = e2) →
      ∀ a w, Good V0 w0 nt st a w → wpL P (L ++ R) (ZsG P c Q) a w := by
    intro m
    induction m with
    | zero => intro st e2 h; simp [iter] at h
    | succ m ih =>
      intro st e2 hit h1 h2 a w hg
      rw [wpL_app]
      simp only [iter] at hit
      -- the run of the segment
      cases hr : runCode cp ci n s st with
      | none => simp [runCode, hr] at hit
      | some x =>
        obtain ⟨e3, s3⟩ := x
        by_cases h3 : e3 = .normal
        · subst h3
          have hb : runCode cp ci n (.block (1000000 + l) (.seq s (.exit (2000000 + l)))) st = some (.exit (2000000 + l), s3) := by
            simp only [runCode, hr]
            rw [if_neg (by omega)]
          rw [hb] at hit
          simp only [Option.some.injEq, Prod.mk.injEq] at hit
          obtain ⟨rfl, rfl⟩ := hit
          exact hs st s3 .normal a w _ hr hg fun a' w' hg' => hn (h1 rfl) a' w' hg'
        · have hseq : runCode cp ci n (.seq s (.exit (2000000 + l))) st = some (e3, s3) := by
            simp only [runCode, hr]
            try (split <;> simp_all)
          by_cases h4 : e3 = .exit (1000000 + l)
          · subst h4
            have hb : runCode cp ci n (.block (1000000 + l) (.seq s (.exit (2000000 + l)))) st = some (.normal, s3) := by
              have e : runCode cp ci n (.block (1000000 + l) (.seq s (.exit (2000000 + l)))) st = match runCode cp ci n (.seq s (.exit (2000000 + l))) st with
                | some (.exit i, st') => if i = 1000000 + l then some (.normal, st') else some (.exit i, st')
                | r => r := rfl
              rw [e, hseq]
              simp
            rw [hb] at hit
            simp only at hit
            refine hs st s3 _ a w _ hr hg fun a' w' hg' => ?_
            rw [hu]
            exact hgoto a' w' (ih s3 e2 hit h1 h2 a' w' hg')
          · have hb : runCode cp ci n (.block (1000000 + l) (.seq s (.exit (2000000 + l)))) st = some (e3, s3) := by
              have e : runCode cp ci n (.block (1000000 + l) (.seq s (.exit (2000000 + l)))) st = match runCode cp ci n (.seq s (.exit (2000000 + l))) st with
                | some (.exit i, st') => if i = 1000000 + l then some (.normal, st') else some (.exit i, st')
                | r => r := rfl
              rw [e, hseq]
              cases e3 with
              | exit i => simp only; rw [if_neg (fun hi => h4 (by rw [hi]))]
              | _ => rfl
            rw [hb] at hit
            have hit2 : e2 = e3 ∧ st' = s3 := by
              cases e3 <;> first | exact absurd rfl h3 | (simp only [Option.some.injEq, Prod.mk.injEq] at hit; exact ⟨hit.1.symm, hit.2.symm⟩)
            obtain ⟨rfl, rfl⟩ := hit2
            have hne : e2 ≠ .exit (2000000 + l) := fun hh => by
              rw [hh] at hr
              have := hx _ (run_exits s st _ _ hr)
              omega
            have hee := h2 hne
            subst hee
            refine hs st st' e a w _ hr hg fun a' w' hg' => ?_
            have hz := he h3 a' w' hg'
            have hu2 := unG_ne h3
            generalize unG e = u at *
            cases u <;> first | exact absurd rfl hu2 | exact hz
  intro st hrun a w hg
  have e0 : runCode cp ci n (segLoop l s) st = match iter (runCode cp ci n (.block (1000000 + l) (.seq s (.exit (2000000 + l))))) n st with
    | some (.exit i, st') => if i = 2000000 + l then some (.normal, st') else some (.exit i, st')
    | r => r := rfl
  rw [e0] at hrun
  cases hit : iter (runCode cp ci n (.block (1000000 + l) (.seq s (.exit (2000000 + l))))) n st with
  | none => rw [hit] at hrun; cases hrun
  | some x =>
    obtain ⟨e2, s2⟩ := x
    rw [hit] at hrun
    by_cases h2 : e2 = .exit (2000000 + l)
    · subst h2
      simp only [if_true, Option.some.injEq, Prod.mk.injEq] at hrun
      obtain ⟨rfl, rfl⟩ := hrun
      exact key n st _ hit (fun _ => rfl) (fun hh => absurd rfl hh) a w hg
    · have : e2 = e ∧ s2 = st' := by
        cases e2 with
        | exit i =>
          simp only at hrun
          rw [if_neg (fun hi => h2 (by rw [hi]))] at hrun
          simpa using hrun
        | _ => simpa using hrun
      obtain ⟨rfl, rfl⟩ := this
      exact key n st _ hit (fun hh => absurd hh h2) (fun _ => rfl) a w hg
theorem levels_sound {n : Nat} {c : Code} {Q : Exit → Act → World → Prop} : ∀ (ls : List (Nat × ICode)) (Ls : List (Nat × List Code)) (r : ICode) (A : List Code), SegsOk P cp ci V0 w0 nt n ls Ls → distinct (ls.map (·.1)) = true → (∀ p ∈ ls, ∀ i ∈ p.2.exits, i < 2000000) → flatG c = A ++ segs Ls → (∀ l ∈ ls.map (·.1), Code.label l ∉ A) →
    (∀ (st st' : St) (e : Exit) (a : Act) (w : World), runCode cp ci n r st = some (e, st') → Good V0 w0 nt st a w → (e = .normal → ∀ a' w', Good V0 w0 nt st' a' w' → wpL P (segs Ls) (ZsG P c Q) a' w') → (e ≠ .normal → ∀ a' w', Good V0 w0 nt st' a' w' → ZsG P c Q (unG e) a' w') → wpL P (flatG c) (ZsG P c Q) a w) →
    ∀ (st st' : St) (e : Exit) (a : Act) (w : World), runCode cp ci n (scopeLevels r ls) st = some (e, st') → Good V0 w0 nt st a w → (∀ a' w', Good V0 w0 nt st' a' w' → ZsG P c Q (unG e) a' w') → wpL P (flatG c) (ZsG P c Q) a w
  | [], _, r, A, .nil, _, _, _, _, hr, st, st', e, a, w, hrun, hg, hZ => by
    refine hr st st' e a w hrun hg (fun he a' w' hg' => ?_) (fun he => hZ)
    have := hZ a' w' hg'
    rw [he] at this
    exact this
  | (l, s) :: ls, _, r, A, .cons (L := L) (Ls := Ls) h1 h2 h3, hd, hx, hf, hA, hr, st, st', e, a, w, hrun, hg, hZ => by
    obtain ⟨hd1, hd2⟩ := distinct_cons hd
    have hf' : flatG c = (A ++ .label l :: L) ++ segs Ls := by rw [hf]; simp [segs]
    have hgoto : ∀ a w, wpL P (L ++ segs Ls) (ZsG P c Q) a w → ZsG P c Q (.goto l) a w := by
      intro a w hw
      cases hfl : findLabel c l with
      | none =>
        have := find_none hfl
        rw [hf] at this
        exact absurd (by simp [segs]) this
      | some rest =>
        obtain ⟨pre, suf, p1, p2, p3⟩ := find_some (P := P) hfl
        rw [hf] at p1
        have hs : suf = L ++ segs Ls := (first_unique (by simpa [segs] using p1) (hA l (by simp)) p2).symm
        exact ZsG.goto hfl (p3 _ a w (by rw [hs]; exact hw))
    refine levels_sound ls Ls (.seq (.block (1000000 + l) r) (segLoop l s)) (A ++ .label l :: L) h3 hd2 (fun p hp => hx p (List.mem_cons_of_mem _ hp)) hf' ?_ ?_ st st' e a w hrun hg hZ
    · intro k hk hmem
      simp only [List.mem_append, List.mem_cons, Code.label.injEq] at hmem
      rcases hmem with hm | hm | hm
      · exact hA k (by simp only [List.map_cons, List.mem_cons]; exact .inr hk) hm
      · exact hd1 (by rw [← hm]; exact hk)
      · exact h2 k hm
    · intro st st' e a w hrun hg hn he
      simp only [runCode] at hrun
      have hsx : ∀ i ∈ s.exits, i < 2000000 := hx (l, s) (by simp)
      cases hb : runCode cp ci n r st with
      | none => rw [hb] at hrun; simp at hrun
      | some x =>
        obtain ⟨e1, s1⟩ := x
        rw [hb] at hrun
        by_cases h4 : e1 = .normal
        · subst h4
          simp only at hrun
          refine hr st s1 .normal a w hb hg (fun _ a' w' hg' => ?_) (fun hh => absurd rfl hh)
          exact wp_label (seg_sound h1 hsx hgoto hn he hrun a' w' hg')
        · by_cases h5 : e1 = .exit (1000000 + l)
          · subst h5
            simp only [if_true] at hrun
            refine hr st s1 _ a w hb hg (fun hh => absurd hh (by simp)) (fun _ a' w' hg' => ?_)
            have hu : unG (.exit (1000000 + l)) = .goto l := by
              simp only [unG]
              rw [if_neg (by omega), Nat.add_sub_cancel_left]
            rw [hu]
            exact hgoto a' w' (seg_sound h1 hsx hgoto hn he hrun a' w' hg')
          · have : e1 = e ∧ s1 = st' := by
              cases e1 with
              | normal => exact absurd rfl h4
              | exit i =>
                simp only at hrun
                rw [if_neg (fun hi => h5 (by rw [hi]))] at hrun
                simpa using hrun
              | _ => simpa using hrun
            obtain ⟨rfl, rfl⟩ := this
            exact hr st _ _ a w hb hg (fun hh => absurd hh h4) (fun hh => he hh)
theorem SpOk.atom {n : Nat} {c : Code} {ic : ICode} (hc : flatG c = [c]) (hl : ∀ l, c ≠ .label l) (hs : ∀ (st st' : St) (e : Exit) (a : Act) (w : World) (Q : Exit → Act → World → Prop), runCode cp ci n ic st = some (e, st') → Good V0 w0 nt st a w → (∀ a' w', Good V0 w0 nt st' a' w' → Q (unG e) a' w') → c.wp P Q a w) : SpOk P cp ci V0 w0 nt n c (ic, []) :=
  ⟨[c], [], by simp [hc, segs], fun st st' e a w Z hr hg hZ => wp_mono (hs st st' e a w Z hr hg hZ) (fun e a w hz => by cases e <;> exact hz), (by intro l h; exact hl l (List.mem_singleton.1 h).symm), .nil⟩
theorem stuck_none {n : Nat} {st : St} {r : Exit × St} : runCode cp ci n stuckCode st ≠ some r := by
  intro hr
  simp [stuckCode, runCode, runOps, stepOp, execOp', POp.sem] at hr
theorem noGoto {n : Nat} {x : Code} {L0 : List Code} {Ls : List (Nat × List Code)} {ls : List (Nat × ICode)} {ic : ICode} {st st' : St} {e : Exit} {Q : Exit → Act → World → Prop} {a' : Act} {w' : World}
    (hf : flatG x = L0 ++ segs Ls) (h0 : noLab L0) (hs : SegsOk P cp ci V0 w0 nt n ls Ls) (hx : ∀ i ∈ ic.exits, ∀ l ∈ ls.map (·.1), i ≠ 1000000 + l) (hr : runCode cp ci n ic st = some (e, st')) (hq : Q (unG e) a' w') : ZsG P x Q (unG e) a' w' := by
  refine ZsG.out (fun l hl => ?_) hq
  cases hfl : findLabel x l with
  | none => rfl
  | some rest =>
    exfalso
    obtain ⟨pre, suf, p1, -, -⟩ := find_some (P := P) hfl
    have hm : Code.label l ∈ segs Ls := by
      have : Code.label l ∈ flatG x := by rw [p1]; simp
      rw [hf, List.mem_append] at this
      exact this.resolve_left (h0 l)
    have hl2 := seg_labels hs l hm
    cases e with
    | exit i =>
      simp only [unG] at hl
      split at hl
      · cases hl
      · rename_i hi
        simp only [Exit.goto.injEq] at hl
        exact hx i (run_exits ic st i st' hr) l hl2 (by omega)
    | goto k => exact runCode_goto ic st _ st' hr k rfl
    | _ => simp [unG] at hl
theorem code_sound (hcp : ∀ f, PureOk P Gl f (cp f)) (hci : ∀ f, ImpOk P Gl f (ci f)) (hG : HasG Gl V0.imm w0) (hr0 : h.rng = false) {n : Nat} : ∀ (c : Code), (∀ ic, (comp2 P h nt c).1 = some ic →
    ∀ (st st' : St) (e : Exit) (a : Act) (w : World) (Q : Exit → Act → World → Prop), runCode cp ci n ic st = some (e, st') → Good V0 w0 nt st a w → (∀ a' w', Good V0 w0 nt st' a' w' → Q (unG e) a' w') → c.wp P Q a w) ∧ ∀ sp, (comp2 P h nt c).2 = some sp → SpOk P cp ci V0 w0 nt n c sp := by
  intro c
  -- what has no labels: the list is the one code
  have same : ∀ (c : Code), flatG c = [c] → (∀ l, c ≠ .label l) → (comp2 P h nt c).2 = spOf (comp2 P h nt c).1 → (∀ ic, (comp2 P h nt c).1 = some ic →
      ∀ (st st' : St) (e : Exit) (a : Act) (w : World) (Q : Exit → Act → World → Prop), runCode cp ci n ic st = some (e, st') → Good V0 w0 nt st a w → (∀ a' w', Good V0 w0 nt st' a' w' → Q (unG e) a' w') → c.wp P Q a w) →
      (∀ ic, (comp2 P h nt c).1 = some ic →
      ∀ (st st' : St) (e : Exit) (a : Act) (w : World) (Q : Exit → Act → World → Prop), runCode cp ci n ic st = some (e, st') → Good V0 w0 nt st a w → (∀ a' w', Good V0 w0 nt st' a' w' → Q (unG e) a' w') → c.wp P Q a w) ∧ ∀ sp, (comp2 P h nt c).2 = some sp → SpOk P cp ci V0 w0 nt n c sp := by
    intro c h1 h2 h3 h4
    refine ⟨h4, fun sp hsp => ?_⟩
    rw [h3] at hsp
    simp only [spOf, Option.map_eq_some_iff] at hsp
    obtain ⟨ic, hic, rfl⟩ := hsp
    exact SpOk.atom h1 h2 (h4 ic hic)
  induction c with
  | skip =>
    refine same _ rfl (fun l hl => by cases hl) rfl ?_
    intro ic hc st st' e a w Q hr hg hQ
    simp only [comp2, Option.some.injEq] at hc
    subst hc
    simp only [runCode, Option.some.injEq, Prod.mk.injEq] at hr
    obtain ⟨rfl, rfl⟩ := hr
    exact wp_skip (hQ _ _ hg)
  | label l =>
    refine ⟨?_, ?_⟩
    · intro ic hc st st' e a w Q hr hg hQ
      simp only [comp2, Option.some.injEq] at hc
      subst hc
      simp only [runCode, Option.some.injEq, Prod.mk.injEq] at hr
      obtain ⟨rfl, rfl⟩ := hr
      exact wp_label (hQ _ _ hg)
    · intro sp hsp
      simp only [comp2, Option.some.injEq] at hsp
      subst hsp
      have hs : SoundL P cp ci V0 w0 nt n .skip [] := by
        intro st st' e a w Z hr hg hZ
        simp only [runCode, Option.some.injEq, Prod.mk.injEq] at hr
        obtain ⟨rfl, rfl⟩ := hr
        exact hZ _ _ hg
      exact ⟨[], [(l, [])], rfl, hs, (by intro l h; cases h), .cons hs (by intro l h; cases h) .nil⟩
  | ret =>
    refine same _ rfl (fun l hl => by cases hl) rfl ?_
    intro ic hc st st' e a w Q hr hg hQ
    simp only [comp2, Option.some.injEq] at hc
    subst hc
    simp only [runCode, Option.some.injEq, Prod.mk.injEq] at hr
    obtain ⟨rfl, rfl⟩ := hr
    exact wp_ret (hQ _ _ hg)
  | exit id =>
    refine same _ rfl (fun l hl => by cases hl) (by simp only [comp2]; split <;> rfl) ?_
    intro ic hc st st' e a w Q hr hg hQ
    simp only [comp2] at hc
    split at hc
    · rename_i hid
      simp only [Option.some.injEq] at hc
      subst hc
      simp only [runCode, Option.some.injEq, Prod.mk.injEq] at hr
      obtain ⟨rfl, rfl⟩ := hr
      have := hQ _ _ hg
      simp only [unG] at this
      rw [if_pos (by simpa using hid)] at this
      exact wp_exit this
    · simp only [Option.some.injEq] at hc
      subst hc
      exact absurd hr stuck_none
  | goto l =>
    refine same _ rfl (fun l hl => by cases hl) (by simp only [comp2]; split <;> rfl) ?_
    intro ic hc st st' e a w Q hr hg hQ
    simp only [comp2] at hc
    split at hc
    · simp only [Option.some.injEq] at hc
      subst hc
      simp only [runCode, Option.some.injEq, Prod.mk.injEq] at hr
      obtain ⟨rfl, rfl⟩ := hr
      have := hQ _ _ hg
      simp only [unG] at this
      rw [if_neg (by omega), Nat.add_sub_cancel_left] at this
      exact wp_goto this
    · simp only [Option.some.injEq] at hc
      subst hc
      exact absurd hr stuck_none
  | region id ops draw =>
    refine same _ rfl (fun l hl => by cases hl) rfl ?_
    intro ic hc st st' e a w Q hr hg hQ
    simp only [comp2, Option.bind_eq_some_iff] at hc
    obtain ⟨ios, h1, hc⟩ := hc
    split at hc
    · rename_i hd
      simp only [Option.some.injEq] at hc
      subst hc
      simp only [runCode, Option.map_eq_some_iff, Prod.mk.injEq] at hr
      obtain ⟨s, hr, rfl, rfl⟩ := hr
      have hlen : ios.length = ops.size := by have := (compOpers_get h1).1; simpa using this
      cases draw with
      | false =>
        refine wp_region (ops_sound hcp hci hG (fun _ _ => .inl hr0) h1 _ st s a w ?_ hg hQ)
        rw [List.range_eq_range', ← hlen, ← runOps_idx ios _ 0 st (by omega)]
        simpa using hr
      | true =>
        simp only [Bool.not_true, Bool.false_or, drawOk, Bool.and_eq_true] at hd
        obtain ⟨⟨d1, d2⟩, d3⟩ := hd
        refine wp_region_draw fun t => ?_
        simp only [Region.schedule, d1, Bool.true_or, if_true]
        refine ops_sound hcp hci hG (fun _ _ => .inl hr0) h1 _ st s a _ (linearise_sound hlen d3 d2 t hr) ?_ hQ
        obtain ⟨V, g1, g2, g3, g4⟩ := hg
        have hcell : ∀ A, ({ w with drawn := w.drawn + 1 } : World).cell? A = w.cell? A := fun A => rfl
        obtain ⟨hadv, hinv⟩ := g2.drew (w' := { w with drawn := w.drawn + 1 }) rfl rfl rfl rfl
        exact ⟨V, g1.trans hadv, hinv, g3.adv hadv, g4⟩
    · simp only [Option.some.injEq] at hc
      subst hc
      exact absurd hr stuck_none
  | seq x y ihx ihy =>
    refine ⟨?_, ?_⟩
    · intro ic hc st st' e a w Q hr hg hQ
      simp only [comp2] at hc
      unfold seqO at hc
      split at hc
      · rename_i ix iy hx hy
        simp only [Option.some.injEq] at hc
        subst hc
        simp only [runCode] at hr
        split at hr
        · rename_i s hs
          exact wp_seq (ihx.1 ix hx st s .normal a w _ hs hg fun a' w' hg' => ihy.1 iy hy s st' e a' w' Q hr hg' hQ)
        · rename_i hs
          refine wp_seq (ihx.1 ix hx st st' e a w _ hr hg fun a' w' hg' => ?_)
          have hne : e ≠ .normal := fun he => hs st' (by rw [← he]; exact hr)
          have hu := unG_ne hne
          have hq := hQ a' w' hg'
          generalize unG e = u at *
          cases u <;> first | exact absurd rfl hu | exact hq
      · cases hc
    · intro sp hsp
      simp only [comp2] at hsp
      unfold seqSp at hsp
      split at hsp
      · rename_i sx sy hx hy
        simp only [Option.some.injEq] at hsp
        subst hsp
        exact (ihx.2 sx hx).seq (ihy.2 sy hy)
      · cases hsp
  | cond q x y ihx ihy =>
    refine same _ rfl (fun l hl => by cases hl) (by simp only [comp2]; split <;> rfl) ?_
    intro ic hc st st' e a w Q hr hg hQ
    simp only [comp2] at hc
    split at hc
    · rename_i d ix iy hd hx hy
      simp only [Option.some.injEq] at hc
      subst hc
      have hv : VRel _ w 0 (d.val st.env) (a.eval q) := opd_rel (a := a) (Classical.choose_spec hg).2.2.1 hd
      simp only [runCode] at hr
      split at hr
      · rename_i hb
        rw [hb] at hv
        simp only [VRel] at hv
        exact wp_cond_true hv (ihx.1 ix hx st st' e a w Q hr hg hQ)
      · rename_i hb
        rw [hb] at hv
        simp only [VRel] at hv
        exact wp_cond_false hv (ihy.1 iy hy st st' e a w Q hr hg hQ)
      · cases hr
    · cases hc
  | block id x ihx =>
    refine same _ rfl (fun l hl => by cases hl) (by simp only [comp2]; split <;> rfl) ?_
    intro ic hc st st' e a w Q hr hg hQ
    simp only [comp2] at hc
    split at hc
    · rename_i hlt
      have hlt' : id < 1000000 := by simpa using hlt
      simp only [Option.map_eq_some_iff] at hc
      obtain ⟨ix, hx, rfl⟩ := hc
      simp only [runCode] at hr
      split at hr
      · rename_i i s hs
        split at hr
        · rename_i hid
          simp only [Option.some.injEq, Prod.mk.injEq] at hr
          obtain ⟨rfl, rfl⟩ := hr
          subst hid
          refine wp_block (ihx.1 ix hx st s _ a w _ hs hg fun a' w' hg' => ?_)
          simp only [unG]
          rw [if_pos hlt']
          simp only [Exit.inBlock, if_true]
          exact hQ _ _ hg'
        · rename_i hid
          simp only [Option.some.injEq, Prod.mk.injEq] at hr
          obtain ⟨rfl, rfl⟩ := hr
          refine wp_block (ihx.1 ix hx st s _ a w _ hs hg fun a' w' hg' => ?_)
          have hq := hQ _ _ hg'
          simp only [unG] at hq ⊢
          split
          · rename_i hi
            rw [if_pos hi] at hq
            simp only [Exit.inBlock, hid, if_false]
            exact hq
          · rename_i hi
            rw [if_neg hi] at hq
            exact hq
      · rename_i hs
        refine wp_block (ihx.1 ix hx st st' e a w _ hr hg fun a' w' hg' => ?_)
        cases e with
        | exit i => exact absurd hr (hs i st')
        | _ => exact hQ _ _ hg'
    · simp only [Option.some.injEq] at hc
      subst hc
      exact absurd hr stuck_none
  | loop x ihx =>
    refine same _ rfl (fun l hl => by cases hl) rfl ?_
    intro ic hc st st' e a w Q hr hg hQ
    simp only [comp2, Option.map_eq_some_iff] at hc
    obtain ⟨ix, hx, rfl⟩ := hc
    simp only [runCode] at hr
    let p : Act → World → Nat → Prop := fun a w m => ∃ s, Good V0 w0 nt s a w ∧ iter (runCode cp ci n ix) m s = some (e, st')
    refine wp_loop (fun a w => ∃ m, p a w m) (rounds p) ⟨n, st, hg, hr⟩ ?_
    rintro a w ⟨m, hm⟩
    obtain ⟨⟨s, hgs, hit⟩, hmin⟩ := rounds_spec hm
    cases hk : rounds p a w with
    | zero => rw [hk] at hit; simp [iter] at hit
    | succ k =>
      rw [hk] at hit
      simp only [iter] at hit
      split at hit
      · rename_i s' hs'
        refine ihx.1 ix hx s s' .normal a w _ hs' hgs fun a' w' hg' => ?_
        have hp' : p a' w' k := ⟨s', hg', hit⟩
        refine ⟨⟨k, hp'⟩, ?_⟩
        have := (rounds_spec hp').2 k hp'
        omega
      · rename_i hs'
        refine ihx.1 ix hx s st' e a w _ hit hgs fun a' w' hg' => ?_
        have hne : e ≠ .normal := fun he => hs' st' (by rw [← he]; exact hit)
        have hu := unG_ne hne
        have hq := hQ a' w' hg'
        generalize unG e = u at *
        cases u <;> first | exact absurd rfl hu | exact hq
  | scope x ihx =>
    refine same _ rfl (fun l hl => by cases hl) rfl ?_
    intro ic hc st st' e a w Q hr hg hQ
    simp only [comp2] at hc
    unfold scopeO at hc
    split at hc
    · cases hc
    · rename_i s0 hs0
      obtain ⟨L0, Ls, f1, -, f3, f4⟩ := ihx.2 _ hs0
      exact scope_wp (ihx.1 ic hc st st' e a w _ hr hg fun a' w' hg' => noGoto f1 f3 f4 (by simp) hr (hQ a' w' hg'))
    · rename_i s0 l ls hs0
      split at hc
      · rename_i hck
        simp only [Option.some.injEq] at hc
        subst hc
        obtain ⟨L0, Ls, f1, f2, f3, f4⟩ := ihx.2 _ hs0
        simp only [Bool.and_eq_true, List.all_eq_true] at hck
        obtain ⟨⟨k1, k2⟩, k3⟩ := hck
        refine scope_wp (flat_wp (levels_sound (l :: ls) Ls s0 L0 f4 k1 (fun p hp i hi => by simpa using k2 p hp i hi) f1 (fun l _ hl => f3 l hl) ?_ st st' e a w hr hg fun a' w' hg' => ?_))
        · intro st st' e a w hrun hg hn he
          rw [f1, wpL_app]
          refine f2 st st' e a w _ hrun hg fun a' w' hg' => ?_
          by_cases hne : e = .normal
          · subst hne
            exact hn rfl a' w' hg'
          · have hu := unG_ne hne
            have hq := he hne a' w' hg'
            generalize unG e = u at *
            cases u <;> first | exact absurd rfl hu | exact hq
        · refine noGoto f1 f3 f4 (fun i hi l' hl' he => ?_) hr (hQ a' w' hg')
          have := k3 i hi
          simp only [Bool.not_eq_true', List.contains_eq_mem, decide_eq_false_iff_not, List.mem_map, not_exists, not_and] at this
          obtain ⟨p, hp, rfl⟩ := List.mem_map.1 hl'
          exact this p hp he.symm
      · simp only [Option.some.injEq] at hc
        subst hc
        exact absurd hr stuck_none
  | _ =>
    refine same _ rfl (fun l hl => by cases hl) rfl ?_
    intro ic hc st st' e a w Q hr
    simp only [comp2, Option.some.injEq] at hc
    subst hc
    exact absurd hr stuck_none
end
end Go.Proofs.YtklepphkbbjbjaaDoor
namespace Go.Proofs.YtklepphkbbjbjaaDoor
set_option linter.unusedVariables false
set_option linter.unusedSimpArgs false
open Go Go.RowKit
section
variable {P : Program} {h : Hint} {V : Vw} {w : World} {st : St} {a : Act}
def readRes (tmps : Array Value) : ResultVar → Sem Value
  | .tmp t => pure (tmps.getD t Go.undef)
  | .cell a t => do loadVar t (← asAddr (tmps.getD a Go.undef))
theorem readRes_sound (hi : Inv V st.loc st.sto w) (he : EnvRel V w st.env a.tmps) : ∀ (rs : List ResultVar) (irs : List IRes) (ds : List DVal), compRes P h rs = some irs → resVals st irs = some ds →
    ∃ vs, (rs.mapM (readRes a.tmps)).run P w = .ok vs w ∧ VRels V w 1 ds vs
  | [], irs, ds, hc, hr => by
    simp only [compRes, Option.some.injEq] at hc
    subst hc
    simp only [resVals, Option.some.injEq] at hr
    subst hr
    exact ⟨[], by simp, by simp only [VRels]⟩
  | .tmp t :: rs, irs, ds, hc, hr => by
    simp only [compRes, Option.map_eq_some_iff] at hc
    obtain ⟨irs', h1, rfl⟩ := hc
    simp only [resVals, IRes.val] at hr
    split at hr
    · rename_i v vs e1 e2
      simp only [Option.some.injEq] at e1
      subst e1
      split at hr
      · rename_i hok
        simp only [Option.some.injEq] at hr
        subst hr
        obtain ⟨us, g1, g2⟩ := readRes_sound hi he rs irs' vs h1 e2
        refine ⟨a.tmps.getD t Go.undef :: us, ?_, ?_⟩
        · simp [List.mapM_cons, readRes, g1]
        · simp only [VRels]
          exact ⟨_, _, rfl, okVal_up (he t) hok, g2⟩
      · cases hr
    · cases hr
  | .cell b t :: rs, irs, ds, hc, hr => by
    simp only [compRes] at hc
    split at hc
    · rename_i sz is hz h1
      split at hc
      · simp only [Option.some.injEq] at hc
        subst hc
        simp only [resVals, IRes.val] at hr
        split at hr
        · rename_i v vs e1 e2
          split at hr
          · rename_i hok
            simp only [Option.some.injEq] at hr
            subst hr
            obtain ⟨us, g1, g2⟩ := readRes_sound hi he rs is vs h1 e2
            have hb := he b
            generalize st.env b = x' at hb e1
            unfold readLoc at e1
            split at e1
            · rename_i r' ep off e
              simp only [List.cons.injEq, and_true] at e
              subst e
              split at e1
              · rename_i hcd
                obtain ⟨rfl, rfl⟩ := hcd
                split at e1
                · rename_i cs hcs
                  simp only [VRel] at hb
                  obtain ⟨-, h0, -, A, hv, hA⟩ := hb
                  have hA := hA (hi.ep r').symm
                  have hroot := (hi.root r' (by rw [hi.ep]; exact h0)).2
                  rw [hcs] at hroot
                  obtain ⟨u, hru, hrel⟩ := load_block (P := P) hz hroot e1
                  refine ⟨u :: us, ?_, ?_⟩
                  · simp only [Instr.loadAt, Instr.sureAddr, Sem.run_bind, Sem.run_pure, Result.andThen_ok] at hru
                    rw [Array.getD_eq_getD_getElem?] at hv
                    simp [List.mapM_cons, readRes, g1, hv, hA, asAddr, hru]
                  · simp only [VRels]
                    exact ⟨_, _, rfl, okVal_up hrel hok, g2⟩
                · cases e1
              · cases e1
            · cases e1
          · cases hr
        · cases hr
      · cases hc
    · cases hc
theorem results_sound {fn : Func} {F : IFunc} {d : DVal} (hi : Inv V st.loc st.sto w) (he : EnvRel V w st.env a.tmps) (hc : compRes P h fn.results.toList = some F.res) (hr : resVal st F.res = some d) :
    ∃ v, (results fn a.tmps).run P w = .ok v w ∧ VRel V w 1 d v := by
  unfold resVal at hr
  have hrun : (results fn a.tmps) = (fn.results.toList.mapM (readRes a.tmps)) >>= fun vs => pure (if h : vs.toArray.size = 1 then vs.toArray[0] else .tuple vs.toArray) := by
    have : (results fn a.tmps) = (List.toArray <$> (fn.results.toList.mapM (readRes a.tmps))) >>= fun vs => pure (if h : vs.size = 1 then vs[0] else .tuple vs) := by
      rw [← Array.mapM_eq_mapM_toList]
      rfl
    rw [this, map_eq_pure_bind, bind_assoc]
    simp only [pure_bind]
  split at hr
  · rename_i v e
    simp only [Option.some.injEq] at hr
    subst hr
    obtain ⟨vs, g1, g2⟩ := readRes_sound hi he _ _ _ hc e
    obtain ⟨u, rfl, g3⟩ := g2.one
    exact ⟨u, by rw [hrun, Sem.run_bind, g1]; simp, g3⟩
  · rename_i ds hne e
    simp only [Option.some.injEq] at hr
    subst hr
    obtain ⟨vs, g1, g2⟩ := readRes_sound hi he _ _ _ hc e
    refine ⟨.tuple vs.toArray, ?_, by simp only [VRel]; exact ⟨_, rfl, by simpa using g2⟩⟩
    have hl : vs.length ≠ 1 := by
      rw [g2.length]
      intro h1
      match ds, h1 with
      | [d], _ => exact hne d rfl
    rw [hrun, Sem.run_bind, g1]
    simp [hl]
  · cases hr
end
def Vw.leave (V : Vw) : Vw := { V with ep := fun _ => 0 }
theorem Inv.leave {V : Vw} {L : Nat → Nat × DVal} {σ : Sto} {w : World} (h : Inv V L σ w) : Inv V.leave noRoots σ w := by
  have hI : ExtI V w V.leave w := fun b n hn => ⟨hn, rfl⟩
  have hS : ExtS V w V.leave w := ⟨Nat.le_refl _, fun _ _ => rfl, Nat.le_refl _, fun _ _ => Nat.le_refl _, fun _ _ _ => ⟨rfl, fun c el h => ⟨c, h, rfl⟩⟩, fun _ c _ h => ⟨c, h, rfl⟩⟩
  exact ⟨h.hB, h.tag, fun _ => rfl, fun r hr => by simp [Vw.leave] at hr, h.nobj, fun id hid => ⟨(h.obj id hid).1, .quiet h hid hI hS (fun _ _ _ _ _ => ⟨rfl, rfl⟩) rfl⟩, h.ntok, h.fr, h.tag4, h.tok, h.hid, fun r hr => by simp [Vw.leave] at hr⟩
theorem VRel.leave {V : Vw} {w : World} {d : DVal} {v : Value} (h : VRel V w 1 d v) : VRel V.leave w 1 d v :=
  VRel.ext (V := V) (V' := V.leave) (w := w) (fun b n hn => ⟨hn, rfl⟩) _ _ _ (fun _ => ⟨Nat.le_refl _, fun _ _ => rfl, Nat.le_refl _, fun _ _ => Nat.le_refl _, fun _ _ _ => ⟨rfl, fun c el h => ⟨c, h, rfl⟩⟩, fun _ c _ h => ⟨c, h, rfl⟩⟩) (fun e => by omega) h
theorem Adv.leave {V V' : Vw} {w w' : World} (h : Adv V w V' w') (h0 : ∀ r, V.ep r = 0) : Adv V w V'.leave w' :=
  ⟨h.ei, ⟨h.er.nobj, h.er.phi, h.er.ntok, h.er.fr, h.er.tb, h.er.cell⟩, ⟨fun r => by rw [h0]; exact Nat.zero_le _, fun r hr => by rw [h0] at hr; omega⟩, h.B, h.zero, h.frame, h.size, h.os, h.tape, h.output, h.I0⟩
def Knows (P : Program) (f : FuncId) (F : IFunc) : Prop := ∃ fn h, P.funcs[f]? = some fn ∧ (fn.name == "runtime.NumGoroutine") = false ∧ h.rng = false ∧ compFunc P h fn = some F
theorem Knows.callable {P : Program} {f : FuncId} {F : IFunc} (hk : Knows P f F) : callable P f := by
  obtain ⟨fn, h, h1, h2, -, h3⟩ := hk
  refine ⟨fn, h1, h2, ?_⟩
  unfold compFunc at h3
  cases hb : fn.body with
  | none => rw [hb] at h3; simp at h3
  | some c => rfl
section
variable {P : Program} {Gl : List (Nat × Nat × Option Value)} {cp : Nat → List DVal → Option DVal} {ci : Nat → List DVal → Sto → Option (DVal × Sto)}
theorem fun_sound (hcp : ∀ f, PureOk P Gl f (cp f)) (hci : ∀ f, ImpOk P Gl f (ci f)) {n : Nat} {f : FuncId} {F : IFunc} (hk : Knows P f F) {V : Vw} {σ σ' : Sto} {w : World} {ds : List DVal} {vs : List Value} {r : DVal}
    (hi : Inv V noRoots σ w) (hG : HasG Gl V.imm w) (hv : VRels V w 0 ds vs) (hr : runFun cp ci n F ds σ = some (r, σ')) :
    Calls P f vs.toArray w fun e w' => ∃ v V', e = .returned v ∧ Adv V w V' w' ∧ Inv V' noRoots σ' w' ∧ VRel V' w' 1 r v := by
  obtain ⟨fn, h, h1, h2, hr0, h3⟩ := hk
  unfold compFunc at h3
  split at h3
  · rename_i c hbody
    split at h3
    · rename_i b rs hb hrs
      split at h3
      · rename_i hle
        simp only [Option.some.injEq] at h3
        subst h3
        unfold runFun at hr
        simp only at hr
        split at hr
        · rename_i hlen
          have hvl := hv.length
          have hsize : (vs.toArray ++ Array.replicate (fn.ntmps - vs.toArray.size) Go.undef).size = fn.ntmps := by simp; omega
          have hgood : Good V w fn.ntmps (enter ds σ) { tmps := vs.toArray ++ Array.replicate (fn.ntmps - vs.toArray.size) Go.undef, defers := [] } w := by
            refine ⟨V, .refl V w, hi, fun s => ?_, hsize, rfl⟩
            show VRel V w 0 (ds.getD s .undef) _
            rw [List.getD_eq_getElem?_getD, Array.getD_eq_getD_getElem?]
            cases hd : ds[s]? with
            | some d =>
              obtain ⟨v, hvs, hrel⟩ := hv.get hd
              have hlt : s < vs.length := (List.getElem?_eq_some_iff.1 hvs).1
              rw [Array.getElem?_append_left (by simpa using hlt)]
              simpa [hvs] using hrel
            | none =>
              have hge : vs.length ≤ s := by have := List.getElem?_eq_none_iff.1 hd; omega
              rw [Array.getElem?_append_right (by simpa using hge)]
              have : (Array.replicate (fn.ntmps - vs.toArray.size) Go.undef)[s - vs.toArray.size]?.getD Go.undef = Go.undef := by
                cases hq : (Array.replicate (fn.ntmps - vs.toArray.size) Go.undef)[s - vs.toArray.size]? with
                | none => rfl
                | some u => have := Array.getElem?_eq_some_iff.1 hq; obtain ⟨_, hu⟩ := this; simp at hu; simp [← hu]
              rw [this]
              simp [VRel]
          have hend : ∀ st, resVal st rs = some r → st.sto = σ' → ∀ a' w', Good V w fn.ntmps st a' w' →
              a'.defers = [] ∧ ∃ v, (results fn a'.tmps).run P w' = .ok v w' ∧ ∃ v' V', Ending.returned v = .returned v' ∧ Adv V w V' w' ∧ Inv V' noRoots σ' w' ∧ VRel V' w' 1 r v' := by
            intro st hres hsto a' w' hg
            obtain ⟨V1, g1, g2, g3, g4, g5⟩ := hg
            obtain ⟨v, hrun, hrel⟩ := results_sound (fn := fn) (F := ⟨fn.params.size + fn.nfree, rs, b⟩) g2 g3 hrs hres
            subst hsto
            exact ⟨g5, v, hrun, v, V1.leave, rfl, g1.leave (fun r => by rw [hi.ep]; rfl), g2.leave, hrel.leave⟩
          refine calls_of_wp h1 hbody ?_
          split at hr
          · rename_i st hst
            simp only [Option.map_eq_some_iff, Prod.mk.injEq] at hr
            obtain ⟨v, hv', rfl, rfl⟩ := hr
            exact (code_sound hcp hci hG hr0 c).1 b hb _ _ _ _ _ _ hst hgood fun a' w' hg => hend st hv' rfl a' w' hg
          · rename_i st hst
            simp only [Option.map_eq_some_iff, Prod.mk.injEq] at hr
            obtain ⟨v, hv', rfl, rfl⟩ := hr
            exact (code_sound hcp hci hG hr0 c).1 b hb _ _ _ _ _ _ hst hgood fun a' w' hg => hend st hv' rfl a' w' hg
          · cases hr
        · cases hr
      · cases h3
    · cases h3
  · cases h3
theorem VI_inv {I : Nat → Nat → Prop} {w : World} : Inv (VI I w.heap.size) noRoots emptySto w :=
  ⟨Nat.le_refl _, fun b hb => by simp [VI] at hb, fun _ => rfl, fun r hr => by simp [VI] at hr, rfl, fun id hid => by simp [VI] at hid, rfl, rfl, fun b hb => by simp [VI] at hb, fun g hg => by simp [VI] at hg, fun q m c hq => by simp [VI] at hq, fun r hr => by simp [VI] at hr⟩
theorem hand_sound {I : Nat → Nat → Prop} {w w' : World} {V' : Vw} {σ' : Sto} {d r : DVal} {v : Value} (ha : Adv (VI I w.heap.size) w V' w') (hi : Inv V' noRoots σ' w') (hv : VRel V' w' 1 d v) (hr : d.handBack σ' = some r) :
    Below w.heap.size w w' ∧ HRel I w w' r v := by
  have hB : V'.B = w.heap.size := ha.B
  have hI0 : V'.I0 = I := ha.I0
  refine ⟨⟨ha.os, ha.tape, ha.output, ha.size, fun b hb => ha.frame b hb rfl⟩, ?_⟩
  have himm : ∀ b n, V'.imm b n → newI I w w' none 0 b n := by
    intro b n hn
    have hlt := hi.imm_lt hn
    rcases hn with ⟨h1, h2⟩ | ⟨h1, -⟩
    · rw [hI0] at h2; exact .inl h2
    · exact .inr ⟨by omega, hlt, fun e => by simp at e⟩
  have hmap : ∀ {d : DVal} {v : Value}, VRel V' w' 2 d v → VRel (VI (newI I w w' none 0) w'.heap.size) w' 2 d v := fun h =>
    VRel.ext (V := V') (w := w') (fun b n hn => ⟨VI_imm.2 ⟨hi.imm_lt hn, himm b n hn⟩, rfl⟩) _ _ _ (fun e => by omega) (fun e => by omega) h
  have hseal : ∀ {d r : DVal} {v : Value}, VRel V' w' 0 d v → d.sealVal = some r → HRel I w w' r v := by
    intro d r v h0 hs
    have h2 := hmap (sealVal_rel h0 hs)
    unfold HRel
    split
    · rename_i sz es
      exfalso
      simp only [VRel] at h2
      rcases h2.1 with hh | ⟨-, hh⟩ <;> omega
    · exact h2
  have hO : ∀ b n, (V'.tag b).1 = 3 → (VI (newI I w w' none 0) w'.heap.size).imm b n := fun b n hn => by
    have := hi.tag b (by rw [hn]; simp)
    exact VI_imm.2 ⟨this.2, .inr ⟨by omega, this.2, fun e => by simp at e⟩⟩
  have hI2 : ∀ b n, V'.imm b n → (VI (newI I w w' none 0) w'.heap.size).imm b n := fun b n hn => VI_imm.2 ⟨hi.imm_lt hn, himm b n hn⟩
  have notTwo : ∀ {r : DVal} {v : Value}, VRel (VI (newI I w w' none 0) w'.heap.size) w' 2 r v → HRel I w w' r v := by
    intro r v h2
    unfold HRel
    split
    · rename_i sz es
      exfalso
      simp only [VRel] at h2
      rcases h2.1 with hh | ⟨-, hh⟩ <;> omega
    · exact h2
  unfold DVal.handBack at hr
  split at hr
  · rename_i own sz es
    simp only [Option.some.injEq] at hr
    subst hr
    simp only [VRel] at hv
    obtain ⟨-, b, off, cap, rfl, h1, h2, h3⟩ := hv
    have plain : ∀ q, q ≤ 1 → (q = 1 → own = 1) → HRel I w w' (.slice false q sz es) (.slice (some ⟨b, off, none⟩) es.length cap) := by
      intro q hq hq1
      have : VRel V' w' 2 (.slice false q sz es) (.slice (some ⟨b, off, none⟩) es.length cap) := by
        simp only [VRel]
        exact ⟨.inr ⟨trivial, hq⟩, b, off, cap, rfl, h1, ⟨by omega, fun e => h2.2.1 (hq1 e), fun e => by omega⟩, h3⟩
      unfold HRel
      split
      · rename_i sz' es' e
        simp only [DVal.slice.injEq] at e
        omega
      · exact hmap this
    split
    · rename_i e
      exact plain 1 (by omega) (fun _ => e)
    · split
      · rename_i e1 e2
        obtain ⟨e2, e3⟩ := e2
        obtain ⟨k1, k2, k3⟩ := h2.2.2 e2
        have hfr : es.length * sz = V'.fr (own - 3) := by rw [hi.fr]; exact e3.symm
        obtain ⟨k4, rfl, c, el, k5, k6⟩ := k3 hfr
        have htag := (hi.tok (own - 3) k1).1
        rw [k4] at htag
        have hBb := (hi.tag b (by rw [htag]; simp)).1
        unfold HRel
        simp only
        refine ⟨b, cap, c, el, rfl, by omega, k5, k6, h1, ?_⟩
        refine RowsRel.ext (V := V') (w := w') (fun b' n hn => ⟨VI_imm.2 ⟨hi.imm_lt hn, ?_⟩, rfl⟩) _ _ _ _ _ (fun e => by omega) (fun e => by omega) h3
        have hlt := hi.imm_lt hn
        rcases hn with ⟨m1, m2⟩ | ⟨m1, m2⟩
        · rw [hI0] at m2; exact .inl m2
        · refine .inr ⟨by omega, hlt, fun e => ?_⟩
          simp only [Option.some.injEq] at e
          subst e
          rw [htag] at m2
          simp only at m2
          rcases m2 with m2 | ⟨-, m2⟩
          · omega
          · omega
      · exact plain 0 (by omega) (fun e => by omega)
  · rename_i vs
    simp only [Option.map_eq_some_iff] at hr
    obtain ⟨es, hs, rfl⟩ := hr
    simp only [VRel] at hv
    obtain ⟨us, rfl, hus⟩ := hv
    unfold HRel
    simp only [VRel]
    refine ⟨us, rfl, ?_⟩
    rcases Option.or_eq_some_iff.1 hs with hs | ⟨-, hs⟩
    · have := sealVals_rel hus.open' hs
      exact VRels.ext (V := V') (w := w') (fun b n hn => ⟨hI2 b n hn, rfl⟩) _ _ _ (fun e => by omega) (fun e => by omega) this
    · exact snapVals_rel hi hI2 hO hus.open' hs
  · rcases Option.or_eq_some_iff.1 hr with hs | ⟨-, hs⟩
    · exact hseal hv.open' hs
    · exact notTwo (snapVal_rel hi hI2 hO hv.open' hs)
end
end Go.Proofs.YtklepphkbbjbjaaDoor
namespace Go.Proofs.YtklepphkbbjbjaaDoor
set_option linter.unusedVariables false
set_option linter.unusedSimpArgs false
open Go Go.RowKit
def Sto.setO (σ : Sto) (o : Nat → Nat) : Sto := { σ with ora := o }
def St.setO (st : St) (o : Nat → Nat) : St := { st with sto := st.sto.setO o }
def setO2 (o : Nat → Nat) (x : DVal × Sto) : DVal × Sto := (x.1, x.2.setO o)
def OraOk (ci : Nat → List DVal → Sto → Option (DVal × Sto)) : Prop := ∀ f xs σ o, ci f xs (σ.setO o) = (ci f xs σ).map (setO2 o)
def splice (k : Nat) (o o2 : Nat → Nat) : Nat → Nat := fun i => if i < k then o i else o2 (i - k)
def dropO (k : Nat) (o : Nat → Nat) : Nat → Nat := fun i => o (i + k)
theorem splice_zero (o o2 : Nat → Nat) : splice 0 o o2 = o2 := by funext i; simp [splice]
theorem splice_add (k m : Nat) (o o2 : Nat → Nat) : splice (k + m) o o2 = splice k o (splice m (dropO k o) o2) := by
  funext i
  simp only [splice, dropO]
  by_cases h1 : i < k
  · rw [if_pos (by omega), if_pos h1]
  · rw [if_neg h1]
    by_cases h2 : i - k < m
    · rw [if_pos (by omega), if_pos h2, Nat.sub_add_cancel (by omega)]
    · rw [if_neg (by omega), if_neg h2, Nat.sub_add_eq]
theorem dropO_add (k m : Nat) (o : Nat → Nat) : dropO m (dropO k o) = dropO (k + m) o := by
  funext i; simp only [dropO]; congr 1; omega
theorem setO_setO (st : St) (o p : Nat → Nat) : (st.setO o).setO p = st.setO p := rfl
theorem setO_self (st : St) : st.setO st.sto.ora = st := rfl
theorem setO_ora (st : St) (o : Nat → Nat) : (st.setO o).sto.ora = o := rfl
section
variable {P : Program} {Gl : List (Nat × Nat × Option Value)} {h : Hint} {cp : Nat → List DVal → Option DVal} {ci : Nat → List DVal → Sto → Option (DVal × Sto)} {V0 : Vw} {w0 : World} {nt : Nat}
theorem snapCell_ora (σ : Sto) (o : Nat → Nat) (v : DVal) : v.snapCell (σ.setO o) = v.snapCell σ := by cases v <;> rfl
theorem snapCells_ora (σ : Sto) (o : Nat → Nat) : ∀ vs : List DVal, snapCells (σ.setO o) vs = snapCells σ vs
  | [] => rfl
  | v :: vs => by simp only [snapCells, snapCell_ora, snapCells_ora σ o vs]
theorem snapVal_ora (σ : Sto) (o : Nat → Nat) (v : DVal) : v.snapVal (σ.setO o) = v.snapVal σ := by
  cases v <;> simp only [DVal.snapVal, snapCell_ora, snapCells_ora]
theorem snapVals_ora (σ : Sto) (o : Nat → Nat) : ∀ vs : List DVal, snapVals (σ.setO o) vs = snapVals σ vs
  | [] => rfl
  | v :: vs => by simp only [snapVals, snapVal_ora, snapVals_ora σ o vs]
theorem elemsM_ora (σ : Sto) (o : Nat → Nat) (v : DVal) : elemsM (σ.setO o) v = elemsM σ v := by cases v <;> rfl
theorem tightOf_ora (σ : Sto) (o : Nat → Nat) (sz : Nat) (v : DVal) : tightOf (σ.setO o) sz v = tightOf σ sz v := by cases v <;> rfl
theorem import_ora (σ : Sto) (o : Nat → Nat) (v : DVal) : importVal (σ.setO o) v = setO2 o (importVal σ v) := by
  unfold importVal; split <;> rfl
theorem appSem_ora (σ : Sto) (o : Nat → Nat) (pt : Bool) (sz : Nat) (s x : DVal) : appSem pt sz (σ.setO o) s x = (appSem pt sz σ s x).map (setO2 o) := by
  unfold appSem
  rw [elemsM_ora]
  generalize elemsM σ x = E
  cases σ
  simp only [Sto.setO]
  repeat' split
  all_goals try simp only [*, and_self, and_true, true_and, not_true_eq_false, not_false_eq_true, if_true, if_false, Bool.false_eq_true, Option.map_none]
  all_goals repeat' split
  all_goals first
    | rfl
    | (simp only [Option.map_map]; rfl)
    | (simp_all [setO2, Sto.setO]; done)
theorem appM_ora (σ : Sto) (o : Nat → Nat) (sz : Nat) (xs : List DVal) : appMSem sz (σ.setO o) xs = (appMSem sz σ xs).map (setO2 o) := by
  unfold appMSem
  split
  · rename_i s x
    rw [elemsM_ora, tightOf_ora]
    generalize elemsM σ x = E
    generalize tightOf σ sz s = T
    cases σ
    simp only [Sto.setO]
    repeat' split
    all_goals try simp only [*, and_self, and_true, true_and, not_true_eq_false, not_false_eq_true, if_true, if_false, Bool.false_eq_true, Option.map_none]
    all_goals repeat' split
    all_goals first
      | rfl
      | (simp only [Option.map_map]; rfl)
      | (simp_all [setO2, Sto.setO]; done)
  · rfl
theorem SOp.ora (hci : OraOk ci) {so : SOp} (hd : ∀ b, (IOp.s b so).det = true) (σ : Sto) (o : Nat → Nat) (xs : List DVal) : so.sem cp ci (σ.setO o) xs = (so.sem cp ci σ xs).map (setO2 o) := by
  cases so with
  | app pt sz =>
    simp only [SOp.sem, app2Sem]
    split
    · exact appSem_ora ..
    · rfl
  | callF f =>
    simp only [SOp.sem]
    cases sealVals xs with
    | none => rfl
    | some ys =>
      simp only [Option.bind_some, Option.map_map]
      congr 1
      funext v
      exact import_ora σ o v
  | callI f =>
    simp only [SOp.sem]
    split
    · exact hci ..
    · rfl
  | callV =>
    simp only [SOp.sem, callVSem]
    split
    · split
      · exact hci ..
      · rfl
    · rfl
  | callS f =>
    simp only [SOp.sem, callSSem, snapVals_ora]
    cases snapVals σ xs with
    | none => rfl
    | some ys =>
      simp only [Option.bind_some]
      cases cp f ys with
      | none => rfl
      | some r =>
        simp only [Option.bind_some]
        unfold snapRes
        split
        · split
          · simp only [import_ora, Option.map_some]
          · rfl
        · split <;> rfl
  | appM sz => exact appM_ora σ o sz xs
  | appX sz =>
    simp only [SOp.sem]
    unfold appXSem
    split
    · cases σ
      simp only [Sto.setO]
      repeat' split
      all_goals try simp only [*, and_self, and_true, true_and, not_true_eq_false, not_false_eq_true, if_true, if_false, Bool.false_eq_true, Option.map_none]
      all_goals repeat' split
      all_goals first
        | rfl
        | (simp only [Option.map_map]; rfl)
        | (simp_all [setO2, Sto.setO]; done)
    · exact appM_ora σ o sz xs
  | nextM => have := hd true; simp [IOp.det] at this
  | _ =>
    cases σ
    simp only [SOp.sem, ldOSem, stOSem, boxOSem, allocOSem, makeSem, mkmapSem, lookSem, mupdSem, mdelSem, lenMSem, rngMSem, entMSem, Sto.setO]
    repeat' split
    all_goals try simp only [*, and_self, and_true, true_and, not_true_eq_false, not_false_eq_true, if_true, if_false, Bool.false_eq_true, Option.map_none]
    all_goals repeat' split
    all_goals first
      | rfl
      | (simp only [Option.map_map]; rfl)
      | (simp_all [setO2, Sto.setO]; done)
theorem exec_det (hci : OraOk ci) {dst : Option Nat} {iop : IOp} (hd : iop.det = true) (xs : List Opd) (st : St) (o : Nat → Nat) : execOp' cp ci dst iop xs (st.setO o) = (execOp' cp ci dst iop xs st).map (·.setO o) := by
  cases iop with
  | p po =>
    simp only [execOp', Option.map_map]
    congr 1
    funext v
    cases dst <;> rfl
  | lr r sz =>
    simp only [execOp', Option.map_map]
    congr 1
    funext v
    cases dst <;> rfl
  | lw r lo =>
    simp only [execOp', Option.map_map]
    congr 1
    funext v
    cases dst <;> rfl
  | s b so =>
    have hd' : ∀ b', (IOp.s b' so).det = true := fun b' => by cases so <;> first | rfl | simp [IOp.det] at hd
    show (so.sem cp ci (st.sto.setO o) (xs.map (Opd.val st.env))).map _ = _
    rw [SOp.ora hci hd']
    simp only [execOp', Option.map_map]
    congr 1
    funext v
    cases dst <;> rfl
theorem stepOp_det (hci : OraOk ci) {io : IOper} (hd : io.op.det = true) (st : St) (o : Nat → Nat) : stepOp cp ci io (st.setO o) = (stepOp cp ci io st).map (·.setO o) := by
  unfold stepOp
  split
  · exact exec_det hci hd _ st o
  · show (if (st.env _).isB _ then _ else _) = _
    split
    · exact exec_det hci hd _ st o
    · cases io.dst <;> rfl
def PreS (f : St → Option St) : Prop := ∀ st s, f st = some s → ∃ k, s.sto.ora = dropO k st.sto.ora ∧ ∀ o2, f (st.setO (splice k st.sto.ora o2)) = some (s.setO o2)
def PreC (f : St → Option (Exit × St)) : Prop := ∀ st e s, f st = some (e, s) → ∃ k, s.sto.ora = dropO k st.sto.ora ∧ ∀ o2, f (st.setO (splice k st.sto.ora o2)) = some (e, s.setO o2)
theorem PreS.det {f : St → Option St} (h : ∀ st o, f (st.setO o) = (f st).map (·.setO o)) : PreS f := by
  intro st s hs
  refine ⟨0, ?_, fun o2 => ?_⟩
  · have := h st st.sto.ora
    rw [setO_self, hs] at this
    simp only [Option.map_some, Option.some.injEq] at this
    rw [this]; rfl
  · rw [splice_zero, h, hs]; rfl
theorem next_pre (σ σ' : Sto) (xs : List DVal) (d : DVal) (hs : nextMSem σ xs = some (d, σ')) : ∃ k, σ'.ora = dropO k σ.ora ∧ ∀ o2, nextMSem (σ.setO (splice k σ.ora o2)) xs = some (d, σ'.setO o2) := by
  unfold nextMSem at hs
  split at hs
  · rename_i id
    split at hs
    · rename_i hlt
      have hlt' : ∀ o, id < (σ.setO o).nobj := fun _ => hlt
      split at hs
      · rename_i hc
        simp only [Option.some.injEq, Prod.mk.injEq] at hs
        obtain ⟨rfl, rfl⟩ := hs
        refine ⟨0, rfl, fun o2 => ?_⟩
        have hc' : ∀ o, (σ.setO o).obj id = .nilm := fun _ => hc
        rw [splice_zero]
        unfold nextMSem
        simp only [hlt', hc', if_true]
        rfl
      · rename_i m cur rest all hc
        have hc' : ∀ o, (σ.setO o).obj id = .func m [cur, .tup rest, .tup all] := fun _ => hc
        split at hs
        · simp only [Option.some.injEq, Prod.mk.injEq] at hs
          obtain ⟨rfl, rfl⟩ := hs
          refine ⟨0, rfl, fun o2 => ?_⟩
          rw [splice_zero]
          unfold nextMSem
          simp only [hlt', hc', if_true]
          rfl
        · rename_i hne
          split at hs
          · rename_i k v hg
            simp only [Option.some.injEq, Prod.mk.injEq] at hs
            obtain ⟨rfl, rfl⟩ := hs
            refine ⟨1, rfl, fun o2 => ?_⟩
            have h0 : (σ.setO (splice 1 σ.ora o2)).ora 0 = σ.ora 0 := rfl
            unfold nextMSem
            cases rest with
            | nil => exact (hne rfl).elim
            | cons r rs =>
              simp only [hlt', hc', if_true, h0, hg]
              rfl
          · cases hs
      · cases hs
    · cases hs
  · cases hs
theorem stepOp_pre (hci : OraOk ci) (io : IOper) : PreS (stepOp cp ci io) := by
  by_cases hd : io.op.det = true
  · exact .det (stepOp_det hci hd)
  · intro st s hs
    have key : ∀ s, execOp' cp ci io.dst io.op io.xs st = some s → ∃ k, s.sto.ora = dropO k st.sto.ora ∧ ∀ o2, execOp' cp ci io.dst io.op io.xs (st.setO (splice k st.sto.ora o2)) = some (s.setO o2) := by
      intro s hs
      obtain ⟨dst, iop, xs, g⟩ := io
      cases iop with
      | s b so =>
        cases so <;> first | exact absurd rfl hd | skip
        simp only [execOp', SOp.sem, Option.map_eq_some_iff] at hs ⊢
        obtain ⟨⟨d, σ'⟩, h1, rfl⟩ := hs
        obtain ⟨k, h2, h3⟩ := next_pre _ _ _ _ h1
        refine ⟨k, by cases dst <;> exact h2, fun o2 => ⟨(d, σ'.setO o2), h3 o2, by cases dst <;> rfl⟩⟩
      | _ => exact absurd rfl hd
    obtain ⟨dst, iop, xs, gd⟩ := io
    cases gd with
    | none => exact key s hs
    | some p =>
      obtain ⟨g, b⟩ := p
      have hs : (if (st.env g).isB b then execOp' cp ci dst iop xs st else some (st.put dst .undef)) = some s := hs
      by_cases hb : (st.env g).isB b = true
      · rw [if_pos hb] at hs
        obtain ⟨k, h1, h2⟩ := key s hs
        refine ⟨k, h1, fun o2 => ?_⟩
        show (if (st.env g).isB b then execOp' cp ci dst iop xs _ else _) = _
        rw [if_pos hb]
        exact h2 o2
      · rw [if_neg hb] at hs
        simp only [Option.some.injEq] at hs
        subst hs
        refine ⟨0, by cases dst <;> rfl, fun o2 => ?_⟩
        rw [splice_zero]
        show (if (st.env g).isB b then execOp' cp ci dst iop xs _ else _) = _
        rw [if_neg hb]
        cases dst <;> rfl
theorem PreS.comp {f g : St → Option St} (hf : PreS f) (hg : PreS g) : PreS fun st => (f st).bind g := by
  intro st s hs
  simp only [Option.bind_eq_some_iff] at hs
  obtain ⟨s1, h1, h2⟩ := hs
  obtain ⟨k, a1, a2⟩ := hf st s1 h1
  obtain ⟨m, b1, b2⟩ := hg s1 s h2
  refine ⟨k + m, by rw [b1, a1, dropO_add], fun o2 => ?_⟩
  show (f _).bind g = _
  rw [splice_add, ← a1, a2, Option.bind_some]
  exact b2 o2
theorem runOps_pre (hci : OraOk ci) : ∀ ios : List IOper, PreS (runOps cp ci ios)
  | [] => fun st s hs => by
    simp only [runOps, Option.some.injEq] at hs
    subst hs
    exact ⟨0, rfl, fun o2 => by rw [splice_zero]; rfl⟩
  | io :: ios => (stepOp_pre hci io).comp (runOps_pre hci ios)
theorem iter_pre {f : St → Option (Exit × St)} (hf : PreC f) : ∀ n, PreC (iter f n)
  | 0 => fun st e s hs => by simp [iter] at hs
  | n + 1 => fun st e s hs => by
    simp only [iter] at hs
    split at hs
    · rename_i s1 h1
      obtain ⟨k, a1, a2⟩ := hf st _ s1 h1
      obtain ⟨m, b1, b2⟩ := iter_pre hf n s1 e s hs
      refine ⟨k + m, by rw [b1, a1, dropO_add], fun o2 => ?_⟩
      simp only [iter]
      rw [splice_add, ← a1, a2]
      exact b2 o2
    · rename_i hn
      obtain ⟨k, a1, a2⟩ := hf st e s hs
      refine ⟨k, a1, fun o2 => ?_⟩
      simp only [iter]
      rw [a2]
      have : e ≠ .normal := fun he => hn s (by rw [← he]; exact hs)
      cases e <;> first | exact absurd rfl this | rfl
theorem runCode_pre (hci : OraOk ci) {n : Nat} : ∀ ic : ICode, PreC (runCode cp ci n ic)
  | .skip => fun st e s hs => by
    simp only [runCode, Option.some.injEq, Prod.mk.injEq] at hs
    obtain ⟨rfl, rfl⟩ := hs
    exact ⟨0, rfl, fun o2 => by rw [splice_zero]; rfl⟩
  | .ret => fun st e s hs => by
    simp only [runCode, Option.some.injEq, Prod.mk.injEq] at hs
    obtain ⟨rfl, rfl⟩ := hs
    exact ⟨0, rfl, fun o2 => by rw [splice_zero]; rfl⟩
  | .exit id => fun st e s hs => by
    simp only [runCode, Option.some.injEq, Prod.mk.injEq] at hs
    obtain ⟨rfl, rfl⟩ := hs
    exact ⟨0, rfl, fun o2 => by rw [splice_zero]; rfl⟩
  | .reg ops => fun st e s hs => by
    simp only [runCode, Option.map_eq_some_iff, Prod.mk.injEq] at hs
    obtain ⟨s1, h1, rfl, rfl⟩ := hs
    obtain ⟨k, a1, a2⟩ := runOps_pre hci ops st s1 h1
    exact ⟨k, a1, fun o2 => by simp only [runCode, a2, Option.map_some]⟩
  | .seq a b => fun st e s hs => by
    simp only [runCode] at hs
    split at hs
    · rename_i s1 h1
      obtain ⟨k, a1, a2⟩ := runCode_pre hci a st _ s1 h1
      obtain ⟨m, b1, b2⟩ := runCode_pre hci b s1 e s hs
      refine ⟨k + m, by rw [b1, a1, dropO_add], fun o2 => ?_⟩
      simp only [runCode]
      rw [splice_add, ← a1, a2]
      exact b2 o2
    · rename_i hn
      obtain ⟨k, a1, a2⟩ := runCode_pre hci a st e s hs
      refine ⟨k, a1, fun o2 => ?_⟩
      simp only [runCode]
      rw [a2]
      have : e ≠ .normal := fun he => hn s (by rw [← he]; exact hs)
      cases e <;> first | exact absurd rfl this | rfl
  | .cond c a b => fun st e s hs => by
    simp only [runCode] at hs ⊢
    have hv : ∀ o, c.val (st.setO o).env = c.val st.env := fun _ => rfl
    simp only [hv]
    split at hs
    · rename_i hc
      exact runCode_pre hci a st e s hs
    · rename_i hc
      exact runCode_pre hci b st e s hs
    · cases hs
  | .block id a => fun st e s hs => by
    simp only [runCode] at hs
    split at hs
    · rename_i i s1 h1
      obtain ⟨k, a1, a2⟩ := runCode_pre hci a st _ s1 h1
      split at hs
      · rename_i hi
        simp only [Option.some.injEq, Prod.mk.injEq] at hs
        obtain ⟨rfl, rfl⟩ := hs
        exact ⟨k, a1, fun o2 => by simp only [runCode]; rw [a2]; simp only [hi, if_true]⟩
      · rename_i hi
        simp only [Option.some.injEq, Prod.mk.injEq] at hs
        obtain ⟨rfl, rfl⟩ := hs
        exact ⟨k, a1, fun o2 => by simp only [runCode]; rw [a2]; simp only [hi, if_false]⟩
    · rename_i hn
      obtain ⟨k, a1, a2⟩ := runCode_pre hci a st e s hs
      refine ⟨k, a1, fun o2 => ?_⟩
      simp only [runCode]
      rw [a2]
      cases e with
      | exit i => exact absurd hs (hn i s)
      | _ => rfl
  | .loop a => fun st e s hs => by
    simp only [runCode] at hs ⊢
    exact iter_pre (runCode_pre hci a) n st e s hs
theorem filter_erase {e : MapEntry} : ∀ {l : List MapEntry} {i : Nat}, (l.map (·.born)).Nodup → l[i]? = some e → l.filter (fun x => x.born != e.born) = l.eraseIdx i
  | [], i, _, h => by simp at h
  | y :: l, 0, hn, h => by
    simp only [List.getElem?_cons_zero, Option.some.injEq] at h
    subst h
    simp only [List.map_cons, List.nodup_cons] at hn
    simp only [List.eraseIdx_cons_zero]
    rw [List.filter_cons_of_neg (by simp)]
    refine List.filter_eq_self.2 fun x hx => ?_
    have : x.born ≠ y.born := fun hh => hn.1 (by rw [← hh]; exact List.mem_map.2 ⟨x, hx, rfl⟩)
    simpa using this
  | y :: l, i + 1, hn, h => by
    simp only [List.getElem?_cons_succ] at h
    simp only [List.map_cons, List.nodup_cons] at hn
    have hne : y.born ≠ e.born := fun hh => hn.1 (by rw [hh]; exact List.mem_map.2 ⟨e, List.mem_of_getElem? h, rfl⟩)
    rw [List.filter_cons_of_pos (by simpa using hne), filter_erase hn.2 h]
    rfl
theorem leftOf_push {ms : Array MapEntry} {seen : Array Nat} {e : MapEntry} {i : Nat} (hn : (ms.toList.map (·.born)).Nodup) (h : (leftOf ms seen).toList[i]? = some e) : (leftOf ms (seen.push e.born)).toList = (leftOf ms seen).toList.eraseIdx i := by
  have h1 : (leftOf ms (seen.push e.born)).toList = (leftOf ms seen).toList.filter (fun x => x.born != e.born) := by
    simp only [leftOf, Array.toList_filter, List.filter_filter]
    congr 1
    funext x
    simp only [Array.contains_push, Bool.not_or]
    rw [Bool.and_comm]
    rfl
  rw [h1]
  refine filter_erase ?_ h
  simp only [leftOf, Array.toList_filter]
  exact ((List.filter_sublist).map _).nodup hn
theorem nextM_sound {V : Vw} {w : World} {L : Nat → Nat × DVal} {σ : Sto} {env : Nat → DVal} {a : Act} {o : Oper} (hi : Inv V L σ w) (he : EnvRel V w env a.tmps) {x : Operand} {q : Opd} (ho : o.op = .next x false) (hq : opd x = some q) {y : DVal × Sto} (hs : nextMSem σ [q.val env] = some y) :
    OpWp P o a w fun v w' => ∃ j d σ', nextMSem (σ.setO j) [q.val env] = some (d, σ') ∧ Res V w L σ' d v w' := by
  have h1 := opd_rel (a := a) he hq
  generalize q.val env = x' at h1 hs
  have hs0 := hs
  unfold nextMSem at hs
  split at hs
  · rename_i id e'
    simp only [List.cons.injEq, and_true] at e'
    subst e'
    simp only [VRel] at h1
    obtain ⟨-, h0, hv⟩ := h1
    have hobj := (hi.obj id h0).2
    split at hs
    · rename_i hlt
      split at hs
      · rename_i hc
        rw [hc] at hobj
        obtain ⟨s, seen, c, hheap⟩ := hobj
        have hrun : (Instr.next (.pointer (some ⟨V.phi id, 0, none⟩)) false o.type).run P w = .ok (.tuple #[.bool false]) w := by
          simp only [Instr.next, getObj, Sem.run_bind, Sem.run, hheap, Result.andThen]
          rfl
        simp only [Option.some.injEq] at hs
        subst hs
        refine OpWp.value (v := .tuple #[.bool false]) (w' := w) (by simp [execOp, ho, hv, hrun]) ⟨σ.ora, _, _, hs0, V, .refl V w, hi.kill id (by rw [hc]; simp), ?_⟩
        simp only [VRel]
        exact ⟨_, rfl, _, _, rfl, rfl, by simp only [VRels]⟩
      · rename_i m cur rest all hc
        have hm := hi.hid id m _ h0 hc
        have htag := (hi.obj id h0).1 (by rw [hc]; simp)
        have hmid : m ≠ id := fun e => by rw [e, hc] at hm; cases hm
        have hobj0 := hobj
        rw [hc] at hobj
        unfold ObjRel at hobj
        simp only at hobj
        obtain ⟨g0, g1, ms, clock, since, seen, c0, rest', all', g3, g4, g5, g6, g7, g8, g9, g10, g11, g12, g13⟩ := hobj
        have hlen : (leftOf ms seen).size = rest.length := by
          have := g12.length
          rw [← g11.length_eq] at this
          simpa using this
        have hmt : V.phi m ≠ V.phi id := fun e => by rw [e, htag] at g1; simp at g1; exact hmid g1.symm
        rcases run_next_at (P := P) w o.type (V.phi id) (V.phi m) since c0 seen ms clock g4 g3 g6 g7 with ⟨k1, k2⟩ | ⟨e, k1, w1, k2, k3⟩
        · -- nothing is left
          have hr : rest = [] := List.eq_nil_of_length_eq_zero (by omega)
          subst hr
          simp only [Option.some.injEq] at hs
          subst hs
          refine OpWp.value (v := .tuple #[.bool false]) (w' := w) (by simp [execOp, ho, hv, k2]) ⟨σ.ora, _, _, hs0, V, .refl V w, hi.wake h0 hc, ?_⟩
          simp only [VRel]
          exact ⟨_, rfl, _, _, rfl, rfl, by simp only [VRels]⟩
        · -- an entry comes
          obtain ⟨i, hil⟩ := List.mem_iff_getElem?.1 k1
          have hib : i < rest'.length := by
            have := (List.getElem?_eq_some_iff.1 hil).1
            rw [g12.length] at this
            exact this
          obtain ⟨k, v, m2, e1, e2, e3, e4, e5⟩ := g12.get (List.getElem?_eq_getElem hib)
          rw [hil] at e2
          simp only [Option.some.injEq] at e2
          subst e2
          have hi2 : rest'[i]? = some (.tup [k, v]) := by rw [List.getElem?_eq_getElem hib, e1]
          obtain ⟨j, hj⟩ := List.mem_iff_getElem?.1 (g11.symm.subset (List.mem_of_getElem? hi2))
          have hjb := (List.getElem?_eq_some_iff.1 hj).1
          have hjm : j % rest.length = j := Nat.mod_eq_of_lt hjb
          have hnext : nextMSem (σ.setO fun _ => j) [.obj id 0] = some (.tup [.bool true, k, v], { σ with obj := upd σ.obj id (.func m [.tup [k, v], .tup (rest.eraseIdx j), .tup all]), ora := fun _ => j }) := by
            have hc' : (σ.setO fun _ => j).obj id = .func m [cur, .tup rest, .tup all] := hc
            have hlt' : id < (σ.setO fun _ => j).nobj := hlt
            have hora : (σ.setO fun _ => j).ora 0 = j := rfl
            unfold nextMSem
            cases rest with
            | nil => simp at hjb
            | cons r rs =>
              simp only [hlt', hc', if_true, hora, hjm, hj]
              rfl
          have hw1 : w1.heap = w.heap ∧ w1.os = w.os ∧ w1.tape = w.tape ∧ w1.output = w.output := by
            rcases k2 with rfl | rfl
            · exact ⟨rfl, rfl, rfl, rfl⟩
            · exact ⟨rfl, rfl, rfl, rfl⟩
          obtain ⟨ha1, hi1⟩ := hi.drew hw1.1 hw1.2.1 hw1.2.2.1 hw1.2.2.2
          have hup : Upd1 w1 (ChangeMaps.setBlock w1 (V.phi id) (.mapIter (some (V.phi m)) since (seen.push e.born) clock)) (V.phi id) := Upd1.setMap _
          have g4' : w1.heap[V.phi id]? = some (.mapIter (some (V.phi m)) since seen c0) := by rw [hw1.1]; exact g4
          have hsame : SameSz w1 (ChangeMaps.setBlock w1 (V.phi id) (.mapIter (some (V.phi m)) since (seen.push e.born) clock)) (V.phi id) := SameSz.noCells g4' (by intro c el f hh; cases hh)
          have ha2 := hi1.atBlock (.inr (by rw [htag])) hup hsame
          have hb := hobj0.lt
          have hfin := ha1.trans ha2
          have hor : ObjRel V (ChangeMaps.setBlock w1 (V.phi id) (.mapIter (some (V.phi m)) since (seen.push e.born) clock)) (.func m [.tup [k, v], .tup (rest.eraseIdx j), .tup all]) (V.phi id) := by
            unfold ObjRel
            simp only
            refine ⟨g0, g1, ms, clock, since, seen.push e.born, clock, rest'.eraseIdx i, all', ?_, ?_, g5, g6, g8, g8, g9, g10.ext hfin.ei hfin.er, perm_erase g11 hj hi2, ?_, .inr ⟨e, seen, k, v, rfl, (mem_left k1).1, rfl, rfl, e3, VRel.ext hfin.ei _ _ _ (fun e => by omega) (fun e => by omega) e4, VRel.ext hfin.ei _ _ _ (fun _ => hfin.er) (fun e => by omega) e5⟩⟩
            · rw [hup.other _ hmt, hw1.1]; exact g3
            · simp [ChangeMaps.setBlock, hw1.1, hb]
            · rw [leftOf_push g5.2.1 hil]
              exact (g12.ext hfin.ei hfin.er).erase
          obtain ⟨ha3, hi3⟩ := hi1.setObj h0 (by rw [hc]; simp) hup hsame (d := .func m [.tup [k, v], .tup (rest.eraseIdx j), .tup all]) hor (fun m' c hh => by simp only [DVal.func.injEq] at hh; rw [← hh.1]; exact hm)
          refine OpWp.value (v := .tuple #[.bool true, e.key, e.val]) (w' := ChangeMaps.setBlock w1 (V.phi id) (.mapIter (some (V.phi m)) since (seen.push e.born) clock)) (by simp [execOp, ho, hv, k3]) ⟨_, _, _, hnext, V, ha1.trans ha3, ?_, ?_⟩
          · exact { hi3 with }
          · have hk1 := VRel.ext hfin.ei _ _ _ (fun e => by omega) (fun e => by omega) e4
            have hk2 := VRel.ext hfin.ei _ _ _ (fun _ => hfin.er) (fun e => by omega) e5
            simp only [VRel]
            exact ⟨_, rfl, _, _, rfl, rfl, _, _, rfl, hk1.open', _, _, rfl, hk2.open', by simp only [VRels]⟩
      · cases hs
    · cases hs
  · cases hs
theorem compBin_det {op : BinOp} {t : TypeId} {x y : Operand} {iop : IOp} {xs : List Opd} (hc : compBin P op t x y = some (iop, xs)) : ∃ po, iop = .p po := by
  have ht : ∀ {f : POp}, two x y (.p f) = some (iop, xs) → ∃ po, iop = .p po := fun h => by
    obtain ⟨_, _, _, _, h, _⟩ := two_inv h
    exact ⟨_, h⟩
  unfold compBin at hc
  repeat' split at hc
  all_goals first
    | exact ht hc
    | (cases hc; done)
    | (obtain ⟨_, _, h⟩ := Option.bind_eq_some_iff.1 hc; exact ht h)
    | (obtain ⟨_, _, h, _⟩ := one_inv hc; exact ⟨_, h⟩)
theorem compOp_det {dst : Option Nat} {op : Go.Op} {iop : IOp} {xs : List Opd} (hc : compOp P h dst op = some (iop, xs)) (hn : ∀ x, op ≠ .next x false) : iop.det = true := by
  by_cases hd : iop.det = true
  · exact hd
  · exfalso
    have hcl : ∃ b, iop = .s b .nextM := by
      cases iop with
      | s b so => cases so <;> first | exact ⟨b, rfl⟩ | exact absurd rfl hd
      | _ => exact absurd rfl hd
    obtain ⟨b, rfl⟩ := hcl
    clear hd
    unfold compOp at hc
    simp only [one, two] at hc
    repeat' split at hc
    all_goals first
      | exact absurd rfl (hn _)
      | (simp at hc; done)
      | (obtain ⟨po, hpo⟩ := compBin_det hc; cases hpo)
theorem step_soundR (hcp : ∀ f, PureOk P Gl f (cp f)) (hci : ∀ f, ImpOk P Gl f (ci f)) (hor : OraOk ci) (hG : HasG Gl V0.imm w0) {ops : Array Oper} {Q : Exit → Act → World → Prop} {o : Oper} {io : IOper} {st : St} {a : Act} {w : World} {K : Act → World → Prop} {i : Nat}
    (hgd : io.op.det = true ∨ io.guard = none) (ho : ops[i]? = some o) (hc : compOper P h nt ops.toList o = some io) (hs : ∀ q, ∃ s, stepOp cp ci io (st.setO q) = some s) (hg : Good V0 w0 nt st a w)
    (hK : ∀ q s a' w', stepOp cp ci io (st.setO q) = some s → Good V0 w0 nt s a' w' → K a' w') : wpOp P ops Q i K a w := by
  by_cases hd : io.op.det = true
  · obtain ⟨s, h1⟩ := hs st.sto.ora
    exact step_sound hcp hci hG (.inr hd) ho hc h1 hg fun a' w' hg' => hK _ _ _ _ h1 hg'
  · have hgn := hgd.resolve_left hd
    obtain ⟨V, hadv, hi, he, hn, hf⟩ := hg
    unfold compOper at hc
    split at hc
    · rename_i g h2
      split at hc
      · rename_i hslot
        simp only [Option.some.injEq] at hc
        subst hc
        simp only at hd hgn
        subst hgn
        -- it is the choice of an entry
        have hnx : ∃ x q, o.op = .next x false ∧ opd x = some q ∧ compOpS P h o.dst o.op = (.s true .nextM, [q]) := by
          unfold compOpS at hd ⊢
          cases hcp' : compOp P h o.dst o.op with
          | none => rw [hcp'] at hd; exact absurd rfl hd
          | some x =>
            rw [hcp'] at hd
            simp only at hd
            obtain ⟨iop, xs⟩ := x
            cases hop : o.op with
            | next it isS =>
              cases isS with
              | true =>
                exfalso
                rw [hop] at hcp'
                simp only [compOp] at hcp'
                split at hcp'
                · obtain ⟨q, hq, rfl, rfl⟩ := one_inv hcp'
                  exact hd rfl
                · cases hcp'
              | false =>
                rw [hop] at hcp'
                simp only [compOp] at hcp'
                split at hcp'
                · obtain ⟨q, hq, rfl, rfl⟩ := one_inv hcp'
                  exact ⟨it, q, rfl, hq, rfl⟩
                · cases hcp'
            | _ =>
              exfalso
              apply hd
              exact compOp_det hcp' (fun x hx => by rw [hop] at hx; cases hx)
        obtain ⟨x, q, hox, hq, hcs⟩ := hnx
        have hstep : ∀ s, stepOp cp ci { dst := o.dst, op := (compOpS P h o.dst o.op).1, xs := (compOpS P h o.dst o.op).2, guard := none } s = (nextMSem s.sto [q.val s.env]).map fun y => { s with sto := y.2 }.put o.dst y.1 := by
          intro s
          rw [hcs]
          rfl
        obtain ⟨s0, h1⟩ := hs st.sto.ora
        rw [hstep] at h1
        simp only [Option.map_eq_some_iff] at h1
        obtain ⟨y, h1, -⟩ := h1
        unfold wpOp
        simp only [ho]
        have hw : Region.wanted o (yielded ops a.tmps) = true := by rw [wanted_iff he h2]; rfl
        rw [if_pos hw]
        refine .inl (nextM_sound hi he hox hq h1 K Q ?_)
        rintro v w' ⟨j, d, σ', k1, V', ha', hi', hv'⟩
        refine hK j ({ st with sto := σ' }.put o.dst d) _ _ ?_ (put_good (st := { st with sto := σ' }) hslot (hadv.trans ha') hi' (he.adv ha') hn hf hv')
        rw [hstep]
        show (nextMSem (st.sto.setO j) [q.val st.env]).map _ = _
        rw [k1]
        rfl
      · cases hc
    · cases hc
theorem ops_soundR (hcp : ∀ f, PureOk P Gl f (cp f)) (hci : ∀ f, ImpOk P Gl f (ci f)) (hor : OraOk ci) (hG : HasG Gl V0.imm w0) {ops : Array Oper} {Q : Exit → Act → World → Prop} {ios : List IOper} (hgd : ∀ io ∈ ios, io.op.det = true ∨ io.guard = none) (hc : compOpers P h nt ops.toList ops.toList = some ios) :
    ∀ (l : List Nat) (st : St) (a : Act) (w : World), (∀ q, ∃ s, runIdx cp ci ios l (st.setO q) = some s) → Good V0 w0 nt st a w → (∀ q s a' w', runIdx cp ci ios l (st.setO q) = some s → Good V0 w0 nt s a' w' → Q .normal a' w') → wpOps P ops Q l a w
  | [], st, a, w, hr, hg, hQ => hQ st.sto.ora st a w rfl hg
  | i :: l, st, a, w, hr, hg, hQ => by
    rw [wpOps_cons]
    cases hio : ios[i]? with
    | none =>
      obtain ⟨s, h1⟩ := hr st.sto.ora
      simp [runIdx, hio] at h1
    | some io =>
      simp only [runIdx, hio] at hr hQ
      obtain ⟨o, ho, hco⟩ := (compOpers_get hc).2 i io hio
      refine step_soundR hcp hci hor hG (hgd io (List.mem_of_getElem? hio)) (by rw [← ho, Array.getElem?_toList]) hco (fun q => ?_) hg fun q s a' w' h1 hg' => ?_
      · obtain ⟨s, h1⟩ := hr q
        simp only [Option.bind_eq_some_iff] at h1
        obtain ⟨s1, h1, -⟩ := h1
        exact ⟨s1, h1⟩
      · obtain ⟨k, a1, a2⟩ := stepOp_pre hor io _ _ h1
        simp only [setO_ora, setO_setO] at a1 a2
        refine ops_soundR hcp hci hor hG hgd hc l s a' w' (fun q2 => ?_) hg' fun q2 s2 a2' w2' h2 hg2 => ?_
        · obtain ⟨s2, h2⟩ := hr (splice k q q2)
          rw [a2, Option.bind_some] at h2
          exact ⟨s2, h2⟩
        · refine hQ (splice k q q2) s2 a2' w2' ?_ hg2
          rw [a2, Option.bind_some]
          exact h2
def RSound (P : Program) (V0 : Vw) (w0 : World) (nt : Nat) (f : St → Option (Exit × St)) (c : Code) : Prop :=
  ∀ (st : St) (a : Act) (w : World) (Q : Exit → Act → World → Prop), (∀ q, ∃ y, f (st.setO q) = some y) → Good V0 w0 nt st a w → (∀ q e s a' w', f (st.setO q) = some (e, s) → Good V0 w0 nt s a' w' → Q (unG e) a' w') → c.wp P Q a w
def choiceOk : ICode → Code → Bool
  | .reg ios, .region _ _ draw => ios.all fun io => io.op.det || (io.guard.isNone && !draw)
  | .seq x y, .seq a b => choiceOk x a && choiceOk y b
  | .cond _ x y, .cond _ a b => choiceOk x a && choiceOk y b
  | .block _ x, .block _ a => choiceOk x a
  | .loop x, .loop a => choiceOk x a
  | .skip, .skip => true
  | .ret, .ret => true
  | .exit _, .exit _ => true
  | _, _ => false
theorem code_soundR (hcp : ∀ f, PureOk P Gl f (cp f)) (hci : ∀ f, ImpOk P Gl f (ci f)) (hor : OraOk ci) (hG : HasG Gl V0.imm w0) {n : Nat} : ∀ (c : Code) (ic : ICode), (comp2 P h nt c).1 = some ic → choiceOk ic c = true → RSound P V0 w0 nt (runCode cp ci n ic) c := by
  intro c
  induction c with
  | skip =>
    intro ic hc _ st a w Q hr hg hQ
    simp only [comp2, Option.some.injEq] at hc
    subst hc
    exact wp_skip (hQ st.sto.ora _ _ _ _ rfl hg)
  | ret =>
    intro ic hc _ st a w Q hr hg hQ
    simp only [comp2, Option.some.injEq] at hc
    subst hc
    exact wp_ret (hQ st.sto.ora _ _ _ _ rfl hg)
  | exit id =>
    intro ic hc _ st a w Q hr hg hQ
    simp only [comp2] at hc
    split at hc
    · rename_i hid
      simp only [Option.some.injEq] at hc
      subst hc
      have := hQ st.sto.ora _ _ _ _ rfl hg
      simp only [unG] at this
      rw [if_pos (by simpa using hid)] at this
      exact wp_exit this
    · simp only [Option.some.injEq] at hc
      subst hc
      obtain ⟨y, hy⟩ := hr st.sto.ora
      exact absurd hy stuck_none
  | region id ops draw =>
    intro ic hc hch st a w Q hr hg hQ
    simp only [comp2, Option.bind_eq_some_iff] at hc
    obtain ⟨ios, h1, hc⟩ := hc
    split at hc
    · rename_i hd
      simp only [Option.some.injEq] at hc
      subst hc
      have hlen : ios.length = ops.size := by have := (compOpers_get h1).1; simpa using this
      have hrun : ∀ q, ∃ s, runOps cp ci ios (st.setO q) = some s := fun q => by
        obtain ⟨y, hy⟩ := hr q
        simp only [runCode, Option.map_eq_some_iff] at hy
        obtain ⟨s, hs, -⟩ := hy
        exact ⟨s, hs⟩
      have hidx : ∀ s, runOps cp ci ios s = runIdx cp ci ios (List.range ops.size) s := fun s => by
        rw [List.range_eq_range', ← hlen, ← runOps_idx ios _ 0 s (by omega)]
        rfl
      simp only [choiceOk, List.all_eq_true, Bool.or_eq_true, Bool.and_eq_true, Bool.not_eq_true'] at hch
      cases draw with
      | false =>
        refine wp_region (ops_soundR hcp hci hor hG (fun io hio => ?_) h1 _ st a w (fun q => ?_) hg fun q s a' w' hs hg' => ?_)
        · rcases hch io hio with h | ⟨h, -⟩
          · exact .inl h
          · exact .inr (by simpa using h)
        · rw [← hidx]; exact hrun q
        · rw [← hidx] at hs
          exact hQ q .normal s a' w' (by simp only [runCode, hs, Option.map_some]) hg'
      | true =>
        simp only [Bool.not_true, Bool.false_or, drawOk, Bool.and_eq_true] at hd
        obtain ⟨⟨d1, d2⟩, d3⟩ := hd
        have hdet : ∀ io ∈ ios, h.rng = false ∨ io.op.det = true := fun io hio => by
          rcases hch io hio with h | ⟨-, h⟩
          · exact .inr h
          · cases h
        obtain ⟨s, hs⟩ := hrun st.sto.ora
        refine wp_region_draw fun t => ?_
        simp only [Region.schedule, d1, Bool.true_or, if_true]
        refine ops_sound hcp hci hG hdet h1 _ st s a _ (linearise_sound hlen d3 d2 t hs) ?_ fun a' w' hg' => hQ st.sto.ora .normal s a' w' (by simp only [setO_self, runCode]; rw [setO_self] at hs; rw [hs]; rfl) hg'
        obtain ⟨V, g1, g2, g3, g4⟩ := hg
        obtain ⟨hadv, hinv⟩ := g2.drew (w' := { w with drawn := w.drawn + 1 }) rfl rfl rfl rfl
        exact ⟨V, g1.trans hadv, hinv, g3.adv hadv, g4⟩
    · simp only [Option.some.injEq] at hc
      subst hc
      obtain ⟨y, hy⟩ := hr st.sto.ora
      exact absurd hy stuck_none
  | seq x y ihx ihy =>
    intro ic hc hch st a w Q hr hg hQ
    simp only [comp2] at hc
    unfold seqO at hc
    split at hc
    · rename_i ix iy hx hy
      simp only [Option.some.injEq] at hc
      subst hc
      simp only [choiceOk, Bool.and_eq_true] at hch
      refine wp_seq (ihx ix hx hch.1 st a w _ (fun q => ?_) hg fun q e s a' w' h1 hg' => ?_)
      · obtain ⟨⟨e, s⟩, h1⟩ := hr q
        simp only [runCode] at h1
        split at h1
        · rename_i s1 h2; exact ⟨_, h2⟩
        · exact ⟨_, h1⟩
      · by_cases he : e = .normal
        · subst he
          obtain ⟨k, a1, a2⟩ := runCode_pre hor ix _ _ _ h1
          simp only [setO_ora, setO_setO] at a1 a2
          refine ihy iy hy hch.2 s a' w' Q (fun q2 => ?_) hg' fun q2 e2 s2 a2' w2' h2 hg2 => ?_
          · obtain ⟨y2, h2⟩ := hr (splice k q q2)
            simp only [runCode] at h2
            rw [a2] at h2
            exact ⟨y2, h2⟩
          · refine hQ (splice k q q2) e2 s2 a2' w2' ?_ hg2
            simp only [runCode]
            rw [a2]
            exact h2
        · have hq := hQ q e s a' w' (by
            simp only [runCode]
            rw [h1]
            cases e <;> first | exact absurd rfl he | rfl) hg'
          have hu := unG_ne he
          generalize unG e = u at *
          cases u <;> first | exact absurd rfl hu | exact hq
    · cases hc
  | cond c x y ihx ihy =>
    intro ic hc hch st a w Q hr hg hQ
    simp only [comp2] at hc
    split at hc
    · rename_i d ix iy hd hx hy
      simp only [Option.some.injEq] at hc
      subst hc
      simp only [choiceOk, Bool.and_eq_true] at hch
      have hv : VRel _ w 0 (d.val st.env) (a.eval c) := opd_rel (a := a) (Classical.choose_spec hg).2.2.1 hd
      have hval : ∀ q, d.val (st.setO q).env = d.val st.env := fun _ => rfl
      simp only [runCode, hval] at hr hQ
      obtain ⟨y0, h0⟩ := hr st.sto.ora
      split at h0
      · rename_i hb
        rw [hb] at hv
        simp only [VRel] at hv
        simp only [hb] at hr hQ
        exact wp_cond_true hv (ihx ix hx hch.1 st a w Q hr hg hQ)
      · rename_i hb
        rw [hb] at hv
        simp only [VRel] at hv
        simp only [hb] at hr hQ
        exact wp_cond_false hv (ihy iy hy hch.2 st a w Q hr hg hQ)
      · cases h0
    · cases hc
  | block id x ihx =>
    intro ic hc hch st a w Q hr hg hQ
    simp only [comp2] at hc
    split at hc
    · rename_i hlt
      have hlt' : id < 1000000 := by simpa using hlt
      simp only [Option.map_eq_some_iff] at hc
      obtain ⟨ix, hx, rfl⟩ := hc
      simp only [choiceOk] at hch
      refine wp_block (ihx ix hx hch st a w _ (fun q => ?_) hg fun q e s a' w' h1 hg' => ?_)
      · obtain ⟨y, h1⟩ := hr q
        simp only [runCode] at h1
        cases h2 : runCode cp ci n ix (st.setO q) with
        | none => rw [h2] at h1; simp at h1
        | some y2 => exact ⟨y2, rfl⟩
      · cases e with
        | exit i =>
          by_cases hid : i = id
          · subst hid
            have := hQ q .normal s a' w' (by simp only [runCode]; rw [h1]; simp) hg'
            simp only [unG]
            rw [if_pos hlt']
            simp only [Exit.inBlock, if_true]
            exact this
          · have hq := hQ q (.exit i) s a' w' (by simp only [runCode]; rw [h1]; simp [hid]) hg'
            simp only [unG] at hq ⊢
            split
            · rename_i hi
              rw [if_pos hi] at hq
              simp only [Exit.inBlock, hid, if_false]
              exact hq
            · rename_i hi
              rw [if_neg hi] at hq
              exact hq
        | _ => exact hQ q _ s a' w' (by simp only [runCode]; rw [h1]) hg'
    · simp only [Option.some.injEq] at hc
      subst hc
      obtain ⟨y, hy⟩ := hr st.sto.ora
      exact absurd hy stuck_none
  | loop x ihx =>
    intro ic hc hch st a w Q hr hg hQ
    simp only [comp2, Option.map_eq_some_iff] at hc
    obtain ⟨ix, hx, rfl⟩ := hc
    simp only [choiceOk] at hch
    simp only [runCode] at hr hQ
    -- m rounds at most are left, and what comes of them is a run of the whole
    let p : Act → World → Nat → Prop := fun a w m => ∃ s, Good V0 w0 nt s a w ∧ ∀ q, ∃ e t q0, iter (runCode cp ci n ix) m (s.setO q) = some (e, t) ∧ iter (runCode cp ci n ix) n (st.setO q0) = some (e, t)
    refine wp_loop (fun a w => ∃ m, p a w m) (rounds p) ⟨n, st, hg, fun q => ?_⟩ ?_
    · obtain ⟨⟨e, t⟩, h1⟩ := hr q
      exact ⟨e, t, q, h1, h1⟩
    rintro a w ⟨m, hm⟩
    obtain ⟨⟨s, hgs, hit⟩, hmin⟩ := rounds_spec hm
    cases hk : rounds p a w with
    | zero =>
      rw [hk] at hit
      obtain ⟨e, t, q0, h1, -⟩ := hit s.sto.ora
      simp [iter] at h1
    | succ k =>
      rw [hk] at hit
      refine ihx ix hx hch s a w _ (fun q => ?_) hgs fun q e s1 a' w' h1 hg' => ?_
      · obtain ⟨e, t, q0, h1, -⟩ := hit q
        simp only [iter] at h1
        cases h2 : runCode cp ci n ix (s.setO q) with
        | none => rw [h2] at h1; simp at h1
        | some y => exact ⟨y, rfl⟩
      · by_cases he : e = .normal
        · subst he
          obtain ⟨j, a1, a2⟩ := runCode_pre hor ix _ _ _ h1
          simp only [setO_ora, setO_setO] at a1 a2
          have hp' : p a' w' k := ⟨s1, hg', fun q2 => by
            obtain ⟨e, t, q0, h2, h3⟩ := hit (splice j q q2)
            simp only [iter] at h2
            rw [a2] at h2
            exact ⟨e, t, q0, h2, h3⟩⟩
          refine ⟨⟨k, hp'⟩, ?_⟩
          have := (rounds_spec hp').2 k hp'
          omega
        · obtain ⟨e2, t, q0, h2, h3⟩ := hit q
          simp only [iter] at h2
          rw [h1] at h2
          have h4 : e = e2 ∧ s1 = t := by
            cases e <;> first | exact absurd rfl he | (simp only [Option.some.injEq, Prod.mk.injEq] at h2; exact h2)
          obtain ⟨rfl, rfl⟩ := h4
          have hq := hQ q0 e s1 a' w' h3 hg'
          have hu := unG_ne he
          generalize unG e = u at *
          cases u <;> first | exact absurd rfl hu | exact hq
  | _ =>
    intro ic hc hch
    exfalso
    cases ic <;> simp [choiceOk] at hch
theorem fun_soundR (hcp : ∀ f, PureOk P Gl f (cp f)) (hci : ∀ f, ImpOk P Gl f (ci f)) (hor : OraOk ci) {n : Nat} {f : FuncId} {F : IFunc} {fn : Func} (h1 : P.funcs[f]? = some fn) (h2 : (fn.name == "runtime.NumGoroutine") = false) (h3 : compFunc P h fn = some F) {c : Code} (hbody : fn.body = some c) (hch : choiceOk F.body c = true)
    {V : Vw} {σ : Sto} {w : World} {ds : List DVal} {vs : List Value} (hi : Inv V noRoots σ w) (hG : HasG Gl V.imm w) (hv : VRels V w 0 ds vs) (hr : ∀ o, ∃ y, runFun cp ci n F ds (σ.setO o) = some y) :
    Calls P f vs.toArray w fun e w' => ∃ o r σ' v V', runFun cp ci n F ds (σ.setO o) = some (r, σ') ∧ e = .returned v ∧ Adv V w V' w' ∧ Inv V' noRoots σ' w' ∧ VRel V' w' 1 r v := by
  unfold compFunc at h3
  rw [hbody] at h3
  simp only at h3
  split at h3
  · rename_i b rs hb hrs
    split at h3
    · rename_i hle
      simp only [Option.some.injEq] at h3
      subst h3
      have hlen : ds.length = fn.params.size + fn.nfree := by
        obtain ⟨y, hy⟩ := hr σ.ora
        unfold runFun at hy
        simp only at hy
        split at hy
        · assumption
        · cases hy
      have hvl := hv.length
      have hsize : (vs.toArray ++ Array.replicate (fn.ntmps - vs.toArray.size) Go.undef).size = fn.ntmps := by simp; omega
      have hgood : Good V w fn.ntmps (enter ds σ) { tmps := vs.toArray ++ Array.replicate (fn.ntmps - vs.toArray.size) Go.undef, defers := [] } w := by
        refine ⟨V, .refl V w, hi, fun s => ?_, hsize, rfl⟩
        show VRel V w 0 (ds.getD s .undef) _
        rw [List.getD_eq_getElem?_getD, Array.getD_eq_getD_getElem?]
        cases hd : ds[s]? with
        | some d =>
          obtain ⟨v, hvs, hrel⟩ := hv.get hd
          have hlt : s < vs.length := (List.getElem?_eq_some_iff.1 hvs).1
          rw [Array.getElem?_append_left (by simpa using hlt)]
          simpa [hvs] using hrel
        | none =>
          have hge : vs.length ≤ s := by have := List.getElem?_eq_none_iff.1 hd; omega
          rw [Array.getElem?_append_right (by simpa using hge)]
          have : (Array.replicate (fn.ntmps - vs.toArray.size) Go.undef)[s - vs.toArray.size]?.getD Go.undef = Go.undef := by
            cases hq : (Array.replicate (fn.ntmps - vs.toArray.size) Go.undef)[s - vs.toArray.size]? with
            | none => rfl
            | some u => have := Array.getElem?_eq_some_iff.1 hq; obtain ⟨_, hu⟩ := this; simp at hu; simp [← hu]
          rw [this]
          simp [VRel]
      have hfun : ∀ o y, runFun cp ci n ⟨fn.params.size + fn.nfree, rs, b⟩ ds (σ.setO o) = some y → ∃ e st v, runCode cp ci n b ((enter ds σ).setO o) = some (e, st) ∧ (e = .ret ∨ e = .normal) ∧ resVal st rs = some v ∧ y = (v, st.sto) := by
        intro o y hy
        unfold runFun at hy
        simp only [hlen, if_true] at hy
        split at hy
        · rename_i st hst
          simp only [Option.map_eq_some_iff] at hy
          obtain ⟨v, h4, rfl⟩ := hy
          exact ⟨_, st, v, hst, .inl rfl, h4, rfl⟩
        · rename_i st hst
          simp only [Option.map_eq_some_iff] at hy
          obtain ⟨v, h4, rfl⟩ := hy
          exact ⟨_, st, v, hst, .inr rfl, h4, rfl⟩
        · cases hy
      refine calls_of_wp h1 hbody ?_
      refine code_soundR (n := n) hcp hci hor hG c b hb hch (enter ds σ) _ w _ (fun q => ?_) hgood fun q e st a' w' hst hg => ?_
      · obtain ⟨y, hy⟩ := hr q
        obtain ⟨e, st, v, h4, -⟩ := hfun q y hy
        exact ⟨_, h4⟩
      · obtain ⟨y, hy⟩ := hr q
        obtain ⟨e2, st2, v, h4, h5, h6, rfl⟩ := hfun q y hy
        rw [hst] at h4
        simp only [Option.some.injEq, Prod.mk.injEq] at h4
        obtain ⟨rfl, rfl⟩ := h4
        have hend : a'.defers = [] ∧ ∃ v', (results fn a'.tmps).run P w' = .ok v' w' ∧ ∃ o r σ' v V', runFun cp ci n ⟨fn.params.size + fn.nfree, rs, b⟩ ds (σ.setO o) = some (r, σ') ∧ Ending.returned v' = .returned v ∧ Adv V w V' w' ∧ Inv V' noRoots σ' w' ∧ VRel V' w' 1 r v := by
          obtain ⟨V1, g1, g2, g3, g4, g5⟩ := hg
          obtain ⟨v', hrun, hrel⟩ := results_sound (fn := fn) (F := ⟨fn.params.size + fn.nfree, rs, b⟩) g2 g3 hrs h6
          exact ⟨g5, v', hrun, q, v, st.sto, v', V1.leave, hy, rfl, g1.leave (fun r => by rw [hi.ep]; rfl), g2.leave, hrel.leave⟩
        rcases h5 with rfl | rfl
        · exact hend
        · exact hend
    · cases h3
  · cases h3
end
end Go.Proofs.YtklepphkbbjbjaaDoor
namespace Go.Proofs.YtklepphkbbjbjaaDoor
set_option linter.unusedVariables false
open Go
inductive Ex where
  | v (i : Nat)
  | k (d : DVal)
instance : Inhabited Ex := ⟨.k .undef⟩
def Ex.val (ρ : List DVal) : Ex → DVal
  | .v i => ρ.getD i .undef
  | .k d => d
def Ex.ok (n : Nat) : Ex → Bool
  | .v i => Nat.blt i n
  | .k _ => true
inductive JOp where
  | p (o : POp)
  | box
  | wr (off n : Nat)
  | rng
  | nx (second : Bool)
def jboxSem : List DVal → Option DVal
  | [x] => if x.cells.all DVal.okCell then some (.agg x.cells) else none
  | _ => none
def jwrSem (off n : Nat) : List DVal → Option DVal
  | [.agg cs, v] => if v.cells.length = n ∧ v.cells.all DVal.okCell then (writeCells cs off v.cells).map .agg else none
  | _ => none
def jrngSem : List DVal → Option DVal
  | [.str s] => some (.tup [.str s, goI 0])
  | _ => none
def jnxSem (second : Bool) : List DVal → Option DVal
  | [.tup [.str s, .int .i64 pos]] =>
    if pos < s.length then
      some (if second then .tup [.str s, goI (pos.toNat + (Utf8.decode ⟨s.toArray⟩ pos.toNat).2)] else .tup [.bool true, .int .i64 pos, .int .i32 (Utf8.decode ⟨s.toArray⟩ pos.toNat).1])
    else some (if second then .tup [.str s, .int .i64 pos] else .tup [.bool false])
  | _ => none
def JOp.sem (call : Nat → List DVal → Option DVal) (xs : List DVal) : JOp → Option DVal
  | .p o => o.sem call xs
  | .box => jboxSem xs
  | .wr off n => jwrSem off n xs
  | .rng => jrngSem xs
  | .nx b => jnxSem b xs
abbrev Gd := Option (Nat × Bool)
inductive T where
  | ret (xs : List Ex)
  | p (o : JOp) (xs : List Ex) (g : Gd) (k : T)
  | s (o : SOp) (xs : List Ex) (g : Gd) (k : T)
  | ite (c : Ex) (a b : T)
  | loop (l : Nat) (init : List Ex) (body : T)
  | join (l m : Nat) (body k : T)
  | next (l : Nat) (xs : List Ex)
inductive Out where
  | done (v : DVal) (σ : Sto)
  | next (l : Nat) (vs : List DVal) (σ : Sto)
def resEx : List DVal → Option DVal
  | [v] => if v.okVal then some v else none
  | vs => if vs.all DVal.okVal then some (.tup vs) else none
def iterJ (l : Nat) (f : List DVal → Sto → Option Out) : Nat → List DVal → Sto → Option Out
  | 0, _, _ => none
  | m + 1, vs, σ => match f vs σ with
    | some (.next i vs' σ') => if i = l then iterJ l f m vs' σ' else some (.next i vs' σ')
    | r => r
def joinJ (l : Nat) (k : List DVal → Sto → Option Out) : Option Out → Option Out
  | some (.next i vs' σ') => if i = l then k vs' σ' else some (.next i vs' σ')
  | r => r
def gB (ρ : List DVal) : Gd → Bool
  | none => true
  | some (i, b) => (ρ.getD i .undef).isB b
def guarded (ρ : List DVal) (g : Gd) (x : Option DVal) : Option DVal :=
  match g with
  | none => x
  | some (i, b) => if (ρ.getD i .undef).isB b then x else some .undef
def guardedS (ρ : List DVal) (σ : Sto) (g : Gd) (x : Option (DVal × Sto)) : Option (DVal × Sto) :=
  match g with
  | none => x
  | some (i, b) => if (ρ.getD i .undef).isB b then x else some (.undef, σ)
def iteJ (c : DVal) (a b : Option Out) : Option Out :=
  match c with
  | .bool true => a
  | .bool false => b
  | _ => none
def bndP (x : Option DVal) (k : DVal → Option Out) : Option Out :=
  match x with
  | some v => k v
  | none => none
def bndS (x : Option (DVal × Sto)) (k : DVal → Sto → Option Out) : Option Out :=
  match x with
  | some (v, σ) => k v σ
  | none => none
def retJ (x : Option DVal) (σ : Sto) : Option Out :=
  match x with
  | some v => some (.done v σ)
  | none => none
def padFrom (vs : List DVal) : Nat → Nat → List DVal
  | _, 0 => []
  | i, m + 1 => vs.getD i .undef :: padFrom vs (i + 1) m
section
variable (cp : Nat → List DVal → Option DVal) (ci : Nat → List DVal → Sto → Option (DVal × Sto)) (n : Nat)
def den : T → List DVal → Sto → Option Out
  | .ret xs, ρ, σ => retJ (resEx (xs.map (Ex.val ρ))) σ
  | .p o xs g k, ρ, σ => bndP (guarded ρ g (o.sem cp (xs.map (Ex.val ρ)))) fun v => den k (ρ ++ [v]) σ
  | .s o xs g k, ρ, σ => bndS (guardedS ρ σ g (o.sem cp ci σ (xs.map (Ex.val ρ)))) fun v σ' => den k (ρ ++ [v]) σ'
  | .ite c a b, ρ, σ => iteJ (c.val ρ) (den a ρ σ) (den b ρ σ)
  | .loop l init body, ρ, σ => iterJ l (fun vs σ => den body (ρ ++ padFrom vs 0 init.length) σ) n (init.map (Ex.val ρ)) σ
  | .join l m body k, ρ, σ => joinJ l (fun vs σ => den k (ρ ++ padFrom vs 0 m) σ) (den body ρ σ)
  | .next l xs, ρ, σ => some (.next l (xs.map (Ex.val ρ)) σ)
end
def SOp.isNext : SOp → Bool
  | .nextM => true
  | _ => false
def T.det : T → Bool
  | .ret _ => true
  | .p _ _ _ k => k.det
  | .s o _ _ k => !o.isNext && k.det
  | .ite _ a b => a.det && b.det
  | .loop _ _ b => b.det
  | .join _ _ b k => b.det && k.det
  | .next _ _ => true
def T.esc (l : Nat) : T → Bool
  | .ret _ => true
  | .p _ _ _ k | .s _ _ _ k => k.esc l
  | .ite _ a b => a.esc l && b.esc l
  | .loop i _ body => i == l || body.esc l
  | .join i _ body k => (i == l || body.esc l) && k.esc l
  | .next i _ => i != l
inductive SV where
  | ex (e : Ex)
  | ptr (r off : Nat) (g : Gd)
structure SS where
  env : List (Nat × SV)
  loc : List (Nat × (Ex × Gd))
  nv : Nat
  dep : Nat
def SS.slot (s : SS) (t : Nat) : Option SV := s.env.lookup t
def SS.put (s : SS) (d : Option Nat) (v : SV) : SS :=
  match d with
  | some t => { s with env := (t, v) :: s.env.filter fun p => p.1 != t }
  | none => s
def SS.setLoc (s : SS) (r : Nat) (e : Ex) (g : Gd) : SS := { s with loc := (r, (e, g)) :: s.loc.filter fun p => p.1 != r }
def SV.notTo (r : Nat) : SV → Bool
  | .ex _ => true
  | .ptr q _ _ => q != r
def SS.drop (s : SS) (r : Nat) : SS := { s with env := s.env.filter fun p => p.2.notTo r }
def SS.more (s : SS) (k : Nat) : SS := { s with nv := s.nv + k }
def SS.ex (s : SS) : Opd → Option Ex
  | .t n => match s.slot n with
    | some (.ex e) => some e
    | _ => none
  | .c v => some (.k v)
def SS.exs (s : SS) : List Opd → Option (List Ex)
  | [] => some []
  | x :: xs => match s.ex x, s.exs xs with
    | some e, some es => some (e :: es)
    | _, _ => none
def okG (g G : Gd) : Bool :=
  match g with
  | none => true
  | some (i, b) => match G with
    | some (j, c) => Nat.beq i j && (b == c)
    | none => false
def SS.ptr (s : SS) (G : Gd) : Opd → Option (Nat × Nat)
  | .t n => match s.slot n with
    | some (.ptr r off g) => if okG g G then some (r, off) else none
    | _ => none
  | .c _ => none
def SS.cont (s : SS) (G : Gd) (r : Nat) : Option Ex :=
  match s.loc.lookup r with
  | some (e, g) => if okG g G then some e else none
  | none => none
inductive JI where
  | p (o : JOp)
  | s (o : SOp)
structure JIns where
  op : JI
  xs : List Ex
  g : Gd
def JIns.tree (i : JIns) (k : T) : T :=
  match i.op with
  | .p o => .p o i.xs i.g k
  | .s o => .s o i.xs i.g k
def isMv : POp → Option Nat
  | .mv | .nilchk => some 0
  | .off n => some n
  | _ => none
def symbP (s : SS) (G : Gd) (dst : Option Nat) (o : POp) (xs : List Opd) : Option (List JIns × SS) :=
  match (match isMv o, xs with | some n, [x] => (s.ptr G x).map fun p => (p.1, p.2 + n) | _, _ => none) with
  | some (r, off) => some ([], s.put dst (.ptr r off G))
  | none =>
    match s.exs xs with
    | some es =>
      match o, es, G with
      | .mv, [e], none => some ([], s.put dst (.ex e))
      | _, _, _ => some ([⟨.p (.p o), es, G⟩], (s.more 1).put dst (.ex (.v s.nv)))
    | none => none
def symbL (s : SS) (G : Gd) (dst : Option Nat) (r : Nat) (o : LOp) (xs : List Opd) : Option (List JIns × SS) :=
  match o, xs with
  | .box, [x] => (s.ex x).map fun e => ([⟨.p .box, [e], G⟩], (((s.more 1).drop r).put dst (.ptr r 0 G)).setLoc r (.v s.nv) G)
  | .alloc z, [] => some ([], ((s.drop r).put dst (.ptr r 0 G)).setLoc r (.k (.agg z)) G)
  | .rng, [x] => (s.ex x).map fun e => ([⟨.p .rng, [e], G⟩], (((s.more 1).drop r).put dst (.ptr r 0 G)).setLoc r (.v s.nv) G)
  | .st n, [p, x] =>
    match s.ptr G p, s.ex x, s.cont G r with
    | some (q, off), some e, some c => if q = r then some ([⟨.p (.wr off n), [c, e], G⟩], ((s.more 1).put dst (.ex (.k .undef))).setLoc r (.v s.nv) G) else none
    | _, _, _ => none
  | .next, [p] =>
    match s.ptr G p, s.cont G r with
    | some (q, 0), some c => if q = r then some ([⟨.p (.nx false), [c], G⟩, ⟨.p (.nx true), [c], G⟩], ((s.more 2).put dst (.ex (.v s.nv))).setLoc r (.v (s.nv + 1)) G) else none
    | _, _ => none
  | _, _ => none
def SS.guard (s : SS) : Option (Nat × Bool) → Option Gd
  | none => some none
  | some (t, b) => match s.slot t with
    | some (.ex (.v i)) => some (some (i, b))
    | _ => none
def symbOp (s : SS) (o : IOper) : Option (List JIns × SS) :=
  match s.guard o.guard with
  | none => none
  | some G =>
    match o.op with
    | .p q => symbP s G o.dst q o.xs
    | .lr r sz => match o.xs with
      | [x] => match s.ptr G x, s.cont G r with
        | some (q, off), some c => if q = r then some ([⟨.p (.p (.fld off sz)), [c], G⟩], (s.more 1).put o.dst (.ex (.v s.nv))) else none
        | _, _ => none
      | _ => none
    | .lw r q => symbL s G o.dst r q o.xs
    | .s _ q => (s.exs o.xs).map fun es => ([⟨.s q, es, G⟩], (s.more 1).put o.dst (.ex (.v s.nv)))
def symbOps : List IOper → SS → Option (List JIns × SS)
  | [], s => some ([], s)
  | o :: os, s => match symbOp s o with
    | some (is, s') => match symbOps os s' with
      | some (js, s'') => some (is ++ js, s'')
      | none => none
    | none => none
def IOper.root : IOper → Option Nat
  | ⟨_, .lw r _, _, _⟩ => some r
  | _ => none
def IOper.boxed : IOper → Option Nat
  | ⟨_, .lw r (.st _), _, _⟩ | ⟨_, .lw r .next, _, _⟩ => none
  | ⟨_, .lw r _, _, _⟩ => some r
  | _ => none
def ICode.wr (f : IOper → Option Nat) : ICode → List Nat
  | .skip | .ret | .exit _ => []
  | .reg ops => ops.filterMap f
  | .seq a b | .cond _ a b => a.wr f ++ b.wr f
  | .block _ a | .loop a => a.wr f
def ICode.outs (t : Option Nat) : ICode → Nat
  | .skip | .reg _ => match t with | none => 1 | _ => 0
  | .ret => 0
  | .exit i => match t with | some j => if i = j then 1 else 0 | none => 0
  | .seq a b => match t with
    | none => a.outs none * b.outs none
    | t => a.outs t + a.outs none * b.outs t
  | .cond _ a b => a.outs t + b.outs t
  | .block i a => match t with
    | none => a.outs none + a.outs (some i)
    | t => a.outs t
  | .loop a => match t with
    | none => 0
    | t => a.outs t
def ICode.size : ICode → Nat
  | .skip | .ret | .exit _ => 0
  | .reg ops => ops.length
  | .seq a b | .cond _ a b => a.size + b.size
  | .block _ a => a.size
  | .loop a => a.size + 100
def slotVars (w : List Nat) : List (Nat × SV) → List Nat
  | [] => []
  | (t, .ex _) :: ps => if w.contains t then t :: slotVars w ps else slotVars w ps
  | _ :: ps => slotVars w ps
def rootVars (w : List Nat) : List (Nat × (Ex × Gd)) → List Nat
  | [] => []
  | (r, (_, none)) :: ps => if w.contains r then r :: rootVars w ps else rootVars w ps
  | _ :: ps => rootVars w ps
def varsEnv : Nat → List Nat → List (Nat × SV)
  | _, [] => []
  | b, d :: ds => (d, .ex (.v b)) :: varsEnv (b + 1) ds
def varsLoc : Nat → List Nat → List (Nat × (Ex × Gd))
  | _, [] => []
  | b, d :: ds => (d, (.v b, none)) :: varsLoc (b + 1) ds
def ptrVars (w : List Nat) : List (Nat × SV) → List (Nat × (Nat × Nat))
  | [] => []
  | (t, .ptr r off none) :: ps => if w.contains t then (t, (r, off)) :: ptrVars w ps else ptrVars w ps
  | _ :: ps => ptrVars w ps
def keepEnv (W WB : List Nat) (env : List (Nat × SV)) : List (Nat × SV) :=
  env.filter fun p => !W.contains p.1 && (match p.2 with | .ex _ => true | .ptr r _ _ => !WB.contains r)
def keepLoc (WR : List Nat) (loc : List (Nat × (Ex × Gd))) : List (Nat × (Ex × Gd)) := loc.filter fun p => !WR.contains p.1
def headOf (a : ICode) (s : SS) (dep : Nat) : SS :=
  let W := a.wr IOper.dst
  let WR := a.wr IOper.root
  let WB := a.wr IOper.boxed
  let vs := slotVars W s.env
  let rs := rootVars WR s.loc
  { env := varsEnv s.nv vs ++ (ptrVars W s.env).map (fun p => (p.1, .ptr p.2.1 p.2.2 none)) ++ keepEnv W WB s.env
    loc := varsLoc (s.nv + vs.length) rs ++ keepLoc WR s.loc
    nv := s.nv + (vs.length + rs.length)
    dep := dep }
def getSlots (s : SS) : List Nat → Option (List Ex)
  | [] => some []
  | t :: ts => match s.ex (.t t), getSlots s ts with
    | some e, some es => some (e :: es)
    | _, _ => none
def getRoots (s : SS) : List Nat → Option (List Ex)
  | [] => some []
  | r :: rs => match s.cont none r, getRoots s rs with
    | some e, some es => some (e :: es)
    | _, _ => none
def samePtrs (s : SS) : List (Nat × (Nat × Nat)) → Bool
  | [] => true
  | (t, (r, off)) :: ps => (match s.ptr none (.t t) with | some (q, o) => Nat.beq q r && Nat.beq o off | none => false) && samePtrs s ps
def nowVals (a : ICode) (s0 s : SS) : Option (List Ex) :=
  let W := a.wr IOper.dst
  let WR := a.wr IOper.root
  match getSlots s (slotVars W s0.env), getRoots s (rootVars WR s0.loc) with
  | some es, some fs => if samePtrs s (ptrVars W s0.env) then some (es ++ fs) else none
  | _, _ => none
def numVals (a : ICode) (s0 : SS) : Nat := (slotVars (a.wr IOper.dst) s0.env).length + (rootVars (a.wr IOper.root) s0.loc).length
def insTree : List JIns → T → T
  | [], t => t
  | i :: is, t => i.tree (insTree is t)
def noEsc (l : Nat) (t : T) : Option T := if t.esc l then some t else none
def joinAt (a : ICode) (s : SS) (k : Exit → SS → Option T) : Exit → SS → Option T
  | .normal, s' => (nowVals a s s').map fun es => .next s.dep es
  | e, s' => (k e s').bind (noEsc s.dep)
def symb : ICode → Nat → SS → (Exit → SS → Option T) → Option T
  | .skip, _, s, k => k .normal s
  | .ret, _, s, k => k .ret s
  | .exit i, _, s, k => k (.exit i) s
  | .reg ops, _, s, k => match symbOps ops s with
    | some (is, s') => (k .normal s').map (insTree is)
    | none => none
  | .seq a b, rs, s, k => symb a (b.size + rs) s fun e s' => match e with
    | .normal => symb b rs s' k
    | e => k e s'
  | .cond c a b, rs, s, k =>
    match s.ex c with
    | some e =>
      if Nat.blt 1 (a.outs none + b.outs none) && Nat.blt 4 rs then
        let s1 := { s with dep := s.dep + 1 }
        match symb a 0 s1 (joinAt (.cond c a b) s k), symb b 0 s1 (joinAt (.cond c a b) s k), k .normal (headOf (.cond c a b) s s.dep) with
        | some ta, some tb, some tk => some (.join s.dep (numVals (.cond c a b) s) (.ite e ta tb) tk)
        | _, _, _ => none
      else match symb a rs s k, symb b rs s k with
        | some ta, some tb => some (.ite e ta tb)
        | _, _ => none
    | none => none
  | .block id a, rs, s, k =>
    let kk : (Exit → SS → Option T) → Exit → SS → Option T := fun k e s' => match e with
      | .exit i => if i = id then k .normal s' else k (.exit i) s'
      | e => k e s'
    if Nat.blt 1 (ICode.outs none (.block id a)) && Nat.blt 4 rs then
      match symb a 0 { s with dep := s.dep + 1 } (kk (joinAt (.block id a) s k)), k .normal (headOf (.block id a) s s.dep) with
      | some ta, some tk => some (.join s.dep (numVals (.block id a) s) ta tk)
      | _, _ => none
    else symb a rs s (kk k)
  | .loop a, rs, s, k =>
    match nowVals a s s with
    | some init => (symb a 0 (headOf a s (s.dep + 1)) (joinAt a s k)).map fun body => .loop s.dep init body
    | none => none
def resTree : List IRes → SS → List Ex → Option T
  | [], _, es => some (.ret es)
  | .t n :: rs, s, es => (s.ex (.t n)).bind fun e => resTree rs s (es ++ [e])
  | .cell r sz :: rs, s, es => match s.ptr none (.t r), s.cont none r with
    | some (q, off), some c => if q = r then (resTree rs (s.more 1) (es ++ [.v s.nv])).map fun t => .p (.p (.fld off sz)) [c] none t else none
    | _, _ => none
def parEnv : Nat → List (Nat × SV)
  | 0 => []
  | n + 1 => (n, .ex (.v n)) :: parEnv n
def symbFun (F : IFunc) : Option T :=
  symb F.body 0 { env := parEnv F.npar, loc := [], nv := F.npar, dep := 0 } fun e s => match e with
    | .ret | .normal => resTree F.res s []
    | _ => none
inductive JFun where
  | body (npar : Nat) (t : T)
  | prim (sem : List DVal → Option DVal)
  | alt (npar : Nat) (s t : T)
  | sprim (sem : List DVal → Sto → Option (DVal × Sto))
  | rbody (npar : Nat) (t : T)
def handJ : Option Out → Option (DVal × Sto)
  | some (.done v σ) => (v.handBack σ).map fun u => (u, emptySto)
  | _ => none
def likeR (y z : DVal × Sto) : Prop := y.1 = z.1 ∧ y.2.nobj = z.2.nobj ∧ y.2.ntok = z.2.ntok ∧ y.2.fr = z.2.fr ∧
  ∀ id, y.2.obj id = z.2.obj id ∨ ∃ es es', y.2.obj id = .tup es ∧ z.2.obj id = .tup es' ∧ es.Perm es' ∧ ∀ s, DVal.str s ∉ es
noncomputable def rdet (σ : Sto) (g : (Nat → Nat) → Option (DVal × Sto)) : Option (DVal × Sto) :=
  open Classical in if ∀ o, ∃ y z, g o = some y ∧ g (fun _ => 0) = some z ∧ likeR y z then (g fun _ => 0).map fun y => (y.1, { y.2 with ora := σ.ora }) else none
def outR : Option Out → Option (DVal × Sto)
  | some (.done v σ) => some (v, σ)
  | _ => none
noncomputable def evJ (prog : Nat → Option JFun) : Nat → Nat → List DVal → Option Sto → Option (DVal × Sto)
  | 0, _, _, _ => none
  | n + 1, f, args, none =>
    match prog f with
    | some (.body np t) => if args.length = np then
        match den (fun g xs => (evJ prog n g xs none).map (·.1)) (fun g xs τ => evJ prog n g xs (some τ)) n t args emptySto with
        | some (.done v σ) => (v.handBack σ).map fun u => (u, emptySto)
        | _ => none
      else none
    | some (.prim sem) => (sem args).map fun v => (v, emptySto)
    | some (.alt np s t) => if args.length = np then
        (handJ (den (fun g xs => (evJ prog n g xs none).map (·.1)) (fun g xs τ => evJ prog n g xs (some τ)) n s args emptySto)).or (handJ (den (fun g xs => (evJ prog n g xs none).map (·.1)) (fun g xs τ => evJ prog n g xs (some τ)) n t args emptySto))
      else none
    | _ => none
  | n + 1, f, args, some σ =>
    match prog f with
    | some (.body np t) => if args.length = np then
        match den (fun g xs => (evJ prog n g xs none).map (·.1)) (fun g xs τ => evJ prog n g xs (some τ)) n t args σ with
        | some (.done v σ') => some (v, σ')
        | _ => none
      else none
    | some (.sprim sem) => sem args σ
    | some (.rbody np t) => if args.length = np then
        rdet σ fun o => outR (den (fun g xs => (evJ prog n g xs none).map (·.1)) (fun g xs τ => evJ prog n g xs (some τ)) n t args { σ with ora := o })
      else none
    | _ => none
noncomputable def cpJ (prog : Nat → Option JFun) (n : Nat) (f : Nat) (args : List DVal) : Option DVal := (evJ prog n f args none).map (·.1)
noncomputable def ciJ (prog : Nat → Option JFun) (n : Nat) (f : Nat) (args : List DVal) (σ : Sto) : Option (DVal × Sto) := evJ prog n f args (some σ)
end Go.Proofs.YtklepphkbbjbjaaDoor
