/- One operation, whatever it is. -/
import Derived.Test.YtdnoonnanhnkaaaDoorSimCall
set_option linter.unusedVariables false
set_option linter.unusedSimpArgs false
namespace Go.Proofs.YtdnoonnanhnkaaaDoor
open Go Go.RowKit

section
variable {cp : Nat → List DVal → Option DVal} {ci : Nat → List DVal → Sto → Option (DVal × Sto)} {dst : Option Nat} {xs : List Opd} {st st' : St}

theorem ex_p {po : POp} (h : execOp' cp ci dst (.p po) xs st = some st') : ∃ d, po.sem cp (xs.map (Opd.val st.env)) = some d ∧ st' = st.put dst d := by
  simp only [execOp', Option.map_eq_some_iff] at h
  obtain ⟨d, h1, rfl⟩ := h
  exact ⟨d, h1, rfl⟩
theorem ex_lr {r : Nat} {sz : Option Nat} (h : execOp' cp ci dst (.lr r sz) xs st = some st') : ∃ d, readLoc r sz (st.loc r) (xs.map (Opd.val st.env)) = some d ∧ st' = st.put dst d := by
  simp only [execOp', Option.map_eq_some_iff] at h
  obtain ⟨d, h1, rfl⟩ := h
  exact ⟨d, h1, rfl⟩
theorem ex_lw {r : Nat} {lo : LOp} (h : execOp' cp ci dst (.lw r lo) xs st = some st') : ∃ d m, lo.sem r (st.loc r) (xs.map (Opd.val st.env)) = some (d, m) ∧ st' = { st with loc := upd st.loc r m }.put dst d := by
  simp only [execOp', Option.map_eq_some_iff] at h
  obtain ⟨⟨d, m⟩, h1, rfl⟩ := h
  exact ⟨d, m, h1, rfl⟩
theorem ex_s {w : Bool} {so : SOp} (h : execOp' cp ci dst (.s w so) xs st = some st') : ∃ d σ', so.sem cp ci st.sto (xs.map (Opd.val st.env)) = some (d, σ') ∧ st' = { st with sto := σ' }.put dst d := by
  simp only [execOp', Option.map_eq_some_iff] at h
  obtain ⟨⟨d, m⟩, h1, rfl⟩ := h
  exact ⟨d, m, h1, rfl⟩
end

section
variable {P : Program} {Gl : List (Nat × Value)} {h : Hint} {V : Vw} {w : World} {env : Nat → DVal} {L : Nat → Nat × DVal} {σ : Sto} {a : Act} {o : Oper} {cp : Nat → List DVal → Option DVal} {ci : Nat → List DVal → Sto → Option (DVal × Sto)}

/-- What is to be shown of an operation. -/
def OpGoal (P : Program) (V : Vw) (w : World) (a : Act) (o : Oper) (dst : Option Nat) (env : Nat → DVal) (st' : St) : Prop :=
  ∃ d L' σ', st' = ({ env := env, loc := L', sto := σ' } : St).put dst d ∧ OpWp P o a w (Res V w L' σ' d)

theorem goal_p {dst : Option Nat} {po : POp} {xs : List Opd} {st' : St} (hs : execOp' cp ci dst (.p po) xs { env := env, loc := L, sto := σ } = some st')
    (hg : ∀ d, po.sem cp (xs.map (Opd.val env)) = some d → OpWp P o a w (Res V w L σ d)) : OpGoal P V w a o dst env st' := by
  obtain ⟨d, h1, rfl⟩ := ex_p hs
  exact ⟨d, L, σ, rfl, hg d h1⟩

theorem goal_lw {dst : Option Nat} {r : Nat} {lo : LOp} {xs : List Opd} {st' : St} (hs : execOp' cp ci dst (.lw r lo) xs { env := env, loc := L, sto := σ } = some st')
    (hg : ∀ d m, lo.sem r (L r) (xs.map (Opd.val env)) = some (d, m) → OpWp P o a w (Res V w (upd L r m) σ d)) : OpGoal P V w a o dst env st' := by
  obtain ⟨d, m, h1, rfl⟩ := ex_lw hs
  exact ⟨d, _, σ, rfl, hg d m h1⟩

theorem goal_s {dst : Option Nat} {b : Bool} {so : SOp} {xs : List Opd} {st' : St} (hs : execOp' cp ci dst (.s b so) xs { env := env, loc := L, sto := σ } = some st')
    (hg : ∀ d σ', so.sem cp ci σ (xs.map (Opd.val env)) = some (d, σ') → OpWp P o a w (Res V w L σ' d)) : OpGoal P V w a o dst env st' := by
  obtain ⟨d, m, h1, rfl⟩ := ex_s hs
  exact ⟨d, L, _, rfl, hg d m h1⟩

theorem goal_lr {dst : Option Nat} {r : Nat} {sz : Option Nat} {xs : List Opd} {st' : St} (hs : execOp' cp ci dst (.lr r sz) xs { env := env, loc := L, sto := σ } = some st')
    (hg : ∀ d, readLoc r sz (L r) (xs.map (Opd.val env)) = some d → OpWp P o a w (Res V w L σ d)) : OpGoal P V w a o dst env st' := by
  obtain ⟨d, h1, rfl⟩ := ex_lr hs
  exact ⟨d, L, σ, rfl, hg d h1⟩

theorem bin_goal {op : BinOp} {t ty : TypeId} {x y : Operand} {dst : Option Nat} {iop : IOp} {xs : List Opd} {st' : St} (hi : Inv V L σ w) (he : EnvRel V w env a.tmps) (ho : o.op = .binOp op t x y ty)
    (hc : compBin P op t x y = some (iop, xs)) (hs : execOp' cp ci dst iop xs { env := env, loc := L, sto := σ } = some st') : OpGoal P V w a o dst env st' := by
  have plain : ∀ {iop : IOp} {xs : List Opd}, two x y (.p (.bin op)) = some (iop, xs) → execOp' cp ci dst iop xs { env := env, loc := L, sto := σ } = some st' → OpGoal P V w a o dst env st' := by
    intro iop xs hc hs
    obtain ⟨p, q, hp, hq, rfl, rfl⟩ := two_inv hc
    exact goal_p hs fun d hd => bin_sound hi he ho hp hq (by simpa [POp.sem] using hd)
  have eqs : (op = .eql ∨ op = .neq) → (match P.underlying t with
    | some .bool => two x y (.p (.eqb (isNeq op)))
    | some (.int _) | some .string => two x y (.p (.bin op))
    | some (.struct _) | some (.array _ _) => if P.eqGuardType P.depth t then none else (eqKinds P 100 t).bind fun ks => two x y (.p (.eqa (isNeq op) ks))
    | some d => match nilKind d y with
      | some k => one x (.p (.isnil k (isNeq op)))
      | none => none
    | none => none) = some (iop, xs) → OpGoal P V w a o dst env st' := by
    intro hop hc
    split at hc
    · rename_i hu
      obtain ⟨p, q, hp, hq, rfl, rfl⟩ := two_inv hc
      exact goal_p hs fun d hd => eqb_sound hi he ho hp hq hu hop (by simpa [POp.sem] using hd)
    · exact plain hc hs
    · exact plain hc hs
    · rename_i fs hu
      split at hc
      · cases hc
      · rename_i hg
        simp only [Option.bind_eq_some_iff] at hc
        obtain ⟨ks, hk, hc⟩ := hc
        obtain ⟨p, q, hp, hq, rfl, rfl⟩ := two_inv hc
        exact goal_p hs fun d hd => eqa_sound hi he ho hp hq hk (by simpa using hg) (.inl ⟨fs, hu⟩) hop (by simpa [POp.sem] using hd)
    · rename_i n e hu
      split at hc
      · cases hc
      · rename_i hg
        simp only [Option.bind_eq_some_iff] at hc
        obtain ⟨ks, hk, hc⟩ := hc
        obtain ⟨p, q, hp, hq, rfl, rfl⟩ := two_inv hc
        exact goal_p hs fun d hd => eqa_sound hi he ho hp hq hk (by simpa using hg) (.inr ⟨n, e, hu⟩) hop (by simpa [POp.sem] using hd)
    · rename_i td hu
      split at hc
      · rename_i k hk
        obtain ⟨q, hq, rfl, rfl⟩ := one_inv hc
        exact goal_p hs fun d hd => isnil_sound hi he ho hq hu hk hop (by simpa [POp.sem] using hd)
      · cases hc
    · cases hc
  unfold compBin at hc
  split at hc
  · exact eqs (.inl rfl) hc
  · exact eqs (.inr rfl) hc
  · exact plain hc hs

theorem call_goal {c : Call} {dst : Option Nat} {iop : IOp} {xs : List Opd} {st' : St} (hcp : ∀ f, PureOk P Gl f (cp f)) (hci : ∀ f, ImpOk P Gl f (ci f)) (hG : HasG Gl V.imm w) (hi : Inv V L σ w) (he : EnvRel V w env a.tmps) (ho : o.op = .call c)
    (hc : compOp P h dst (.call c) = some (iop, xs)) (hs : execOp' cp ci dst iop xs { env := env, loc := L, sto := σ } = some st') : OpGoal P V w a o dst env st' := by
  unfold compOp at hc
  simp only at hc
  split at hc
  · rename_i r name hcal
    simp only [Option.map_eq_some_iff, Prod.mk.injEq] at hc
    obtain ⟨qs, hq, rfl, rfl⟩ := hc
    exact goal_p hs fun d hd => callM_sound hcp hG hi he ho hcal hq (by simpa [POp.sem] using hd)
  · rename_i f hcal
    simp only [Option.map_eq_some_iff, Prod.mk.injEq] at hc
    obtain ⟨qs, hq, hiop, rfl⟩ := hc
    split at hiop
    · subst hiop
      exact goal_p hs fun d hd => callP_sound hcp hG hi he ho hcal hq (by simpa [POp.sem] using hd)
    · subst hiop
      exact goal_s hs fun d σ' hd => callF_sound hcp hG hi he ho hcal hq (by simpa [SOp.sem] using hd)
    · subst hiop
      exact goal_s hs fun d σ' hd => callI_sound hci hG hi he ho hcal hq (by simpa [SOp.sem] using hd)
  · rename_i t hcal
    simp only [Option.map_eq_some_iff, Prod.mk.injEq] at hc
    obtain ⟨qs, hq, rfl, rfl⟩ := hc
    exact goal_s hs fun d σ' hd => callV_sound hci hG hi he ho hcal hq (by simpa [SOp.sem, Opd.val] using hd)
  · rename_i hcal
    split at hc
    · rename_i x hargs hu
      have hx : c.args = #[x] := by apply Array.ext'; simpa using hargs
      cases ht : c.argTypes[0]? with
      | none => rw [ht] at hu; simp at hu
      | some t =>
        rw [ht] at hu
        simp only [Option.bind_some] at hu
        obtain ⟨q, hq, rfl, rfl⟩ := one_inv hc
        exact goal_p hs fun d hd => lenStr_sound hi he ho hcal hx ht hu hq (by simpa [POp.sem] using hd)
    · rename_i x e hargs hu
      have hx : c.args = #[x] := by apply Array.ext'; simpa using hargs
      cases ht : c.argTypes[0]? with
      | none => rw [ht] at hu; simp at hu
      | some t =>
        rw [ht] at hu
        simp only [Option.bind_some] at hu
        obtain ⟨q, hq, rfl, rfl⟩ := one_inv hc
        exact goal_p hs fun d hd => lenSl_sound hi he ho hcal hx ht hu hq (by simpa [POp.sem] using hd)
    · rename_i x n e hargs hu
      have hx : c.args = #[x] := by apply Array.ext'; simpa using hargs
      cases ht : c.argTypes[0]? with
      | none => rw [ht] at hu; simp at hu
      | some t =>
        rw [ht] at hu
        simp only [Option.bind_some] at hu
        obtain ⟨q, hq, rfl, rfl⟩ := one_inv hc
        exact goal_p hs fun d hd => lenArr_sound hi ho hcal hx ht hu (by simpa [POp.sem] using hd)
    · cases hc
  · rename_i hcal
    split at hc
    · rename_i s x t u hargs htypes
      have hx : c.args = #[s, x] := by apply Array.ext'; simpa using hargs
      have htt : c.argTypes = #[t, u] := by apply Array.ext'; simpa using htypes
      split at hc
      · rename_i e hu
        split at hc
        · rename_i i hi1
          split at hc
          · rename_i z hz
            split at hc
            · rename_i hcond
              obtain ⟨rfl, h1, h2, h3⟩ := hcond
              obtain ⟨p, q, hp, hq, rfl, rfl⟩ := two_inv hc
              exact goal_s hs fun d σ' hd => app_sound hi he ho hcal hx htt hu hi1 h1 h2 hz h3 hp hq (by simpa [SOp.sem] using hd)
            · cases hc
          · cases hc
        · cases hc
      · cases hc
    · cases hc
  · rename_i hcal
    split at hc
    · rename_i x y hargs
      have hx : c.args = #[x, y] := by apply Array.ext'; simpa using hargs
      obtain ⟨p, q, hp, hq, rfl, rfl⟩ := two_inv hc
      exact goal_p hs fun d hd => mx_sound hi he ho hcal hx hp hq (by simpa [POp.sem] using hd)
    · cases hc
  · rename_i hcal
    split at hc
    · rename_i x y hargs
      have hx : c.args = #[x, y] := by apply Array.ext'; simpa using hargs
      obtain ⟨p, q, hp, hq, rfl, rfl⟩ := two_inv hc
      exact goal_p hs fun d hd => mn_sound hi he ho hcal hx hp hq (by simpa [POp.sem] using hd)
    · cases hc
  · cases hc

/-- An operation that is wanted does what the small language says. -/
theorem op_sound {dst : Option Nat} {iop : IOp} {xs : List Opd} {st' : St} (hcp : ∀ f, PureOk P Gl f (cp f)) (hci : ∀ f, ImpOk P Gl f (ci f)) (hG : HasG Gl V.imm w) (hi : Inv V L σ w) (he : EnvRel V w env a.tmps)
    (hc : compOp P h dst o.op = some (iop, xs)) (hs : execOp' cp ci dst iop xs { env := env, loc := L, sto := σ } = some st') : OpGoal P V w a o dst env st' := by
  cases ho : o.op with
  | move x =>
    rw [ho] at hc
    obtain ⟨q, hq, rfl, rfl⟩ := one_inv hc
    exact goal_p hs fun d hd => mv_sound hi he (.inl ho) hq (by simpa [POp.sem] using hd)
  | assign x =>
    rw [ho] at hc
    obtain ⟨q, hq, rfl, rfl⟩ := one_inv hc
    exact goal_p hs fun d hd => mv_sound hi he (.inr ho) hq (by simpa [POp.sem] using hd)
  | pick c x y =>
    rw [ho] at hc
    simp only [compOp, Option.map_eq_some_iff, Prod.mk.injEq] at hc
    obtain ⟨qs, hq, rfl, rfl⟩ := hc
    exact goal_p hs fun d hd => pick_sound hi he ho hq (by simpa [POp.sem] using hd)
  | alloc e =>
    rw [ho] at hc
    simp only [compOp] at hc
    split at hc
    · rename_i z d hz
      split at hc <;> simp only [Option.some.injEq, Prod.mk.injEq] at hc <;> obtain ⟨rfl, rfl⟩ := hc
      · exact goal_lw hs fun d m hd => allocL_sound hi ho hz (by simpa [LOp.sem] using hd)
      · exact goal_s hs fun d σ' hd => allocO_sound hi ho hz (by simpa [SOp.sem] using hd)
    · cases hc
  | box t x =>
    rw [ho] at hc
    simp only [compOp] at hc
    split at hc
    · obtain ⟨q, hq, hiop, rfl⟩ := one_inv hc
      split at hiop <;> subst hiop
      · exact goal_lw hs fun d m hd => boxL_sound hi he ho hq (by simpa [LOp.sem] using hd)
      · exact goal_s hs fun d σ' hd => boxO_sound hi he ho hq (by simpa [SOp.sem] using hd)
    · cases hc
  | build t parts =>
    rw [ho] at hc
    simp only [compOp] at hc
    split at hc
    · rename_i fs z hu hz
      split at hc
      · rename_i hall
        split at hc
        · rename_i ps qs hp hq
          simp only [Option.some.injEq, Prod.mk.injEq] at hc
          obtain ⟨rfl, rfl⟩ := hc
          exact goal_p hs fun d hd => build_sound hi he ho hu hz (by simpa only [List.all_eq_true] using hall) hp hq (by simpa [POp.sem] using hd)
        · cases hc
      · cases hc
    · rename_i n e z hu hz
      split at hc
      · rename_i k qs hk hq
        simp only [Option.some.injEq, Prod.mk.injEq] at hc
        obtain ⟨rfl, rfl⟩ := hc
        exact goal_p hs fun d hd => buildA_sound hi he ho hu hz hk hq (by simpa [POp.sem] using hd)
      · cases hc
    · cases hc
  | buildSlice t len parts =>
    rw [ho] at hc
    simp only [compOp] at hc
    split at hc
    · rename_i e hu
      split at hc
      · rename_i i hi1
        split at hc
        · rename_i hcond
          simp only [Bool.and_eq_true, decide_eq_true_eq, beq_iff_eq] at hcond
          obtain ⟨⟨⟨h1, h2⟩, h3⟩, h4⟩ := hcond
          simp only [Option.map_eq_some_iff, Prod.mk.injEq] at hc
          obtain ⟨qs, hq, rfl, rfl⟩ := hc
          exact goal_p hs fun d hd => bslice_sound hi he ho hu hi1 h2 h3 h4 hq (by simpa [POp.sem] using hd)
        · cases hc
      · cases hc
    · cases hc
  | load t x =>
    rw [ho] at hc
    simp only [compOp] at hc
    split at hc
    · rename_i sz hz
      obtain ⟨q, hq, hiop, rfl⟩ := one_inv hc
      split at hiop <;> subst hiop
      · exact goal_s hs fun d σ' hd => ldO_sound hi he ho hq hz (by simpa [SOp.sem] using hd)
      · exact goal_p hs fun d hd => ldE_sound hi he ho hq hz (by simpa [POp.sem] using hd)
      · exact goal_lr hs fun d hd => lr_sound hi he ho hq hz (by simpa using hd)
    · cases hc
  | store t x y =>
    rw [ho] at hc
    simp only [compOp] at hc
    split at hc
    · rename_i n hz
      split at hc
      · obtain ⟨p, q, hp, hq, rfl, rfl⟩ := two_inv hc
        exact goal_s hs fun d σ' hd => stO_sound hi he ho hp hq hz (by simpa [SOp.sem] using hd)
      · cases hc
      · obtain ⟨p, q, hp, hq, rfl, rfl⟩ := two_inv hc
        exact goal_lw hs fun d m hd => stL_sound hi he ho hp hq hz (by simpa [LOp.sem] using hd)
    · cases hc
  | nilCheck x =>
    rw [ho] at hc
    obtain ⟨q, hq, rfl, rfl⟩ := one_inv hc
    exact goal_p hs fun d hd => nilchk_sound hi he ho hq (by simpa [POp.sem] using hd)
  | binOp op t x y ty =>
    rw [ho] at hc
    exact bin_goal hi he ho hc hs
  | unOp op t x =>
    rw [ho] at hc
    obtain ⟨q, hq, rfl, rfl⟩ := one_inv hc
    exact goal_p hs fun d hd => un_sound hi he ho hq (by simpa [POp.sem] using hd)
  | convert s t x =>
    rw [ho] at hc
    simp only [compOp] at hc
    split at hc
    · rename_i k' k h1 h2
      obtain ⟨q, hq, rfl, rfl⟩ := one_inv hc
      exact goal_p hs fun d hd => conv_sound hi he ho hq h1 h2 (by simpa [POp.sem] using hd)
    · rename_i h1 h2
      obtain ⟨q, hq, rfl, rfl⟩ := one_inv hc
      exact goal_p hs fun d hd => convStr_sound hi he ho hq h1 h2 (by simpa [POp.sem] using hd)
    · cases hc
  | fieldAddr t x f =>
    rw [ho] at hc
    simp only [compOp] at hc
    split at hc
    · rename_i fl hf
      split at hc
      · rename_i n hz
        obtain ⟨q, hq, rfl, rfl⟩ := one_inv hc
        exact goal_p hs fun d hd => off_sound hi he ho hq hf hz (by simpa [POp.sem] using hd)
      · cases hc
    · cases hc
  | field t x f =>
    rw [ho] at hc
    simp only [compOp] at hc
    split at hc
    · rename_i fl hf
      split at hc
      · rename_i sz hz
        obtain ⟨q, hq, rfl, rfl⟩ := one_inv hc
        exact goal_p hs fun d hd => fld_sound hi he ho hq hf hz (by simpa [POp.sem] using hd)
      · cases hc
    · cases hc
  | indexAddr t x i =>
    rw [ho] at hc
    simp only [compOp] at hc
    split at hc
    · rename_i e hu
      split at hc
      · rename_i sz hz
        obtain ⟨p, q, hp, hq, rfl, rfl⟩ := two_inv hc
        exact goal_p hs fun d hd => idxS_sound hi he ho hp hq hu hz (by simpa [POp.sem] using hd)
      · cases hc
    · rename_i n e hu
      split at hc
      · rename_i sz hz
        obtain ⟨p, q, hp, hq, rfl, rfl⟩ := two_inv hc
        exact goal_p hs fun d hd => idxA_sound hi he ho hp hq hu hz (by simpa [POp.sem] using hd)
      · cases hc
    · cases hc
  | index t x i =>
    rw [ho] at hc
    simp only [compOp] at hc
    split at hc
    · rename_i hu
      obtain ⟨p, q, hp, hq, rfl, rfl⟩ := two_inv hc
      exact goal_p hs fun d hd => idxStr_sound hi he ho hp hq hu (by simpa [POp.sem] using hd)
    · cases hc
  | slice t x lo hi' mx =>
    rw [ho] at hc
    simp only [compOp] at hc
    split at hc
    · rename_i hu
      split at hc
      · rename_i hmx
        have hmx' : mx = none := by simpa using hmx
        subst hmx'
        simp only [Option.map_eq_some_iff, Prod.mk.injEq] at hc
        obtain ⟨qs, hq, rfl, rfl⟩ := hc
        exact goal_p hs fun d hd => slcS_sound hi he ho hu hq (by simpa [POp.sem] using hd)
      · cases hc
    · rename_i e hu
      split at hc
      · rename_i sz hz
        simp only [Option.map_eq_some_iff, Prod.mk.injEq] at hc
        obtain ⟨qs, hq, rfl, rfl⟩ := hc
        exact goal_p hs fun d hd => slcV_sound hi he ho hu hz hq (by simpa [POp.sem] using hd)
      · cases hc
    · cases hc
  | extract x i =>
    rw [ho] at hc
    obtain ⟨q, hq, rfl, rfl⟩ := one_inv hc
    exact goal_p hs fun d hd => ext_sound hi he ho hq (by simpa [POp.sem] using hd)
  | makeFunc fn first captured =>
    rw [ho] at hc
    cases fn <;> simp only [compOp, reduceCtorEq] at hc
    rename_i f
    split at hc
    · rename_i hf
      simp only [Option.map_eq_some_iff, Prod.mk.injEq] at hc
      obtain ⟨qs, hq, rfl, rfl⟩ := hc
      exact goal_p hs fun d hd => mkfunc_sound hi he ho (by simpa using hf) hq (by simpa [POp.sem] using hd)
    · cases hc
  | range t x =>
    rw [ho] at hc
    simp only [compOp] at hc
    split at hc
    · rename_i d hu
      obtain ⟨q, hq, rfl, rfl⟩ := one_inv hc
      exact goal_lw hs fun d m hd => rng_sound hi he ho hu hq (by simpa [LOp.sem] using hd)
    · cases hc
  | next it isS =>
    rw [ho] at hc
    cases isS <;> simp only [compOp, reduceCtorEq] at hc
    split at hc
    · obtain ⟨q, hq, rfl, rfl⟩ := one_inv hc
      exact goal_lw hs fun d m hd => next_sound hi he ho hq (by simpa [LOp.sem] using hd)
    · cases hc
  | call c =>
    rw [ho] at hc
    exact call_goal hcp hci hG hi he ho hc hs
  | makeInterface t x =>
    rw [ho] at hc
    simp only [compOp] at hc
    split at hc
    · cases hc
    · rename_i u hni hu
      obtain ⟨q, hq, rfl, rfl⟩ := one_inv hc
      exact goal_p hs fun d hd => mkI_sound hi he ho hq hu (fun m e => hni m e) (by simpa [POp.sem] using hd)
    · cases hc
  | typeAssert x t u ok =>
    rw [ho] at hc
    cases ok <;> simp only [compOp, reduceCtorEq] at hc
    split at hc
    · cases hc
    · rename_i td hni hu
      split at hc
      · rename_i z hz
        obtain ⟨q, hq, rfl, rfl⟩ := one_inv hc
        exact goal_p hs fun d hd => tyA_sound hi he ho hq hu (fun m e => hni m e) hz (by simpa [POp.sem] using hd)
      · cases hc
    · cases hc
  | makeSlice t l c =>
    rw [ho] at hc
    simp only [compOp] at hc
    split at hc
    · rename_i e hu
      split at hc
      · rename_i i hi1
        split at hc
        · rename_i z hz
          split at hc
          · rename_i hcond
            obtain ⟨h1, h2, h3⟩ := hcond
            obtain ⟨p, q, hp, hq, rfl, rfl⟩ := two_inv hc
            exact goal_s hs fun d σ' hd => makeS_sound hi he ho hu hi1 hz h1 h2 h3 hp hq (by simpa [SOp.sem] using hd)
          · cases hc
        · cases hc
      · cases hc
    · cases hc
  | _ => rw [ho] at hc; simp [compOp] at hc

end

end Go.Proofs.YtdnoonnanhnkaaaDoor
