/- The words in which the tool prints what trees denote, and rules by which simp computes with them. -/
import Derived.Test.YtdnoonnanhnkaaaDoorTreeFun
set_option linter.unusedVariables false
set_option linter.unusedSimpArgs false
namespace Go.Proofs.YtdnoonnanhnkaaaDoor
open Go

abbrev CallP := Nat → List DVal → Option DVal
abbrev CallI := Nat → List DVal → Sto → Option (DVal × Sto)

def wantP (x : DVal) (b : Bool) (o : Option DVal) : Option DVal := if x.isB b then o else some .undef
def wantS (x : DVal) (b : Bool) (σ : Sto) (o : Option (DVal × Sto)) : Option (DVal × Sto) := if x.isB b then o else some (.undef, σ)
def callPS (C : CallP) (f : Nat) (xs : List DVal) : Option DVal := (sealVals xs).bind fun ys => (C f ys).map DVal.stale
def callFS (C : CallP) (f : Nat) (σ : Sto) (xs : List DVal) : Option (DVal × Sto) := (sealVals xs).bind fun ys => (C f ys).map (importVal σ)
def callIS (I : CallI) (f : Nat) (σ : Sto) (xs : List DVal) : Option (DVal × Sto) := if xs.all DVal.okVal then I f xs σ else none

/-- Something that simp leaves alone till it is asked for: it stands in the place of an instance. -/
class Kt (α : Type) where
  f : α

def bnd (x : Option DVal) [k : Kt (DVal → Option Out)] : Option Out := bndP x k.f
def bns (x : Option (DVal × Sto)) [k : Kt (DVal → Sto → Option Out)] : Option Out := bndS x k.f
def itK (c : DVal) [a : Kt (Option Out)] [b : Kt (Option Out)] : Option Out := iteJ c a.f b.f
def wnP (x : DVal) (b : Bool) [o : Kt (Option DVal)] : Option DVal := wantP x b o.f
def wnS (x : DVal) (b : Bool) (σ : Sto) [o : Kt (Option (DVal × Sto))] : Option (DVal × Sto) := wantS x b σ o.f

def finP (o : Option Out) : Option DVal :=
  (match o with
  | some (.done v σ) => (v.handBack σ).map fun u => (u, emptySto)
  | _ => none).map Prod.fst
def finI (o : Option Out) : Option (DVal × Sto) :=
  match o with
  | some (.done v σ') => some (v, σ')
  | _ => none

@[simp] theorem finP_done (v : DVal) (σ : Sto) : finP (some (.done v σ)) = v.handBack σ := by simp [finP, Function.comp_def]
@[simp] theorem finI_done (v : DVal) (σ : Sto) : finI (some (.done v σ)) = some (v, σ) := rfl
@[simp] theorem bnd_some (v : DVal) (k : Kt (DVal → Option Out)) : @bnd (some v) k = k.f v := rfl
@[simp] theorem bns_some (v : DVal) (σ : Sto) (k : Kt (DVal → Sto → Option Out)) : @bns (some (v, σ)) k = k.f v σ := rfl

/-- A branch by a proposition: simp goes into each side with what is known there. -/
noncomputable def iteQ {α : Type} (p : Prop) (a b : α) : α := @ite α p (Classical.propDecidable p) a b
@[simp] theorem iteQ_true {α : Type} (a b : α) : iteQ True a b = a := by simp [iteQ]
@[simp] theorem iteQ_false {α : Type} (a b : α) : iteQ False a b = b := by simp [iteQ]
theorem iteQ_pos {α : Type} {p : Prop} {a b : α} (h : p) : iteQ p a b = a := by simp [iteQ, h]
theorem iteQ_neg {α : Type} {p : Prop} {a b : α} (h : ¬ p) : iteQ p a b = b := by simp [iteQ, h]
@[simp] theorem iteQ_same {α : Type} (p : Prop) (a : α) : iteQ p a a = a := by simp [iteQ]
theorem iteQ_eq {α : Type} (p : Prop) [Decidable p] (a b : α) : iteQ p a b = if p then a else b := by by_cases h : p <;> simp [iteQ, h]
theorem iteQ_apply {α β : Type} (f : α → β) (p : Prop) (a b : α) : f (iteQ p a b) = iteQ p (f a) (f b) := by by_cases h : p <;> simp [iteQ, h]
@[congr] theorem iteQ_congr {α : Type} {p p' n' : Prop} {a a' b b' : α} (hp : p = p') (hn : (¬ p) = n') (ha : p' → a = a') (hb : n' → b = b') : iteQ p a b = iteQ p' a' b' := by
  subst hp
  by_cases h : p
  · rw [iteQ_pos h, iteQ_pos h, ha h]
  · rw [iteQ_neg h, iteQ_neg h, hb (by rw [← hn]; exact h)]

@[simp] theorem itK_bool (c : Bool) (a b : Kt (Option Out)) : @itK (.bool c) a b = iteQ (c = true) a.f b.f := by cases c <;> simp [itK, iteJ]
@[simp] theorem retJ_some (v : DVal) (σ : Sto) : retJ (some v) σ = some (.done v σ) := rfl
@[simp] theorem joinJ_next (l : Nat) (k : List DVal → Sto → Option Out) (vs : List DVal) (σ : Sto) : joinJ l k (some (.next l vs σ)) = k vs σ := by simp [joinJ]
@[simp] theorem joinJ_done (l : Nat) (k : List DVal → Sto → Option Out) (v : DVal) (σ : Sto) : joinJ l k (some (.done v σ)) = some (.done v σ) := rfl
theorem joinJ_other (l i : Nat) (k : List DVal → Sto → Option Out) (vs : List DVal) (σ : Sto) (h : i ≠ l) : joinJ l k (some (.next i vs σ)) = some (.next i vs σ) := by simp [joinJ, h]
theorem iterJ_succ (l : Nat) (f : List DVal → Sto → Option Out) (m : Nat) (vs : List DVal) (σ : Sto) : iterJ l f (m + 1) vs σ = match f vs σ with
    | some (.next i vs' σ') => if i = l then iterJ l f m vs' σ' else some (.next i vs' σ')
    | r => r := rfl

/-- A round of a loop. -/
theorem iterJ_next' {l : Nat} {f : List DVal → Sto → Option Out} {m : Nat} {vs vs' : List DVal} {σ σ' : Sto} (h : f vs σ = some (.next l vs' σ')) : iterJ l f (m + 1) vs σ = iterJ l f m vs' σ' := by
  rw [iterJ_succ, h]; simp
theorem iterJ_done {l : Nat} {f : List DVal → Sto → Option Out} {m : Nat} {vs : List DVal} {σ σ' : Sto} {v : DVal} (h : f vs σ = some (.done v σ')) : iterJ l f (m + 1) vs σ = some (.done v σ') := by
  rw [iterJ_succ, h]
theorem iterJ_out {l i : Nat} {f : List DVal → Sto → Option Out} {m : Nat} {vs vs' : List DVal} {σ σ' : Sto} (h : f vs σ = some (.next i vs' σ')) (hi : i ≠ l) : iterJ l f (m + 1) vs σ = some (.next i vs' σ') := by
  rw [iterJ_succ, h]; simp [hi]

/-- A loop answers R wherever its invariant holds: k: at most so many rounds are left. -/
theorem iterJ_inv {l : Nat} {f : List DVal → Sto → Option Out} (Inv : Nat → List DVal → Sto → Prop) (R : Out → Prop)
    (step : ∀ k vs σ, Inv k vs σ → ∃ o, f vs σ = some o ∧ ((∃ vs' σ' j, o = .next l vs' σ' ∧ j < k ∧ Inv j vs' σ') ∨ ((∀ vs' σ', o ≠ .next l vs' σ') ∧ R o))) :
    ∀ (k m : Nat) (vs : List DVal) (σ : Sto), k < m → Inv k vs σ → ∃ o, iterJ l f m vs σ = some o ∧ R o := by
  intro k
  induction k using Nat.strongRecOn with
  | _ k ih =>
    intro m vs σ hm hI
    obtain ⟨o, h1, h2⟩ := step k vs σ hI
    obtain ⟨m, rfl⟩ : ∃ q, m = q + 1 := ⟨m - 1, by omega⟩
    rcases h2 with ⟨vs', σ', j, rfl, hj, hI'⟩ | ⟨hne, hR⟩
    · rw [iterJ_next' h1]
      exact ih j hj m vs' σ' (by omega) hI'
    · refine ⟨o, ?_, hR⟩
      cases o with
      | done v τ => exact iterJ_done h1
      | next i us τ => exact iterJ_out h1 (fun e => hne us τ (by rw [e]))

/-- A value that is there if p holds. -/
noncomputable def gv (p : Prop) (v : DVal) : DVal := iteQ p v .undef
@[simp] theorem gv_true (v : DVal) : gv True v = v := by simp [gv]
@[simp] theorem gv_false (v : DVal) : gv False v = .undef := by simp [gv]
/-- An operation that is done if p holds. -/
noncomputable def wantQ (p : Prop) (o : Option DVal) : Option DVal := iteQ p o (some .undef)
@[simp] theorem wantQ_true (o : Option DVal) : wantQ True o = o := by simp [wantQ]
@[simp] theorem wantQ_false (o : Option DVal) : wantQ False o = some .undef := by simp [wantQ]
@[simp] theorem wantQ_some (p : Prop) (v : DVal) : wantQ p (some v) = some (gv p v) := by by_cases h : p <;> simp [h]
@[congr] theorem wantQ_congr {p p' : Prop} {o o' : Option DVal} (hp : p = p') (ho : p' → o = o') : wantQ p o = wantQ p' o' := by
  subst hp
  by_cases h : p
  · rw [ho h]
  · simp [h]
@[simp] theorem wnP_t (c : Bool) (o : Kt (Option DVal)) : @wnP (.bool c) true o = wantQ (c = true) o.f := by cases c <;> simp [wnP, wantP, DVal.isB]
@[simp] theorem wnP_f (c : Bool) (o : Kt (Option DVal)) : @wnP (.bool c) false o = wantQ (c = false) o.f := by cases c <;> simp [wnP, wantP, DVal.isB]
@[simp] theorem wnS_t (c : Bool) (σ : Sto) (o : Kt (Option (DVal × Sto))) : @wnS (.bool c) true σ o = iteQ (c = true) o.f (some (.undef, σ)) := by cases c <;> simp [wnS, wantS, DVal.isB]
@[simp] theorem wnS_f (c : Bool) (σ : Sto) (o : Kt (Option (DVal × Sto))) : @wnS (.bool c) false σ o = iteQ (c = false) o.f (some (.undef, σ)) := by cases c <;> simp [wnS, wantS, DVal.isB]
@[simp] theorem wnP_gt (q : Prop) (c : Bool) (o : Kt (Option DVal)) : @wnP (gv q (.bool c)) true o = wantQ (q ∧ c = true) o.f := by
  by_cases h : q <;> cases c <;> simp [h, wnP, wantP, DVal.isB]
@[simp] theorem wnP_gf (q : Prop) (c : Bool) (o : Kt (Option DVal)) : @wnP (gv q (.bool c)) false o = wantQ (q ∧ c = false) o.f := by
  by_cases h : q <;> cases c <;> simp [h, wnP, wantP, DVal.isB]
@[simp] theorem pick_true (a b : DVal) : pickSem [.bool true, a, b] = some a := rfl
@[simp] theorem pick_false (a b : DVal) : pickSem [.bool false, a, b] = some b := rfl
@[simp] theorem pick_and {c a : Bool} {p : Prop} (h : (c = true) ↔ p) : pickSem [.bool c, gv p (.bool a), .bool false] = some (.bool (c && a)) := by
  cases c
  · rfl
  · have : p := h.1 rfl
    simp [this]
@[simp] theorem pick_or {c a : Bool} {p : Prop} (h : (c = false) ↔ p) : pickSem [.bool c, .bool true, gv p (.bool a)] = some (.bool (c || a)) := by
  cases c
  · have : p := h.1 rfl
    simp [this]
  · rfl
theorem pick_any (c : Bool) (a b : DVal) : pickSem [.bool c, a, b] = some (iteQ (c = true) a b) := by cases c <;> simp

@[simp] theorem joinJ_ite (l : Nat) (k : List DVal → Sto → Option Out) (p : Prop) (a b : Option Out) : joinJ l k (iteQ p a b) = iteQ p (joinJ l k a) (joinJ l k b) := iteQ_apply _ _ _ _
@[simp] theorem finP_ite (p : Prop) (a b : Option Out) : finP (iteQ p a b) = iteQ p (finP a) (finP b) := iteQ_apply _ _ _ _
@[simp] theorem finI_ite (p : Prop) (a b : Option Out) : finI (iteQ p a b) = iteQ p (finI a) (finI b) := iteQ_apply _ _ _ _
@[simp] theorem bns_ite (p : Prop) (a b : Option (DVal × Sto)) (k : Kt (DVal → Sto → Option Out)) : @bns (iteQ p a b) k = iteQ p (@bns a k) (@bns b k) := iteQ_apply (fun x => @bns x k) _ _ _

theorem upd_apply' {α : Type} (f : Nat → α) (a b : Nat) (v : α) : upd f a v b = if b = a then v else f b := rfl
@[simp] theorem upd_upd {α : Type} (f : Nat → α) (a : Nat) (v u : α) : upd (upd f a v) a u = upd f a u := by funext b; simp only [upd]; split <;> rfl

attribute [simp] jboxSem.eq_1 jwrSem.eq_1 jrngSem.eq_1 jnxSem.eq_1 resEx.eq_1 resEx.eq_2 POp.sem.eq_1 POp.sem.eq_2 POp.sem.eq_3 POp.sem.eq_4 POp.sem.eq_5 POp.sem.eq_6 POp.sem.eq_7 POp.sem.eq_8 POp.sem.eq_9 POp.sem.eq_10 POp.sem.eq_11 POp.sem.eq_12 POp.sem.eq_13 POp.sem.eq_14 POp.sem.eq_15 POp.sem.eq_16 POp.sem.eq_17 POp.sem.eq_18 POp.sem.eq_19 POp.sem.eq_20 POp.sem.eq_21 POp.sem.eq_22 POp.sem.eq_23 POp.sem.eq_24 POp.sem.eq_25 POp.sem.eq_26 POp.sem.eq_27 POp.sem.eq_28 POp.sem.eq_29 POp.sem.eq_30 POp.sem.eq_31 DVal.cells.eq_1 DVal.cells.eq_2 DVal.okCell.eq_1 DVal.okCell.eq_2 DVal.okCell.eq_3 DVal.okCell.eq_4 DVal.okCell.eq_5 DVal.okCell.eq_6 DVal.okCell.eq_7 DVal.okCell.eq_8 readCells.eq_1 readCells.eq_2 writeCells.eq_1 offSem.eq_1 DVal.shift.eq_1 DVal.shift.eq_2 DVal.shift.eq_3 mvSem.eq_1 bin2Sem.eq_1 binSem.eq_1 binSem.eq_2 binSem.eq_3 binSem.eq_4 binInt.eq_1 binInt.eq_2 binInt.eq_3 binInt.eq_4 binInt.eq_5 binInt.eq_6 binInt.eq_7 binInt.eq_8 binInt.eq_9 binInt.eq_10 binInt.eq_11 binInt.eq_12 binInt.eq_13 binInt.eq_14 binInt.eq_15 binStr.eq_1 binStr.eq_2 binStr.eq_3 binStr.eq_4 binStr.eq_5 binStr.eq_6 binStr.eq_7 convSem.eq_1 convSSem.eq_1 eqbSem.eq_1 eqaSem.eq_1 cellsEq.eq_1 cellsEq.eq_2 cellEq.eq_1 cellEq.eq_2 cellEq.eq_3 isnilSem.eq_1 DVal.isNil.eq_1 DVal.isNil.eq_2 DVal.isNil.eq_3 DVal.isNil.eq_4 DVal.isNil.eq_5 DVal.isNil.eq_6 DVal.isNil.eq_7 DVal.isNil.eq_8 DVal.isNil.eq_9 DVal.isNil.eq_10 DVal.isNil.eq_11 DVal.isNil.eq_12 DVal.isNil.eq_13 unSem.eq_1 unSem.eq_2 unSem.eq_3 unSem.eq_4 unSem.eq_5 DVal.okVal.eq_1 DVal.okVal.eq_2 DVal.handBack.eq_1 DVal.handBack.eq_2 DVal.handBack.eq_3 DVal.sealVal.eq_1 DVal.sealVal.eq_2 DVal.sealCell.eq_1 DVal.sealCell.eq_2 DVal.sealCell.eq_3 DVal.sealCell.eq_4 DVal.sealCell.eq_5 DVal.sealCell.eq_6 DVal.sealCell.eq_7 DVal.sealCell.eq_8 DVal.sealCell.eq_9 DVal.sealCell.eq_10 sealVals.eq_1 sealVals.eq_2 sealCells.eq_1 sealCells.eq_2 DVal.stale.eq_1 DVal.stale.eq_2 mxSem.eq_1 mnSem.eq_1 idxSSem.eq_1 idxSSem.eq_2 idxASem.eq_1 idxStrSem.eq_1 fldSem.eq_1 ldESem.eq_1 extSem.eq_1 fillCells.eq_1 fillCells.eq_2 sealElems.eq_1 sealElems.eq_2 slcSSem.eq_1 slcVSem.eq_1 slcVSem.eq_2 lenStrSem.eq_1 lenSlSem.eq_1 lenSlSem.eq_2 lenSlSem.eq_3 nilchkSem.eq_1 nilchkSem.eq_2 nilchkSem.eq_3 nilchkSem.eq_4 nilchkSem.eq_5 importVal.eq_1 importVal.eq_2 ldOSem.eq_2 callVSem.eq_1 bounds.eq_1 bounds.eq_2 bounds.eq_3 bounds.eq_4 bounds.eq_5 bounds.eq_6 goI.eq_1 callPS.eq_1 callFS.eq_1 callIS.eq_1 upd_apply' mkISem.eq_1 tyASem.eq_1 tyASem.eq_2 callMSem.eq_1 DVal.plain.eq_1 DVal.plain.eq_2 DVal.plainCell.eq_1 DVal.plainCell.eq_2 DVal.plainCell.eq_3

end Go.Proofs.YtdnoonnanhnkaaaDoor
