/- Texts of this proof, part 3: see the card for what is proved. -/
import Derived.Test.YtdibpeknpmhknaaGreatSq02
set_option linter.unusedVariables false
set_option linter.unusedSimpArgs false
namespace Go.Proofs.YtdibpeknpmhknaaGreat
open Go
abbrev Qj := Nat → List Qa → Option Qa
abbrev Qk := Nat → List Qa → Sto → Option (Qa × Sto)
def wantP (x : Qa) (b : Bool) (o : Option Qa) : Option Qa := if x.isB b then o else some .undef
def wantS (x : Qa) (b : Bool) (σ : Sto) (o : Option (Qa × Sto)) : Option (Qa × Sto) := if x.isB b then o else some (.undef, σ)
def Qi (C : Qj) (f : Nat) (xs : List Qa) : Option Qa := (Zv xs).bind λys=> (C f ys).map Qa.stale
def Vp (C : Qj) (f : Nat) (σ : Sto) (xs : List Qa) : Option (Qa × Sto) := (Zv xs).bind λys=> (C f ys).map (ZG σ)
def Q5 (I : Qk) (f : Nat) (σ : Sto) (xs : List Qa) : Option (Qa × Sto) := if xs.all Qa.okVal then I f xs σ else none
class Kt (α : Type) where
 f : α
def bnd (x : Option Qa) [k : Kt (Qa → Option Out)] : Option Out := bndP x k.f
def bns (x : Option (Qa × Sto)) [k : Kt (Qa → Sto → Option Out)] : Option Out := bndS x k.f
def itK (c : Qa) [a : Kt (Option Out)] [b : Kt (Option Out)] : Option Out := iteJ c a.f b.f
def wnP (x : Qa) (b : Bool) [o : Kt (Option Qa)] : Option Qa := wantP x b o.f
def wnS (x : Qa) (b : Bool) (σ : Sto) [o : Kt (Option (Qa × Sto))] : Option (Qa × Sto) := wantS x b σ o.f
def QB (o : Option Out) : Option Qa :=
 (match o with
 | some (.done v σ) => (v.handBack σ).map λu=> (u, Qd)
 | _ => none).map Prod.fst
def Xf (o : Option Out) : Option (Qa × Sto) :=
 match o with
 | some (.done v σ') => some (v, σ')
 | _ => none
@[simp] theorem finP_done (v : Qa) (σ : Sto) : QB (some (.done v σ)) = v.handBack σ := by simp [QB, Function.comp_def]
@[simp] theorem finI_done (v : Qa) (σ : Sto) : Xf (some (.done v σ)) = some (v, σ) := rfl
@[simp] theorem bnd_some (v : Qa) (k : Kt (Qa → Option Out)) : @bnd (some v) k = k.f v := rfl
@[simp] theorem bns_some (v : Qa) (σ : Sto) (k : Kt (Qa → Sto → Option Out)) : @bns (some (v, σ)) k = k.f v σ := rfl
noncomputable def XL {α : Type} (p : Prop) (a b : α) : α := @ite α p (Classical.propDecidable p) a b
@[simp] theorem iteQ_true {α : Type} (a b : α) : XL True a b = a := by simp [XL]
@[simp] theorem iteQ_false {α : Type} (a b : α) : XL False a b = b := by simp [XL]
theorem HO {α : Type} {p : Prop} {a b : α} (h : p) : XL p a b = a := by simp [XL, h]
theorem iteQ_neg {α : Type} {p : Prop} {a b : α} (h : ¬ p) : XL p a b = b := by simp [XL, h]
@[simp] theorem iteQ_same {α : Type} (p : Prop) (a : α) : XL p a a = a := by simp [XL]
theorem iteQ_eq {α : Type} (p : Prop) [Decidable p] (a b : α) : XL p a b = if p then a else b := by by_cases h : p <;> simp [XL, h]
theorem Va {α β : Type} (f : α → β) (p : Prop) (a b : α) : f (XL p a b) = XL p (f a) (f b) := by by_cases h : p <;> simp [XL, h]
@[congr] theorem iteQ_congr {α : Type} {p p' n' : Prop} {a a' b b' : α} (hp : p = p') (hn : (¬ p) = n') (ha : p' → a = a') (hb : n' → b = b') : XL p a b = XL p' a' b' := by
 subst hp
 by_cases h : p
 ·rw [HO h, HO h, ha h]
 ·rw [iteQ_neg h, iteQ_neg h, hb (by rw [← hn]; exact h)]
@[simp] theorem itK_bool (c : Bool) (a b : Kt (Option Out)) : @itK (.bool c) a b = XL (c = true) a.f b.f := by cases c <;> simp [itK, iteJ]
@[simp] theorem retJ_some (v : Qa) (σ : Sto) : Qp (some v) σ = some (.done v σ) := rfl
@[simp] theorem joinJ_next (l : Nat) (k : List Qa → Sto → Option Out) (vs : List Qa) (σ : Sto) : X_ l k (some (.next l vs σ)) = k vs σ := by simp [X_]
@[simp] theorem joinJ_done (l : Nat) (k : List Qa → Sto → Option Out) (v : Qa) (σ : Sto) : X_ l k (some (.done v σ)) = some (.done v σ) := rfl
theorem joinJ_other (l i : Nat) (k : List Qa → Sto → Option Out) (vs : List Qa) (σ : Sto) (h : i ≠ l) : X_ l k (some (.next i vs σ)) = some (.next i vs σ) := by simp [X_, h]
theorem UP (l : Nat) (f : List Qa → Sto → Option Out) (m : Nat) (vs : List Qa) (σ : Sto) : Qv l f (m + 1) vs σ = match f vs σ with
  | some (.next i vs' σ') => if i = l then Qv l f m vs' σ' else some (.next i vs' σ')
  | r => r := rfl
theorem Qx {l : Nat} {f : List Qa → Sto → Option Out} {m : Nat} {vs vs' : List Qa} {σ σ' : Sto} (h : f vs σ = some (.next l vs' σ')) : Qv l f (m + 1) vs σ = Qv l f m vs' σ' := by
 rw [UP, h]; simp
theorem Qt {l : Nat} {f : List Qa → Sto → Option Out} {m : Nat} {vs : List Qa} {σ σ' : Sto} {v : Qa} (h : f vs σ = some (.done v σ')) : Qv l f (m + 1) vs σ = some (.done v σ') := by
 rw [UP, h]
theorem YV {l i : Nat} {f : List Qa → Sto → Option Out} {m : Nat} {vs vs' : List Qa} {σ σ' : Sto} (h : f vs σ = some (.next i vs' σ')) (hi : i ≠ l) : Qv l f (m + 1) vs σ = some (.next i vs' σ') := by
 rw [UP, h]; simp [hi]
noncomputable def gv (p : Prop) (v : Qa) : Qa := XL p v .undef
@[simp] theorem gv_true (v : Qa) : gv True v = v := by simp [gv]
@[simp] theorem gv_false (v : Qa) : gv False v = .undef := by simp [gv]
noncomputable def V7 (p : Prop) (o : Option Qa) : Option Qa := XL p o (some .undef)
@[simp] theorem wantQ_true (o : Option Qa) : V7 True o = o := by simp [V7]
@[simp] theorem wantQ_false (o : Option Qa) : V7 False o = some .undef := by simp [V7]
@[simp] theorem wantQ_some (p : Prop) (v : Qa) : V7 p (some v) = some (gv p v) := by by_cases h : p <;> simp [h]
@[congr] theorem wantQ_congr {p p' : Prop} {o o' : Option Qa} (hp : p = p') (ho : p' → o = o') : V7 p o = V7 p' o' := by
 subst hp
 by_cases h : p
 ·rw [ho h]
 ·simp [h]
@[simp] theorem wnP_t (c : Bool) (o : Kt (Option Qa)) : @wnP (.bool c) true o = V7 (c = true) o.f := by cases c <;> simp [wnP, wantP, Qa.isB]
@[simp] theorem wnP_f (c : Bool) (o : Kt (Option Qa)) : @wnP (.bool c) false o = V7 (c = false) o.f := by cases c <;> simp [wnP, wantP, Qa.isB]
@[simp] theorem wnS_t (c : Bool) (σ : Sto) (o : Kt (Option (Qa × Sto))) : @wnS (.bool c) true σ o = XL (c = true) o.f (some (.undef, σ)) := by cases c <;> simp [wnS, wantS, Qa.isB]
@[simp] theorem wnS_f (c : Bool) (σ : Sto) (o : Kt (Option (Qa × Sto))) : @wnS (.bool c) false σ o = XL (c = false) o.f (some (.undef, σ)) := by cases c <;> simp [wnS, wantS, Qa.isB]
@[simp] theorem wnP_gt (q : Prop) (c : Bool) (o : Kt (Option Qa)) : @wnP (gv q (.bool c)) true o = V7 (q ∧ c = true) o.f := by
 by_cases h : q <;> cases c <;> simp [h, wnP, wantP, Qa.isB]
@[simp] theorem wnP_gf (q : Prop) (c : Bool) (o : Kt (Option Qa)) : @wnP (gv q (.bool c)) false o = V7 (q ∧ c = false) o.f := by
 by_cases h : q <;> cases c <;> simp [h, wnP, wantP, Qa.isB]
@[simp] theorem pick_true (a b : Qa) : Qe [.bool true, a, b] = some a := rfl
@[simp] theorem pick_false (a b : Qa) : Qe [.bool false, a, b] = some b := rfl
@[simp] theorem pick_and {c a : Bool} {p : Prop} (h : (c = true) ↔ p) : Qe [.bool c, gv p (.bool a), .bool false] = some (.bool (c && a)) := by
 cases c
 ·rfl
 ·have : p := h.1 rfl
  simp [this]
@[simp] theorem pick_or {c a : Bool} {p : Prop} (h : (c = false) ↔ p) : Qe [.bool c, .bool true, gv p (.bool a)] = some (.bool (c || a)) := by
 cases c
 ·have : p := h.1 rfl
  simp [this]
 ·rfl
@[simp] theorem joinJ_ite (l : Nat) (k : List Qa → Sto → Option Out) (p : Prop) (a b : Option Out) : X_ l k (XL p a b) = XL p (X_ l k a) (X_ l k b) := Va _ _ _ _
@[simp] theorem finP_ite (p : Prop) (a b : Option Out) : QB (XL p a b) = XL p (QB a) (QB b) := Va _ _ _ _
@[simp] theorem finI_ite (p : Prop) (a b : Option Out) : Xf (XL p a b) = XL p (Xf a) (Xf b) := Va _ _ _ _
@[simp] theorem bns_ite (p : Prop) (a b : Option (Qa × Sto)) (k : Kt (Qa → Sto → Option Out)) : @bns (XL p a b) k = XL p (@bns a k) (@bns b k) := Va (λx=> @bns x k) _ _ _
theorem upd_apply' {α : Type} (f : Nat → α) (a b : Nat) (v : α) : upd f a v b = if b = a then v else f b := rfl
@[simp] theorem upd_upd {α : Type} (f : Nat → α) (a : Nat) (v u : α) : upd (upd f a v) a u = upd f a u := by funext b; simp only [upd]; split <;> rfl
attribute [simp] Qm.eq_1 Qh.eq_1 jrngSem.eq_1 jnxSem.eq_1 Qg.eq_1 Qg.eq_2 POp.sem.eq_1 POp.sem.eq_2 POp.sem.eq_3 POp.sem.eq_4 POp.sem.eq_5 POp.sem.eq_6 POp.sem.eq_7 POp.sem.eq_8 POp.sem.eq_9 POp.sem.eq_10 POp.sem.eq_11 POp.sem.eq_12 POp.sem.eq_13 POp.sem.eq_14 POp.sem.eq_15 POp.sem.eq_16 POp.sem.eq_17 POp.sem.eq_18 POp.sem.eq_19 POp.sem.eq_20 POp.sem.eq_21 POp.sem.eq_22 POp.sem.eq_23 POp.sem.eq_24 POp.sem.eq_25 POp.sem.eq_26 POp.sem.eq_27 POp.sem.eq_28 POp.sem.eq_29 POp.sem.eq_30 POp.sem.eq_31 POp.sem.eq_32 Qa.cells.eq_1 Qa.cells.eq_2 Qa.okCell.eq_1 Qa.okCell.eq_2 Qa.okCell.eq_3 Qa.okCell.eq_4 Qa.okCell.eq_5 Qa.okCell.eq_6 Qa.okCell.eq_7 Qa.okCell.eq_8 Z0.eq_1 Z0.eq_2 QX.eq_1 Q4.eq_1 Qa.shift.eq_1 Qa.shift.eq_2 Qa.shift.eq_3 Qu.eq_1 Qc.eq_1 VL.eq_1 VL.eq_2 VL.eq_3 VL.eq_4 Xq.eq_1 Xq.eq_2 Xq.eq_3 Xq.eq_4 Xq.eq_5 Xq.eq_6 Xq.eq_7 Xq.eq_8 Xq.eq_9 Xq.eq_10 Xq.eq_11 Xq.eq_12 Xq.eq_13 Xq.eq_14 Xq.eq_15 QW.eq_1 QW.eq_2 QW.eq_3 QW.eq_4 QW.eq_5 QW.eq_6 QW.eq_7 UU.eq_1 J6.eq_1 YF.eq_1 QZ.eq_1 QM.eq_1 QM.eq_2 Wy.eq_1 Wy.eq_2 Wy.eq_3 QV.eq_1 Qa.isNil.eq_1 Qa.isNil.eq_2 Qa.isNil.eq_3 Qa.isNil.eq_4 Qa.isNil.eq_5 Qa.isNil.eq_6 Qa.isNil.eq_7 Qa.isNil.eq_8 Qa.isNil.eq_9 Qa.isNil.eq_10 Qa.isNil.eq_11 Qa.isNil.eq_12 Qa.isNil.eq_13 Qa.isNil.eq_14 Q0.eq_1 Q0.eq_2 Q0.eq_3 Q0.eq_4 Q0.eq_5 Qa.okVal.eq_1 Qa.okVal.eq_2 Qa.handBack.eq_1 Qa.handBack.eq_2 Qa.handBack.eq_3 Qa.sealVal.eq_1 Qa.sealVal.eq_2 Qa.sealCell.eq_1 Qa.sealCell.eq_2 Qa.sealCell.eq_3 Qa.sealCell.eq_4 Qa.sealCell.eq_5 Qa.sealCell.eq_6 Qa.sealCell.eq_7 Qa.sealCell.eq_8 Qa.sealCell.eq_9 Qa.sealCell.eq_10 Qa.sealCell.eq_11 Zv.eq_1 Zv.eq_2 QN.eq_1 QN.eq_2 Qa.stale.eq_1 Qa.stale.eq_2 mxSem.eq_1 mnSem.eq_1 Qq.eq_1 Qq.eq_2 Zb.eq_1 Z4.eq_1 Qb.eq_1 Ql.eq_1 Qs.eq_1 ZN.eq_1 ZN.eq_2 ZX.eq_1 ZX.eq_2 Jx.eq_1 XU.eq_1 XU.eq_2 XU.eq_3 Zu.eq_1 Qf.eq_1 Qf.eq_2 Qf.eq_3 Qf.eq_4 QI.eq_1 QI.eq_2 QI.eq_3 QI.eq_4 QI.eq_5 ZG.eq_1 ZG.eq_2 Q8.eq_2 YD.eq_1 ZM.eq_1 ZM.eq_2 ZM.eq_3 ZM.eq_4 ZM.eq_5 ZM.eq_6 goI.eq_1 Qi.eq_1 Vp.eq_1 Q5.eq_1 upd_apply' mkISem.eq_1 E0.eq_1 E0.eq_2 Jg.eq_1 Qa.plain.eq_1 Qa.plain.eq_2 Qa.plainCell.eq_1 Qa.plainCell.eq_2 Qa.plainCell.eq_3
end Go.Proofs.YtdibpeknpmhknaaGreat
