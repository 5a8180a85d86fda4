/- Programs of trees: every call that the trees answer, the model answers so. -/
import Derived.Test.YtdnoonnanhnkaaaDoorTreeCode
import Derived.Test.YtdnoonnanhnkaaaDoorSimFun
set_option linter.unusedVariables false
set_option linter.unusedSimpArgs false
namespace Go.Proofs.YtdnoonnanhnkaaaDoor
open Go Go.RowKit

def treeOf (P : Program) (h : Hint) (fn : Func) : Option (Nat × T) :=
  match compFunc P h fn with
  | some F => (symbFun F).map fun t => (F.npar, t)
  | none => none

/-- A function whose tree is known. -/
def KnowsJ (P : Program) (f : FuncId) (np : Nat) (t : T) : Prop := ∃ fn h, P.funcs[f]? = some fn ∧ (fn.name == "runtime.NumGoroutine") = false ∧ treeOf P h fn = some (np, t)

theorem KnowsJ.knows {P : Program} {f : FuncId} {np : Nat} {t : T} (hk : KnowsJ P f np t) : ∃ F, Knows P f F ∧ F.npar = np ∧ symbFun F = some t := by
  obtain ⟨fn, h, h1, h2, h3⟩ := hk
  unfold treeOf at h3
  split at h3
  · rename_i F hF
    simp only [Option.map_eq_some_iff, Prod.mk.injEq] at h3
    obtain ⟨t', ht, rfl, rfl⟩ := h3
    exact ⟨F, ⟨fn, h, h1, h2, hF⟩, rfl, ht⟩
  · cases h3

theorem evJ_sound {P : Program} {Gl : List (Nat × Value)} {prog : Nat → Option JFun} (hb : ∀ f np t, prog f = some (.body np t) → KnowsJ P f np t) (hp : ∀ f sem, prog f = some (.prim sem) → PureOk P Gl f sem) :
    ∀ n, (∀ f, PureOk P Gl f (cpJ prog n f)) ∧ ∀ f, ImpOk P Gl f (ciJ prog n f)
  | 0 => ⟨fun f I w ds vs r _ _ _ hr => by simp [cpJ, evJ] at hr, fun f V σ σ' w ds vs r _ _ _ hr => by simp [ciJ, evJ] at hr⟩
  | n + 1 => by
    obtain ⟨ihp, ihi⟩ := evJ_sound hb hp n
    refine ⟨fun f I w ds vs r hI hG hv hr => ?_, fun f V σ σ' w ds vs r hi hG hv hr => ?_⟩
    · unfold cpJ evJ at hr
      split at hr
      · rename_i np t hF
        obtain ⟨F, hk, rfl, ht⟩ := (hb f np t hF).knows
        split at hr
        · rename_i hlen
          split at hr
          · rename_i v σ hd
            simp only [Option.map_eq_some_iff] at hr
            obtain ⟨x, ⟨z, hz, rfl⟩, rfl⟩ := hr
            have hy := symbFun_sound ht hlen hd
            refine ⟨hk.callable, ?_⟩
            refine (fun_sound (cp := cpJ prog n) (ci := ciJ prog n) ihp ihi hk VI_inv (hG.ext fun b n hn => ⟨VI_imm.2 ⟨hI b n hn, hn⟩, rfl⟩) hv.open' hy).mono ?_
            rintro e w' ⟨v, V', rfl, ha, hinv, hrel⟩
            obtain ⟨q1, q2⟩ := hand_sound ha hinv hrel hz
            exact ⟨v, rfl, q1, q2⟩
          · simp at hr
        · simp at hr
      · rename_i sem hF
        simp only [Option.map_eq_some_iff] at hr
        obtain ⟨x, ⟨y, hy, rfl⟩, rfl⟩ := hr
        exact hp f sem hF I w ds vs y hI hG hv hy
      · simp at hr
    · unfold ciJ evJ at hr
      split at hr
      · rename_i np t hF
        obtain ⟨F, hk, rfl, ht⟩ := (hb f np t hF).knows
        split at hr
        · rename_i hlen
          split at hr
          · rename_i v σ2 hd
            simp only [Option.some.injEq, Prod.mk.injEq] at hr
            obtain ⟨rfl, rfl⟩ := hr
            have hy := symbFun_sound ht hlen hd
            exact ⟨hk.callable, fun_sound (cp := cpJ prog n) (ci := ciJ prog n) ihp ihi hk hi hG hv.open' hy⟩
          · simp at hr
        · simp at hr
      · cases hr

/-! A program as a list -/

def hintJ (slots fns : List (Nat × Nat)) (pts : List Nat := []) : Hint := { slot := fun n => (slots.lookup n).getD 0, fn := fun n => (fns.lookup n).getD 0, pt := fun t => pts.contains t }

def JOk (P : Program) (Gl : List (Nat × Value)) : Nat × JFun → Prop
  | (f, .body np t) => KnowsJ P f np t
  | (f, .prim sem) => PureOk P Gl f sem

def AllJ (P : Program) (Gl : List (Nat × Value)) : List (Nat × JFun) → Prop
  | [] => True
  | p :: ps => JOk P Gl p ∧ AllJ P Gl ps

def progJ (t : List (Nat × JFun)) : Nat → Option JFun := fun f => t.lookup f

theorem AllJ.get {P : Program} {Gl : List (Nat × Value)} : ∀ {t : List (Nat × JFun)}, AllJ P Gl t → ∀ {f : Nat} {x : JFun}, t.lookup f = some x → JOk P Gl (f, x)
  | [], _, f, x, h => by simp at h
  | p :: ps, ha, f, x, h => by
    obtain ⟨q, y⟩ := p
    simp only [AllJ] at ha
    rw [List.lookup_cons] at h
    split at h
    · rename_i e
      simp only [Option.some.injEq] at h
      subst h
      have : f = q := by simpa using e
      subst this
      exact ha.1
    · exact ha.2.get h

theorem allJ_sound {P : Program} {Gl : List (Nat × Value)} {t : List (Nat × JFun)} (h : AllJ P Gl t) (n : Nat) : (∀ f, PureOk P Gl f (cpJ (progJ t) n f)) ∧ ∀ f, ImpOk P Gl f (ciJ (progJ t) n f) :=
  evJ_sound (fun f np t hF => h.get hF) (fun f sem hF => h.get hF) n

end Go.Proofs.YtdnoonnanhnkaaaDoor
