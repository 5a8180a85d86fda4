/- Texts of this proof, part 2: see the card for what is proved. -/
import Derived.Test.YtdibpeknpmhknaaGreatSq01
set_option linter.unusedVariables false
set_option linter.unusedSimpArgs false
set_option maxRecDepth 100000
namespace Go.Proofs.YtdibpeknpmhknaaGreat
open Go
theorem Wb {α : Type} {k : Nat} {v : α} : ∀ {l : List (Nat × α)}, l.lookup k = some v → (k, v) ∈ l
 | [], h => by simp at h
 | (a, b) :: l, h => by
  rw [List.lookup_cons] at h
  split at h
  ·rename_i e
   have e : k = a := by simpa using e
   simp only [Option.some.injEq] at h
   subst h e
   exact List.mem_cons_self
  ·exact List.mem_cons_of_mem _ (Wb h)
def Gok (n : Nat) : Gd → Prop
 | none => True
 | some (i, _) => i < n
def Gi (ρ : List Qa) (L : Nat → Nat × Qa) (x : Qa) : SV → Prop
 | .ex e => e.ok ρ.length = true ∧ x = e.val ρ
 | .ptr r off g => Gok ρ.length g ∧ (gB ρ g = true → x = .loc r (L r).1 off)
structure Zt (s : SS) (ρ : List Qa) (st : St) : Prop where
 len : ρ.length = s.nv
 env : ∀ t sv, (t, sv) ∈ s.env → Gi ρ st.loc (st.env t) sv
 loc : ∀ r e g, (r, (e, g)) ∈ s.loc → e.ok ρ.length = true ∧ Gok ρ.length g ∧ (gB ρ g = true → (st.loc r).2 = e.val ρ)
theorem XG {ρ vs : List Qa} {e : Ex} (h : e.ok ρ.length = true) : e.ok (ρ ++ vs).length = true ∧ e.val (ρ ++ vs) = e.val ρ := by
 cases e with
 | k d => exact ⟨rfl, rfl⟩
 | v i =>
  have hi : i < ρ.length := by simpa [Ex.ok, Nat.blt_eq] using h
  refine ⟨by simp [Ex.ok, Nat.blt_eq]; omega, ?_⟩
  simp [Ex.val, List.getD_eq_getElem?_getD, List.getElem?_append_left hi]
theorem Zi {ρ vs : List Qa} {g : Gd} (h : Gok ρ.length g) : Gok (ρ ++ vs).length g ∧ gB (ρ ++ vs) g = gB ρ g := by
 cases g with
 | none => exact ⟨trivial, rfl⟩
 | some p =>
  obtain ⟨i, b⟩ := p
  simp only [Gok] at h
  refine ⟨by simp only [Gok, List.length_append]; omega, ?_⟩
  simp [gB, List.getD_eq_getElem?_getD, List.getElem?_append_left h]
theorem Gi.append {ρ vs : List Qa} {L : Nat → Nat × Qa} {x : Qa} {sv : SV} (h : Gi ρ L x sv) : Gi (ρ ++ vs) L x sv := by
 cases sv with
 | ex e => simp only [Gi] at h ⊢; exact ⟨(XG h.1).1, by rw [(XG h.1).2]; exact h.2⟩
 | ptr r off g => simp only [Gi] at h ⊢; exact ⟨(Zi h.1).1, by rw [(Zi h.1).2]; exact h.2⟩
theorem Zt.more {s : SS} {ρ vs : List Qa} {st : St} (h : Zt s ρ st) {k : Nat} (hk : vs.length = k) : Zt (s.more k) (ρ ++ vs) st :=
 ⟨by simp [SS.more, h.len, hk], fun t sv hm => (h.env t sv hm).append, fun r e g hm => by
  obtain ⟨h1, h2, h3⟩ := h.loc r e g hm
  exact ⟨(XG h1).1, (Zi h2).1, by rw [(Zi h2).2, (XG h1).2]; exact h3⟩⟩
theorem Zt.put {s : SS} {ρ : List Qa} {st : St} (h : Zt s ρ st) {d : Option Nat} {x : Qa} {sv : SV} (hx : Gi ρ st.loc x sv) : Zt (s.put d sv) ρ (st.put d x) := by
 cases d with
 | none => exact h
 | some t =>
  refine ⟨h.len, fun t' sv' hm => ?_, h.loc⟩
  simp only [SS.put, List.mem_cons, List.mem_filter, Prod.mk.injEq] at hm
  rcases hm with ⟨rfl, rfl⟩ | ⟨hm, hne⟩
  ·simpa [St.put, upd] using hx
  ·have : t' ≠ t := by simpa using hne
   simpa [St.put, upd, this] using h.env t' sv' hm
theorem ZZ (st : St) (d : Option Nat) (x : Qa) : (st.put d x).sto = st.sto := by cases d <;> rfl
theorem Ws (st : St) (d : Option Nat) (x : Qa) : (st.put d x).loc = st.loc := by cases d <;> rfl
theorem Zt.rebox {s : SS} {ρ : List Qa} {st : St} (h : Zt s ρ st) {r ep : Nat} {c : Qa} : Zt ({ s.drop r with loc := s.loc.filter λp=> p.1 != r }) ρ { st with loc := upd st.loc r (ep, c) } := by
 refine ⟨h.len, fun t sv hm => ?_, fun q e g hm => ?_⟩
 ·simp only [SS.drop, List.mem_filter] at hm
  have := h.env t sv hm.1
  cases sv with
  | ex e => exact this
  | ptr q off g =>
   have hq : q ≠ r := by simpa [SV.notTo] using hm.2
   simpa [Gi, upd, hq] using this
 ·simp only [List.mem_filter] at hm
  have hq : q ≠ r := by simpa using hm.2
  simpa [upd, hq] using h.loc q e g hm.1
theorem Zt.setc {s : SS} {ρ : List Qa} {st : St} (h : Zt s ρ st) {r : Nat} {c : Qa} : Zt ({ s with loc := s.loc.filter λp=> p.1 != r }) ρ { st with loc := upd st.loc r ((st.loc r).1, c) } := by
 refine ⟨h.len, fun t sv hm => ?_, fun q e g hm => ?_⟩
 ·have := h.env t sv hm
  cases sv with
  | ex e => exact this
  | ptr q off g =>
   by_cases hq : q = r
   ·subst hq; simpa [Gi, upd] using this
   ·simpa [Gi, upd, hq] using this
 ·simp only [List.mem_filter] at hm
  have hq : q ≠ r := by simpa using hm.2
  simpa [upd, hq] using h.loc q e g hm.1
theorem Zt.addLoc {s : SS} {ρ : List Qa} {st : St} {r : Nat} {e : Ex} {g : Gd} (h : Zt { s with loc := s.loc.filter λp=> p.1 != r } ρ st) (he : e.ok ρ.length = true) (hg : Gok ρ.length g) (hv : gB ρ g = true → (st.loc r).2 = e.val ρ) :
  Zt (s.setLoc r e g) ρ st := by
 refine ⟨h.len, h.env, fun q e' g' hm => ?_⟩
 simp only [SS.setLoc, List.mem_cons, Prod.mk.injEq] at hm
 rcases hm with ⟨rfl, rfl, rfl⟩ | hm
 ·exact ⟨he, hg, hv⟩
 ·exact h.loc q e' g' hm
theorem Zt.sub {s s' : SS} {ρ : List Qa} {st : St} (h : Zt s ρ st) (h1 : ∀ p, p ∈ s'.env → p ∈ s.env) (h2 : ∀ p, p ∈ s'.loc → p ∈ s.loc) (h3 : s'.nv = s.nv) : Zt s' ρ st :=
 ⟨by rw [h3]; exact h.len, fun t sv hm => h.env t sv (h1 _ hm), fun r e g hm => h.loc r e g (h2 _ hm)⟩
theorem Zt.dep {s : SS} {ρ : List Qa} {st : St} (h : Zt s ρ st) (d : Nat) : Zt { s with dep := d } ρ st := ⟨h.len, h.env, h.loc⟩
theorem Zt.sto {s : SS} {ρ : List Qa} {st : St} (h : Zt s ρ st) (σ : Sto) : Zt s ρ { st with sto := σ } := ⟨h.len, h.env, h.loc⟩
theorem Zt.ex {s : SS} {ρ : List Qa} {st : St} (h : Zt s ρ st) {x : Opd} {e : Ex} (hx : s.ex x = some e) : e.ok ρ.length = true ∧ x.val st.env = e.val ρ := by
 cases x with
 | c v => simp only [SS.ex, Option.some.injEq] at hx; subst hx; exact ⟨rfl, rfl⟩
 | t n =>
  simp only [SS.ex] at hx
  split at hx
  ·rename_i e' hs
   simp only [Option.some.injEq] at hx
   subst hx
   have := h.env n _ (Wb hs)
   simpa [Gi, Opd.val] using this
  ·cases hx
theorem Zt.exs {s : SS} {ρ : List Qa} {st : St} (h : Zt s ρ st) : ∀ {xs : List Opd} {es : List Ex}, s.exs xs = some es → xs.map (Opd.val st.env) = es.map (Ex.val ρ)
 | [], es, hx => by simp only [SS.exs, Option.some.injEq] at hx; subst hx; rfl
 | x :: xs, es, hx => by
  simp only [SS.exs] at hx
  split at hx
  ·rename_i e es' h1 h2
   simp only [Option.some.injEq] at hx
   subst hx
   simp only [List.map_cons, (h.ex h1).2, h.exs h2]
  ·cases hx
theorem okG_holds {ρ : List Qa} {g G : Gd} (h : okG g G = true) (hG : gB ρ G = true) : gB ρ g = true := by
 cases g with
 | none => rfl
 | some p =>
  obtain ⟨i, b⟩ := p
  cases G with
  | none => simp [okG] at h
  | some q =>
   obtain ⟨j, c⟩ := q
   simp only [okG, Bool.and_eq_true, beq_iff_eq] at h
   have h1 : i = j := Nat.eq_of_beq_eq_true h.1
   rw [h1, h.2]; exact hG
theorem Zt.ptr {s : SS} {ρ : List Qa} {st : St} (h : Zt s ρ st) {x : Opd} {G : Gd} {r off : Nat} (hx : s.ptr G x = some (r, off)) (hG : gB ρ G = true) : x.val st.env = .loc r (st.loc r).1 off := by
 cases x with
 | c v => simp [SS.ptr] at hx
 | t n =>
  simp only [SS.ptr] at hx
  split at hx
  ·rename_i r' off' g hs
   split at hx
   ·rename_i hok
    simp only [Option.some.injEq, Prod.mk.injEq] at hx
    obtain ⟨rfl, rfl⟩ := hx
    exact (h.env n _ (Wb hs)).2 (okG_holds hok hG)
   ·cases hx
  ·cases hx
theorem Zt.cont {s : SS} {ρ : List Qa} {st : St} (h : Zt s ρ st) {G : Gd} {r : Nat} {e : Ex} (hx : s.cont G r = some e) : e.ok ρ.length = true ∧ (gB ρ G = true → (st.loc r).2 = e.val ρ) := by
 simp only [SS.cont] at hx
 split at hx
 ·rename_i e' g hs
  split at hx
  ·rename_i hok
   simp only [Option.some.injEq] at hx
   subst hx
   obtain ⟨h1, h2, h3⟩ := h.loc r _ _ (Wb hs)
   exact ⟨h1, λhG=> h3 (okG_holds hok hG)⟩
  ·cases hx
 ·cases hx
def gS (st : St) : Option (Nat × Bool) → Bool
 | none => true
 | some (t, b) => (st.env t).isB b
theorem Zt.guard {s : SS} {ρ : List Qa} {st : St} (h : Zt s ρ st) {g : Option (Nat × Bool)} {G : Gd} (hx : s.guard g = some G) : Gok ρ.length G ∧ gS st g = gB ρ G := by
 cases g with
 | none => simp only [SS.guard, Option.some.injEq] at hx; subst hx; exact ⟨trivial, rfl⟩
 | some p =>
  obtain ⟨t, b⟩ := p
  simp only [SS.guard] at hx
  split at hx
  ·rename_i i hs
   simp only [Option.some.injEq] at hx
   subst hx
   obtain ⟨h1, h2⟩ := h.env t _ (Wb hs)
   refine ⟨by simpa [Ex.ok, Nat.blt_eq, Gok] using h1, ?_⟩
   simp only [gB, gS, h2, Ex.val]
  ·cases hx
section
variable {cp : Nat → List Qa → Option Qa} {ci : Nat → List Qa → Sto → Option (Qa × Sto)}
def Xg (cp : Nat → List Qa → Option Qa) (ci : Nat → List Qa → Sto → Option (Qa × Sto)) : List Uk → List Qa → Sto → Option (List Qa × Sto)
 | [], ρ, σ => some (ρ, σ)
 | i :: is, ρ, σ => match i.op with
  | .p o => match Hb ρ i.g (o.sem cp (i.xs.map (Ex.val ρ))) with
   | some v => Xg cp ci is (ρ ++ [v]) σ
   | none => none
  | .s o => match Ho ρ σ i.g (o.sem cp ci σ (i.xs.map (Ex.val ρ))) with
   | some (v, σ') => Xg cp ci is (ρ ++ [v]) σ'
   | none => none
theorem W2 : ∀ (is js : List Uk) (ρ : List Qa) (σ : Sto), Xg cp ci (is ++ js) ρ σ = (Xg cp ci is ρ σ).bind λx=> Xg cp ci js x.1 x.2
 | [], js, ρ, σ => rfl
 | i :: is, js, ρ, σ => by
  simp only [List.cons_append, Xg]
  split
  ·split
   ·rw [W2 is js]
   ·rfl
  ·split
   ·rw [W2 is js]
   ·rfl
theorem Vx {n : Nat} (t : T) : ∀ (is : List Uk) (ρ : List Qa) (σ : Sto), den cp ci n (J9 is t) ρ σ = (Xg cp ci is ρ σ).bind λx=> den cp ci n t x.1 x.2
 | [], ρ, σ => rfl
 | i :: is, ρ, σ => by
  obtain ⟨op, xs, g⟩ := i
  cases op with
  | p o =>
   simp only [J9, Uk.tree, den, Xg, bndP]
   split
   ·rename_i v e; rw [Vx t is]; simp only [e]
   ·rename_i e; simp only [e]; rfl
  | s o =>
   simp only [J9, Uk.tree, den, Xg, bndS]
   split
   ·rename_i v σ' e; rw [Vx t is]; simp only [e]
   ·rename_i e; simp only [e]; rfl
theorem HU {ρ : List Qa} {g : Gd} {x : Option Qa} : Hb ρ g x = if gB ρ g then x else some .undef := by
 cases g with
 | none => rfl
 | some p => rfl
theorem guardedS_eq {ρ : List Qa} {σ : Sto} {g : Gd} {x : Option (Qa × Sto)} : Ho ρ σ g x = if gB ρ g then x else some (.undef, σ) := by
 cases g with
 | none => rfl
 | some p => rfl
theorem VJ {o : JOp} {es : List Ex} {G : Gd} {ρ ρ' : List Qa} {σ σ' : Sto} (h : Xg cp ci [⟨.p o, es, G⟩] ρ σ = some (ρ', σ')) :
  ∃ v, (if gB ρ G then o.sem cp (es.map (Ex.val ρ)) else some .undef) = some v ∧ ρ' = ρ ++ [v] ∧ σ' = σ := by
 simp only [Xg, HU] at h
 split at h
 ·rename_i v e
  simp only [Option.some.injEq, Prod.mk.injEq] at h
  exact ⟨v, e, h.1.symm, h.2.symm⟩
 ·cases h
theorem step_eq {s : SS} {ρ : List Qa} {st : St} (h : Zt s ρ st) {o : QL} {G : Gd} (hg : s.guard o.guard = some G) :
  Xl cp ci o st = if gB ρ G then QK cp ci o.dst o.op o.xs st else some (st.put o.dst .undef) := by
 have := (h.guard hg).2
 unfold Xl
 split
 ·rename_i e; rw [e] at this; simp only [gS] at this; rw [← this]; simp
 ·rename_i g b e; rw [e] at this; simp only [gS] at this; rw [← this]
theorem HV {ρ : List Qa} {v : Qa} : Ex.val (ρ ++ [v]) (.v ρ.length) = v := by simp [Ex.val]
theorem v_ok {ρ : List Qa} {v : Qa} : Ex.ok (ρ ++ [v]).length (.v ρ.length) = true := by simp [Ex.ok, Nat.blt_eq]
theorem Zt.bind {s : SS} {ρ : List Qa} {st : St} (h : Zt s ρ st) (d : Option Nat) (v : Qa) : Zt ((s.more 1).put d (.ex (.v s.nv))) (ρ ++ [v]) (st.put d v) := by
 refine (h.more (vs := [v]) rfl).put ?_
 rw [← h.len]
 exact ⟨v_ok, HV.symm⟩
theorem mv_sem {st : St} {x : Opd} {r ep off n : Nat} {o : POp} (ho : isMv o = some n) (hx : x.val st.env = .loc r ep off) : o.sem cp ([x].map (Opd.val st.env)) = some (.loc r ep (off + n)) := by
 unfold isMv at ho
 split at ho <;> simp only [Option.some.injEq, reduceCtorEq] at ho
 ·subst ho; simp [POp.sem, Qu, hx]
 ·subst ho; simp [POp.sem, QI, hx]
 ·subst ho; simp [POp.sem, Q4, Qa.shift, hx]
theorem symbP_sound {s s' : SS} {G : Gd} {dst : Option Nat} {o : POp} {xs : List Opd} {is : List Uk} {ρ ρ' : List Qa} {st : St} {σ' : Sto} (hs : symbP s G dst o xs = some (is, s')) (h : Zt s ρ st) (hG : Gok ρ.length G)
  (hr : Xg cp ci is ρ st.sto = some (ρ', σ')) : ∃ st', (if gB ρ G then QK cp ci dst (.p o) xs st else some (st.put dst .undef)) = some st' ∧ st'.sto = σ' ∧ Zt s' ρ' st' := by
 unfold symbP at hs
 split at hs
 ·rename_i r off hp
  simp only [Option.some.injEq, Prod.mk.injEq] at hs
  obtain ⟨rfl, rfl⟩ := hs
  simp only [Xg, Option.some.injEq, Prod.mk.injEq] at hr
  obtain ⟨rfl, rfl⟩ := hr
  split at hp
  ·rename_i n x hm
   simp only [Option.map_eq_some_iff, Prod.mk.injEq] at hp
   obtain ⟨⟨r', off'⟩, hp, rfl, rfl⟩ := hp
   cases hb : gB ρ G with
   | true =>
    have hv := h.ptr hp hb
    refine ⟨st.put dst (.loc r' (st.loc r').1 (off' + n)), ?_, ZZ .., h.put ⟨hG, λ_=> rfl⟩⟩
    simp only [if_true, QK, mv_sem (cp := cp) hm hv, Option.map_some]
   | false => exact ⟨st.put dst .undef, rfl, ZZ .., h.put ⟨hG, λe=> by rw [hb] at e; cases e⟩⟩
  ·cases hp
 ·split at hs
  ·rename_i es hes
   have hval := h.exs hes
   split at hs
   ·rename_i e _
    simp only [Option.some.injEq, Prod.mk.injEq] at hs
    obtain ⟨rfl, rfl⟩ := hs
    simp only [Xg, Option.some.injEq, Prod.mk.injEq] at hr
    obtain ⟨rfl, rfl⟩ := hr
    cases xs with
    | nil => simp [SS.exs] at hes
    | cons x xs =>
     cases xs with
     | cons y ys => simp only [SS.exs] at hes; split at hes <;> simp at hes; rename_i h2; split at h2 <;> simp at h2; simp [← h2] at hes
     | nil =>
      have hx : s.ex x = some e := by
       simp only [SS.exs] at hes
       split at hes
       ·rename_i e' es' h1 h2
        simp only [Option.some.injEq, List.cons.injEq] at hes h2
        rw [h1, hes.1]
       ·cases hes
      have := h.ex hx
      refine ⟨st.put dst (e.val ρ), ?_, ZZ .., h.put ⟨this.1, rfl⟩⟩
      simp [gB, QK, POp.sem, Qu, this.2]
   ·simp only [Option.some.injEq, Prod.mk.injEq] at hs
    obtain ⟨rfl, rfl⟩ := hs
    obtain ⟨v, hv, rfl, rfl⟩ := VJ hr
    refine ⟨st.put dst v, ?_, ZZ .., h.bind dst v⟩
    cases hb : gB ρ G with
    | true => rw [hb] at hv; simp only [if_true, JOp.sem] at hv; simp only [if_true, QK, hval, hv, Option.map_some]
    | false => rw [hb] at hv; simp at hv; subst hv; simp
  ·cases hs
theorem U5 {s : SS} {ρ : List Qa} {st : St} (h : Zt s ρ st) {r : Nat} {dst : Option Nat} {G : Gd} (hG : Gok ρ.length G) {c : Qa} {e : Ex} (he : e.ok ρ.length = true) (hc : gB ρ G = true → c = e.val ρ) :
  (gB ρ G = true → Zt (((s.drop r).put dst (.ptr r 0 G)).setLoc r e G) ρ ({ st with loc := upd st.loc r ((st.loc r).1 + 1, c) }.put dst (.loc r ((st.loc r).1 + 1) 0))) ∧
  (gB ρ G = false → Zt (((s.drop r).put dst (.ptr r 0 G)).setLoc r e G) ρ (st.put dst .undef)) := by
 constructor
 ·intro hb
  refine Zt.addLoc ?_ he hG λ_=> ?_
  ·have h1 := (h.rebox (r := r) (ep := (st.loc r).1 + 1) (c := c)).put (d := dst) (x := .loc r ((st.loc r).1 + 1) 0) (sv := .ptr r 0 G) ⟨hG, λ_=> by simp [upd]⟩
   refine h1.sub (fun p hp => ?_) (fun p hp => ?_) ?_
   ·cases dst <;> simpa [SS.put, SS.drop] using hp
   ·cases dst <;> simpa [SS.put, SS.drop] using hp
   ·cases dst <;> rfl
  ·rw [Ws]; simp [upd, hc hb]
 ·intro hb
  refine Zt.addLoc ?_ he hG λe=> by rw [hb] at e; cases e
  have h1 := h.put (d := dst) (x := .undef) (sv := .ptr r 0 G) ⟨hG, λe=> by rw [hb] at e; cases e⟩
  refine h1.sub (fun p hp => ?_) (fun p hp => ?_) ?_
  ·cases dst with
   | none => simp only [SS.put, SS.drop, List.mem_filter] at hp ⊢; exact hp.1
   | some t =>
    simp only [SS.put, SS.drop, List.mem_cons, List.mem_filter] at hp ⊢
    rcases hp with hp | hp
    ·exact .inl hp
    ·exact .inr ⟨hp.1.1, hp.2⟩
  ·cases dst <;> (simp only [SS.put, SS.drop, List.mem_filter] at hp ⊢; exact hp.1)
  ·cases dst <;> rfl
theorem symbL_sound {s s' : SS} {G : Gd} {dst : Option Nat} {r : Nat} {o : LOp} {xs : List Opd} {is : List Uk} {ρ ρ' : List Qa} {st : St} {σ' : Sto} (hs : symbL s G dst r o xs = some (is, s')) (h : Zt s ρ st) (hG : Gok ρ.length G)
  (hr : Xg cp ci is ρ st.sto = some (ρ', σ')) : ∃ st', (if gB ρ G then QK cp ci dst (.lw r o) xs st else some (st.put dst .undef)) = some st' ∧ st'.sto = σ' ∧ Zt s' ρ' st' := by
 unfold symbL at hs
 split at hs
 ·rename_i x
  simp only [Option.map_eq_some_iff, Prod.mk.injEq] at hs
  obtain ⟨e, he, rfl, rfl⟩ := hs
  obtain ⟨v, hv, rfl, rfl⟩ := VJ hr
  have hx := h.ex he
  have hm := h.more (vs := [v]) (k := 1) rfl
  have key := U5 (r := r) (dst := dst) hm (Zi (vs := [v]) hG).1 (c := v) (e := .v s.nv) (by rw [← h.len]; exact v_ok) (λ_=> by rw [← h.len]; exact HV.symm)
  rw [(Zi hG).2] at key
  cases hb : gB ρ G with
  | true =>
   rw [hb] at hv
   simp only [if_true, JOp.sem, List.map_cons, List.map_nil, Qm] at hv
   split at hv
   ·rename_i hok
    simp only [Option.some.injEq] at hv
    refine ⟨_, ?_, ?_, key.1 hb⟩
    ·simp only [if_true, QK, LOp.sem, List.map_cons, List.map_nil, Hh, hx.2, hok, Option.map_some]
     rw [← hv]
    ·rw [ZZ]
   ·cases hv
  | false => exact ⟨_, rfl, ZZ .., key.2 hb⟩
 ·rename_i z
  simp only [Option.some.injEq, Prod.mk.injEq] at hs
  obtain ⟨rfl, rfl⟩ := hs
  simp only [Xg, Option.some.injEq, Prod.mk.injEq] at hr
  obtain ⟨rfl, rfl⟩ := hr
  have key := U5 (r := r) (dst := dst) h hG (c := .agg z) (e := .k (.agg z)) rfl (λ_=> rfl)
  cases hb : gB ρ G with
  | true =>
   refine ⟨_, ?_, ?_, key.1 hb⟩
   ·simp only [if_true, QK, LOp.sem, List.map_nil, Uf, Option.map_some]
   ·rw [ZZ]
  | false => exact ⟨_, rfl, ZZ .., key.2 hb⟩
 ·rename_i x
  simp only [Option.map_eq_some_iff, Prod.mk.injEq] at hs
  obtain ⟨e, he, rfl, rfl⟩ := hs
  obtain ⟨v, hv, rfl, rfl⟩ := VJ hr
  have hx := h.ex he
  have hm := h.more (vs := [v]) (k := 1) rfl
  have key := U5 (r := r) (dst := dst) hm (Zi (vs := [v]) hG).1 (c := v) (e := .v s.nv) (by rw [← h.len]; exact v_ok) (λ_=> by rw [← h.len]; exact HV.symm)
  rw [(Zi hG).2] at key
  cases hb : gB ρ G with
  | true =>
   rw [hb] at hv
   simp only [if_true, JOp.sem, List.map_cons, List.map_nil, ← hx.2] at hv
   unfold jrngSem at hv
   split at hv
   ·rename_i q hq
    simp only [List.cons.injEq, and_true] at hq
    simp only [Option.some.injEq] at hv
    refine ⟨_, ?_, ?_, key.1 hb⟩
    ·simp only [if_true, QK, LOp.sem, List.map_cons, List.map_nil, rngSem, hq, Option.map_some]
     rw [← hv]
    ·rw [ZZ]
   ·cases hv
  | false => exact ⟨_, rfl, ZZ .., key.2 hb⟩
 ·rename_i n p x
  split at hs
  ·rename_i q off e c hp he hc
   split at hs
   ·rename_i hq
    subst hq
    simp only [Option.some.injEq, Prod.mk.injEq] at hs
    obtain ⟨rfl, rfl⟩ := hs
    obtain ⟨v, hv, rfl, rfl⟩ := VJ hr
    have hx := h.ex he
    have hcv := h.cont hc
    have hundef : Gi (ρ ++ [v]) st.loc .undef (.ex (.k .undef)) := ⟨rfl, rfl⟩
    cases hb : gB ρ G with
    | true =>
     rw [hb] at hv
     have hp' := h.ptr hp hb
     have hc' := hcv.2 hb
     simp only [if_true, JOp.sem, List.map_cons, List.map_nil, ← hx.2, ← hc'] at hv
     unfold Qh at hv
     split at hv
     ·rename_i cs u hq
      simp only [List.cons.injEq, and_true] at hq
      obtain ⟨hq1, hq2⟩ := hq
      split at hv
      ·rename_i hcond
       simp only [Option.map_eq_some_iff] at hv
       obtain ⟨cs', hw, rfl⟩ := hv
       refine ⟨({ st with loc := upd st.loc q ((st.loc q).1, .agg cs') }).put dst .undef, ?_, by rw [ZZ], ?_⟩
       ·simp only [if_true, QK, LOp.sem, List.map_cons, List.map_nil, hp', Ew, hq2]
        rw [if_pos ⟨trivial, trivial, hcond.1, hcond.2⟩, hq1]
        simp only [hw, Option.map_some]
       ·refine Zt.addLoc ?_ ?_ (Zi hG).1 λ_=> ?_
        ·have h1 := ((h.setc (r := q) (c := .agg cs')).more (vs := [Qa.agg cs']) (k := 1) rfl).put (d := dst) (x := .undef) (sv := .ex (.k .undef)) ⟨rfl, rfl⟩
         refine h1.sub (fun p hp => ?_) (fun p hp => ?_) ?_
         ·cases dst <;> exact hp
         ·cases dst <;> exact hp
         ·cases dst <;> rfl
        ·rw [← h.len]; exact v_ok
        ·rw [Ws, ← h.len, HV]; simp [upd]
      ·cases hv
     ·cases hv
    | false =>
     refine ⟨_, rfl, ZZ .., ?_⟩
     refine Zt.addLoc ?_ ?_ (Zi hG).1 λe=> ?_
     ·have h1 := (h.more (vs := [v]) (k := 1) rfl).put (d := dst) (x := .undef) (sv := .ex (.k .undef)) ⟨rfl, rfl⟩
      refine h1.sub (fun p hp => ?_) (fun p hp => ?_) ?_
      ·cases dst <;> exact hp
      ·cases dst <;> (simp only [SS.put, SS.more, List.mem_filter] at hp ⊢; exact hp.1)
      ·cases dst <;> rfl
     ·rw [← h.len]; exact v_ok
     ·rw [(Zi hG).2, hb] at e; cases e
   ·cases hs
  ·cases hs
 ·rename_i p
  split at hs
  ·rename_i q c hp hc
   split at hs
   ·rename_i hq
    subst hq
    simp only [Option.some.injEq, Prod.mk.injEq] at hs
    obtain ⟨rfl, rfl⟩ := hs
    have hcv := h.cont hc
    simp only [Xg, HU, (Zi hG).2, List.map_cons, List.map_nil, (XG hcv.1).2] at hr
    split at hr
    ·rename_i v hv
     split at hr
     ·rename_i u hu
      simp only [Option.some.injEq, Prod.mk.injEq, List.append_assoc, List.cons_append, List.nil_append] at hr
      obtain ⟨rfl, rfl⟩ := hr
      have e1 : Ex.ok (ρ ++ [v, u]).length (.v s.nv) = true := by simp [Ex.ok, Nat.blt_eq, h.len]
      have e2 : Ex.val (ρ ++ [v, u]) (.v s.nv) = v := by simp [Ex.val, ← h.len, List.getD_eq_getElem?_getD]
      have e3 : Ex.ok (ρ ++ [v, u]).length (.v (s.nv + 1)) = true := by simp [Ex.ok, Nat.blt_eq, h.len]
      have e4 : Ex.val (ρ ++ [v, u]) (.v (s.nv + 1)) = u := by simp [Ex.val, ← h.len, List.getD_eq_getElem?_getD]
      cases hb : gB ρ G with
      | true =>
       rw [hb] at hv hu
       have hp' := h.ptr hp hb
       have hc' := hcv.2 hb
       simp only [if_true, JOp.sem, ← hc'] at hv hu
       have hn : VV q (st.loc q) [.loc q (st.loc q).1 0] = some (v, ((st.loc q).1, u)) := by
        unfold jnxSem at hv hu
        split at hv
        ·rename_i z pos hz
         simp only [List.cons.injEq, and_true] at hz
         rw [hz] at hu
         simp only at hu
         simp only [VV, true_and, if_true, hz]
         by_cases hlt : pos < z.length
         ·simp only [hlt, if_true, Option.some.injEq] at hv hu ⊢
          subst hv hu
          simp
         ·simp only [hlt, if_false, Option.some.injEq] at hv hu ⊢
          subst hv hu
          simp [← hz]
        ·cases hv
       refine ⟨({ st with loc := upd st.loc q ((st.loc q).1, u) }).put dst v, ?_, by rw [ZZ], ?_⟩
       ·simp only [if_true, QK, LOp.sem, List.map_cons, List.map_nil, hp', hn, Option.map_some]
       ·refine Zt.addLoc ?_ e3 (Zi hG).1 λ_=> ?_
        ·have h1 := ((h.setc (r := q) (c := u)).more (vs := [v, u]) (k := 2) rfl).put (d := dst) (x := v) (sv := .ex (.v s.nv)) ⟨e1, e2.symm⟩
         refine h1.sub (fun p hp => ?_) (fun p hp => ?_) ?_
         ·cases dst <;> exact hp
         ·cases dst <;> exact hp
         ·cases dst <;> rfl
        ·rw [Ws, e4]; simp [upd]
      | false =>
       rw [hb] at hv hu
       simp at hv hu
       subst hv hu
       refine ⟨_, rfl, ZZ .., ?_⟩
       refine Zt.addLoc ?_ e3 (Zi hG).1 λe=> ?_
       ·have h1 := (h.more (vs := [Qa.undef, Qa.undef]) (k := 2) rfl).put (d := dst) (x := .undef) (sv := .ex (.v s.nv)) ⟨e1, e2.symm⟩
        refine h1.sub (fun p hp => ?_) (fun p hp => ?_) ?_
        ·cases dst <;> exact hp
        ·cases dst <;> (simp only [SS.put, SS.more, List.mem_filter] at hp ⊢; exact hp.1)
        ·cases dst <;> rfl
       ·rw [(Zi hG).2, hb] at e; cases e
     ·cases hr
    ·cases hr
   ·cases hs
  ·cases hs
 ·cases hs
theorem symbOp_sound {s s' : SS} {o : QL} {is : List Uk} {ρ ρ' : List Qa} {st : St} {σ' : Sto} (hs : symbOp s o = some (is, s')) (h : Zt s ρ st) (hr : Xg cp ci is ρ st.sto = some (ρ', σ')) :
  ∃ st', Xl cp ci o st = some st' ∧ st'.sto = σ' ∧ Zt s' ρ' st' := by
 unfold symbOp at hs
 split at hs
 ·cases hs
 ·rename_i G hg
  have hG := (h.guard hg).1
  rw [step_eq h hg]
  split at hs
  ·rename_i q e; rw [e]; exact symbP_sound hs h hG hr
  ·rename_i r sz e
   rw [e]
   split at hs
   ·rename_i x hxs
    split at hs
    ·rename_i q off c hp hc
     split at hs
     ·rename_i hq
      subst hq
      simp only [Option.some.injEq, Prod.mk.injEq] at hs
      obtain ⟨rfl, rfl⟩ := hs
      obtain ⟨v, hv, rfl, rfl⟩ := VJ hr
      refine ⟨st.put o.dst v, ?_, ZZ .., h.bind o.dst v⟩
      cases hb : gB ρ G with
      | true =>
       rw [hb] at hv
       have hp' := h.ptr hp hb
       have hc' := (h.cont hc).2 hb
       simp only [if_true, JOp.sem, POp.sem, List.map_cons, List.map_nil, ← hc'] at hv
       unfold Qb at hv
       split at hv
       ·rename_i cs hcs
        simp only [List.cons.injEq, and_true] at hcs
        simp only [if_true, QK, hxs, List.map_cons, List.map_nil, hp', Yf, true_and, hcs, hv, Option.map_some]
       ·cases hv
      | false => rw [hb] at hv; simp at hv; subst hv; simp
     ·cases hs
    ·cases hs
   ·cases hs
  ·rename_i r q e; rw [e]; exact symbL_sound hs h hG hr
  ·rename_i b q e
   rw [e]
   simp only [Option.map_eq_some_iff, Prod.mk.injEq] at hs
   obtain ⟨es, hes, rfl, rfl⟩ := hs
   have hval := h.exs hes
   simp only [Xg, guardedS_eq] at hr
   split at hr
   ·rename_i v σ2 e2
    simp only [Option.some.injEq, Prod.mk.injEq] at hr
    obtain ⟨rfl, rfl⟩ := hr
    cases hb : gB ρ G with
    | true =>
     rw [hb] at e2
     simp only [if_true] at e2
     refine ⟨({ st with sto := σ2 }).put o.dst v, ?_, by rw [ZZ], (h.sto σ2).bind o.dst v⟩
     simp only [if_true, QK, hval, e2, Option.map_some]
    | false =>
     rw [hb] at e2
     simp at e2
     obtain ⟨rfl, rfl⟩ := e2
     exact ⟨_, rfl, ZZ .., h.bind o.dst .undef⟩
   ·cases hr
theorem Uw : ∀ {ops : List QL} {s s' : SS} {is : List Uk} {ρ ρ' : List Qa} {st : St} {σ' : Sto}, Jk ops s = some (is, s') → Zt s ρ st → Xg cp ci is ρ st.sto = some (ρ', σ') →
  ∃ st', YG cp ci ops st = some st' ∧ st'.sto = σ' ∧ Zt s' ρ' st'
 | [], s, s', is, ρ, ρ', st, σ', hs, h, hr => by
  simp only [Jk, Option.some.injEq, Prod.mk.injEq] at hs
  obtain ⟨rfl, rfl⟩ := hs
  simp only [Xg, Option.some.injEq, Prod.mk.injEq] at hr
  obtain ⟨rfl, rfl⟩ := hr
  exact ⟨st, rfl, rfl, h⟩
 | o :: os, s, s', is, ρ, ρ', st, σ', hs, h, hr => by
  simp only [Jk] at hs
  split at hs
  ·rename_i is1 s1 h1
   split at hs
   ·rename_i is2 s2 h2
    simp only [Option.some.injEq, Prod.mk.injEq] at hs
    obtain ⟨rfl, rfl⟩ := hs
    rw [W2] at hr
    simp only [Option.bind_eq_some_iff] at hr
    obtain ⟨⟨ρ1, σ1⟩, hr1, hr2⟩ := hr
    obtain ⟨st1, a1, rfl, a3⟩ := symbOp_sound h1 h hr1
    obtain ⟨st2, b1, b2, b3⟩ := Uw h2 a3 hr2
    exact ⟨st2, by simp only [YG, a1, Option.bind_some, b1], b2, b3⟩
   ·cases hs
  ·cases hs
end
end Go.Proofs.YtdibpeknpmhknaaGreat
namespace Go.Proofs.YtdibpeknpmhknaaGreat
open Go
structure Fr (W WR WB : List Nat) (st st' : St) : Prop where
 env : ∀ t, t ∉ W → st'.env t = st.env t
 loc : ∀ r, r ∉ WR → (st'.loc r).2 = (st.loc r).2
 ep : ∀ r, r ∉ WB → (st'.loc r).1 = (st.loc r).1
theorem Fr.refl (W WR WB : List Nat) (st : St) : Fr W WR WB st st := ⟨fun _ _ => rfl, fun _ _ => rfl, fun _ _ => rfl⟩
theorem Fr.trans {W WR WB : List Nat} {a b c : St} (h : Fr W WR WB a b) (h' : Fr W WR WB b c) : Fr W WR WB a c :=
 ⟨fun t ht => (h'.env t ht).trans (h.env t ht), fun r hr => (h'.loc r hr).trans (h.loc r hr), fun r hr => (h'.ep r hr).trans (h.ep r hr)⟩
theorem Fr.wider {W WR WB W' WR' WB' : List Nat} {a b : St} (h : Fr W WR WB a b) (h1 : ∀ x, x ∈ W → x ∈ W') (h2 : ∀ x, x ∈ WR → x ∈ WR') (h3 : ∀ x, x ∈ WB → x ∈ WB') : Fr W' WR' WB' a b :=
 ⟨fun t ht => h.env t λhm=> ht (h1 t hm), fun r hr => h.loc r λhm=> hr (h2 r hm), fun r hr => h.ep r λhm=> hr (h3 r hm)⟩
def Vm (c : Zo) (st st' : St) : Prop := Fr (c.wr QL.dst) (c.wr QL.root) (c.wr QL.boxed) st st'
section
variable {cp : Nat → List Qa → Option Qa} {ci : Nat → List Qa → Sto → Option (Qa × Sto)} {n : Nat}
theorem put_env {st : St} {d : Option Nat} {x : Qa} {t : Nat} (h : d ≠ some t) : (st.put d x).env t = st.env t := by
 cases d with
 | none => rfl
 | some u =>
  have : t ≠ u := λe=> h (by rw [e])
  simp [St.put, upd, this]
theorem op_frame {o : QL} {st st' : St} (h : Xl cp ci o st = some st') : (∀ t, o.dst ≠ some t → st'.env t = st.env t) ∧ (∀ r, o.root ≠ some r → (st'.loc r).2 = (st.loc r).2) ∧ (∀ r, o.boxed ≠ some r → (st'.loc r).1 = (st.loc r).1) := by
 have hput : ∀ (st0 : St) (x : Qa), st0.loc = st.loc → st0.env = st.env → st' = st0.put o.dst x → (∀ t, o.dst ≠ some t → st'.env t = st.env t) ∧ (∀ r, o.root ≠ some r → (st'.loc r).2 = (st.loc r).2) ∧ (∀ r, o.boxed ≠ some r → (st'.loc r).1 = (st.loc r).1) := by
  rintro st0 x h1 h2 rfl
  exact ⟨fun t ht => by rw [put_env ht, h2], fun r _ => by rw [Ws, h1], fun r _ => by rw [Ws, h1]⟩
 have hexec : QK cp ci o.dst o.op o.xs st = some st' → (∀ t, o.dst ≠ some t → st'.env t = st.env t) ∧ (∀ r, o.root ≠ some r → (st'.loc r).2 = (st.loc r).2) ∧ (∀ r, o.boxed ≠ some r → (st'.loc r).1 = (st.loc r).1) := by
  clear h
  intro h
  obtain ⟨dst, op, xs, g⟩ := o
  simp only at h hput
  unfold QK at h
  split at h
  ·simp only [Option.map_eq_some_iff] at h
   obtain ⟨x, -, rfl⟩ := h
   exact hput st x rfl rfl rfl
  ·simp only [Option.map_eq_some_iff] at h
   obtain ⟨x, -, rfl⟩ := h
   exact hput st x rfl rfl rfl
  ·rename_i r q
   simp only [Option.map_eq_some_iff] at h
   obtain ⟨x, hx, rfl⟩ := h
   refine ⟨fun t ht => put_env (st := { st with loc := upd st.loc r x.2 }) ht, fun p hp => ?_, fun p hp => ?_⟩
   ·have : p ≠ r := λe=> hp (by simp [QL.root, e])
    rw [Ws]; simp [upd, this]
   ·by_cases e : p = r
    ·subst e
     rw [Ws]
     simp only [upd, if_true]
     cases q with
     | box => simp [QL.boxed] at hp
     | alloc z => simp [QL.boxed] at hp
     | rng => simp [QL.boxed] at hp
     | st k =>
      simp only [LOp.sem] at hx
      unfold Ew at hx
      split at hx
      ·split at hx
       ·split at hx
        ·simp only [Option.map_eq_some_iff] at hx
         obtain ⟨_, -, rfl⟩ := hx
         rfl
        ·cases hx
       ·cases hx
      ·cases hx
     | next =>
      simp only [LOp.sem] at hx
      unfold VV at hx
      split at hx
      ·split at hx
       ·split at hx
        ·split at hx <;> (simp only [Option.some.injEq] at hx; rw [← hx])
        ·cases hx
       ·cases hx
      ·cases hx
    ·rw [Ws]; simp [upd, e]
  ·simp only [Option.map_eq_some_iff] at h
   obtain ⟨x, -, rfl⟩ := h
   exact hput { st with sto := x.2 } x.1 rfl rfl rfl
 unfold Xl at h
 split at h
 ·exact hexec h
 ·split at h
  ·exact hexec h
  ·simp only [Option.some.injEq] at h
   exact hput st .undef rfl rfl h.symm
theorem ops_frame : ∀ {ops : List QL} {st st' : St}, YG cp ci ops st = some st' → Fr (ops.filterMap QL.dst) (ops.filterMap QL.root) (ops.filterMap QL.boxed) st st'
 | [], st, st', h => by simp only [YG, Option.some.injEq] at h; subst h; exact Fr.refl ..
 | o :: os, st, st', h => by
  simp only [YG, Option.bind_eq_some_iff] at h
  obtain ⟨st1, h1, h2⟩ := h
  obtain ⟨a1, a2, a3⟩ := op_frame h1
  have b := ops_frame h2
  have sub : ∀ (f : QL → Option Nat) x, x ∈ os.filterMap f → x ∈ (o :: os).filterMap f := fun f x hx => by
   simp only [List.mem_filterMap] at hx ⊢
   obtain ⟨y, h1, h2⟩ := hx
   exact ⟨y, List.mem_cons_of_mem _ h1, h2⟩
  have hd : ∀ (f : QL → Option Nat) x, x ∉ (o :: os).filterMap f → f o ≠ some x := fun f x hx e => hx (by simp only [List.mem_filterMap]; exact ⟨o, List.mem_cons_self, e⟩)
  exact Fr.trans ⟨fun t ht => a1 t (hd _ t ht), fun r hr => a2 r (hd _ r hr), fun r hr => a3 r (hd _ r hr)⟩ (b.wider (sub _) (sub _) (sub _))
theorem ZJ : ∀ (c : Zo) {st st' : St} {e : Exit}, Q6 cp ci n c st = some (e, st') → Vm c st st'
 | .skip, st, st', e, h => by simp only [Q6, Option.some.injEq, Prod.mk.injEq] at h; obtain ⟨-, rfl⟩ := h; exact Fr.refl ..
 | .ret, st, st', e, h => by simp only [Q6, Option.some.injEq, Prod.mk.injEq] at h; obtain ⟨-, rfl⟩ := h; exact Fr.refl ..
 | .exit i, st, st', e, h => by simp only [Q6, Option.some.injEq, Prod.mk.injEq] at h; obtain ⟨-, rfl⟩ := h; exact Fr.refl ..
 | .reg ops, st, st', e, h => by
  simp only [Q6, Option.map_eq_some_iff, Prod.mk.injEq] at h
  obtain ⟨s, h1, -, rfl⟩ := h
  exact ops_frame h1
 | .seq a b, st, st', e, h => by
  have wl : ∀ {x y : St}, Vm a x y → Vm (.seq a b) x y := λh=> h.wider (fun x hx => by simp [Zo.wr, hx]) (fun x hx => by simp [Zo.wr, hx]) (fun x hx => by simp [Zo.wr, hx])
  have wr : ∀ {x y : St}, Vm b x y → Vm (.seq a b) x y := λh=> h.wider (fun x hx => by simp [Zo.wr, hx]) (fun x hx => by simp [Zo.wr, hx]) (fun x hx => by simp [Zo.wr, hx])
  simp only [Q6] at h
  split at h
  ·rename_i s hs
   exact (wl (ZJ a hs)).trans (wr (ZJ b h))
  ·exact wl (ZJ a h)
 | .cond c a b, st, st', e, h => by
  simp only [Q6] at h
  split at h
  ·exact (ZJ a h).wider (fun x hx => by simp [Zo.wr, hx]) (fun x hx => by simp [Zo.wr, hx]) (fun x hx => by simp [Zo.wr, hx])
  ·exact (ZJ b h).wider (fun x hx => by simp [Zo.wr, hx]) (fun x hx => by simp [Zo.wr, hx]) (fun x hx => by simp [Zo.wr, hx])
  ·cases h
 | .block id a, st, st', e, h => by
  simp only [Q6] at h
  split at h
  ·rename_i i s hs
   have := ZJ a hs
   split at h <;> (simp only [Option.some.injEq, Prod.mk.injEq] at h; obtain ⟨-, rfl⟩ := h; exact this)
  ·exact ZJ a h
 | .loop a, st, st', e, h => by
  simp only [Q6] at h
  have aux : ∀ m st, UY (Q6 cp ci n a) m st = some (e, st') → Vm a st st' := by
   intro m
   induction m with
   | zero => intro st h; simp [UY] at h
   | succ m ih =>
    intro st h
    simp only [UY] at h
    split at h
    ·rename_i s hs
     exact (ZJ a hs).trans (ih s h)
    ·exact ZJ a h
  exact aux n st h
theorem Em {ρ : List Qa} {L : Nat → Nat × Qa} {env : Nat → Qa} {vs us : List Qa} : ∀ {ts : List Nat} {b : Nat}, ρ.length + vs.length = b → ∀ t sv, (t, sv) ∈ Jd b ts → Gi (ρ ++ (vs ++ (ts.map env ++ us))) L (env t) sv
 | [], b, hb, t, sv, hm => by simp [Jd] at hm
 | d :: ds, b, hb, t, sv, hm => by
  simp only [Jd, List.mem_cons, Prod.mk.injEq] at hm
  rcases hm with ⟨rfl, rfl⟩ | hm
  ·refine ⟨by simp [Ex.ok, Nat.blt_eq]; omega, ?_⟩
   subst hb
   simp [Ex.val, List.getD_eq_getElem?_getD]
  ·have := Em (ρ := ρ) (vs := vs ++ [env d]) (us := us) (ts := ds) (b := b + 1) (L := L) (env := env) (by simp; omega) t sv hm
   simpa using this
theorem Eo {ρ : List Qa} {f : Nat → Qa} {vs : List Qa} : ∀ {rs : List Nat} {b : Nat}, ρ.length + vs.length = b → ∀ r e g, (r, (e, g)) ∈ JL b rs → g = none ∧ e.ok (ρ ++ (vs ++ rs.map f)).length = true ∧ f r = e.val (ρ ++ (vs ++ rs.map f))
 | [], b, hb, r, e, g, hm => by simp [JL] at hm
 | d :: ds, b, hb, r, e, g, hm => by
  simp only [JL, List.mem_cons, Prod.mk.injEq] at hm
  rcases hm with ⟨rfl, rfl, rfl⟩ | hm
  ·refine ⟨rfl, by simp [Ex.ok, Nat.blt_eq]; omega, ?_⟩
   subst hb
   simp [Ex.val, List.getD_eq_getElem?_getD]
  ·have := Eo (ρ := ρ) (f := f) (vs := vs ++ [f d]) (rs := ds) (b := b + 1) (by simp; omega) r e g hm
   simpa using this
def Yw (a : Zo) (s : SS) (st : St) : List Qa :=
 (YB (a.wr QL.dst) s.env).map st.env ++ (Y8 (a.wr QL.root) s.loc).map λr=> (st.loc r).2
theorem Uz {a : Zo} {s : SS} {st : St} : (Yw a s st).length = YR a s := by simp [Yw, YR]
theorem Jl {vs : List Qa} : ∀ {m i : Nat}, i + m = vs.length → YQ vs i m = vs.drop i
 | 0, i, h => by rw [List.drop_eq_nil_of_le (by omega)]; rfl
 | m + 1, i, h => by
  rw [YQ, Jl (by omega), List.drop_eq_getElem_cons (by omega : i < vs.length)]
  rw [List.getD_eq_getElem?_getD, List.getElem?_eq_getElem (by omega : i < vs.length)]
  rfl
@[simp] theorem WY {a : Zo} {s : SS} {st : St} : YQ (Yw a s st) 0 (YR a s) = Yw a s st := by
 rw [Jl (by rw [Uz]; omega)]; rfl
def Hi (a : Zo) (s : SS) (st : St) : Prop := ∀ t r off, (t, (r, off)) ∈ Uc (a.wr QL.dst) s.env → st.env t = .loc r (st.loc r).1 off
theorem Gw {a : Zo} {s : SS} {ρ : List Qa} {st0 st : St} (h : Zt s ρ st0) (hf : Vm a st0 st) (hp : Hi a s st) (dep : Nat) : Zt (U6 a s dep) (ρ ++ Yw a s st) st := by
 refine ⟨?_, fun t sv hm => ?_, fun r e g hm => ?_⟩
 ·simp [U6, Yw, h.len]
 ·simp only [U6, List.mem_append, List.mem_map] at hm
  rcases hm with (hm | ⟨⟨t', r, off⟩, hm, he⟩) | hm
  ·have := Em (ρ := ρ) (vs := []) (us := (Y8 (a.wr QL.root) s.loc).map λr=> (st.loc r).2) (L := st.loc) (env := st.env) (by simp [h.len]) t sv hm
   simpa [Yw] using this
  ·simp only [Prod.mk.injEq] at he
   obtain ⟨rfl, rfl⟩ := he
   exact ⟨trivial, λ_=> hp _ _ _ hm⟩
  ·simp only [keepEnv, List.mem_filter, Bool.and_eq_true, Bool.not_eq_true', List.contains_eq_mem, decide_eq_false_iff_not] at hm
   obtain ⟨hm, hw, hb⟩ := hm
   have := (h.env t sv hm).append (vs := Yw a s st)
   rw [hf.env t hw]
   cases sv with
   | ex e => exact this
   | ptr r off g =>
    simp only at hb
    refine ⟨this.1, λhg=> ?_⟩
    rw [hf.ep r (by simpa using hb)]
    exact this.2 hg
 ·simp only [U6, List.mem_append] at hm
  rcases hm with hm | hm
  ·have := Eo (ρ := ρ) (f := λr=> (st.loc r).2) (vs := (YB (a.wr QL.dst) s.env).map st.env) (by simp [h.len]) r e g hm
   obtain ⟨rfl, h1, h2⟩ := this
   exact ⟨h1, trivial, λ_=> h2⟩
  ·simp only [keepLoc, List.mem_filter, Bool.not_eq_true', List.contains_eq_mem, decide_eq_false_iff_not] at hm
   obtain ⟨h1, h2, h3⟩ := h.loc r e g hm.1
   refine ⟨(XG h1).1, (Zi h2).1, λhg=> ?_⟩
   rw [(Zi h2).2] at hg
   rw [hf.loc r hm.2, (XG h1).2]
   exact h3 hg
theorem GR {s : SS} {ρ : List Qa} {st : St} (h : Zt s ρ st) : ∀ {ts : List Nat} {es : List Ex}, Vn s ts = some es → es.map (Ex.val ρ) = ts.map st.env
 | [], es, hs => by simp only [Vn, Option.some.injEq] at hs; subst hs; rfl
 | t :: ts, es, hs => by
  simp only [Vn] at hs
  split at hs
  ·rename_i e es' h1 h2
   simp only [Option.some.injEq] at hs
   subst hs
   simp only [List.map_cons, GR h h2, ← (h.ex h1).2, Opd.val]
  ·cases hs
theorem GL {s : SS} {ρ : List Qa} {st : St} (h : Zt s ρ st) : ∀ {ts : List Nat} {es : List Ex}, Vy s ts = some es → es.map (Ex.val ρ) = ts.map λr=> (st.loc r).2
 | [], es, hs => by simp only [Vy, Option.some.injEq] at hs; subst hs; rfl
 | t :: ts, es, hs => by
  simp only [Vy] at hs
  split at hs
  ·rename_i e es' h1 h2
   simp only [Option.some.injEq] at hs
   subst hs
   simp only [List.map_cons, GL h h2, (h.cont h1).2 rfl]
  ·cases hs
theorem GH {s : SS} {ρ : List Qa} {st : St} (h : Zt s ρ st) : ∀ {ps : List (Nat × (Nat × Nat))}, Ji s ps = true → ∀ t r off, (t, (r, off)) ∈ ps → st.env t = .loc r (st.loc r).1 off
 | [], _, t, r, off, hm => by simp at hm
 | (u, (q, o)) :: ps, hs, t, r, off, hm => by
  simp only [Ji, Bool.and_eq_true] at hs
  simp only [List.mem_cons, Prod.mk.injEq] at hm
  rcases hm with ⟨rfl, rfl, rfl⟩ | hm
  ·have h1 := hs.1
   split at h1
   ·rename_i q' o' hp
    simp only [Bool.and_eq_true] at h1
    have e1 := Nat.eq_of_beq_eq_true h1.1
    have e2 := Nat.eq_of_beq_eq_true h1.2
    subst e1 e2
    exact h.ptr hp rfl
   ·cases h1
  ·exact GH h hs.2 t r off hm
theorem E3 {a : Zo} {s0 s : SS} {ρ : List Qa} {st : St} {es : List Ex} (h : Zt s ρ st) (hs : Hf a s0 s = some es) : es.map (Ex.val ρ) = Yw a s0 st ∧ Hi a s0 st := by
 simp only [Hf] at hs
 split at hs
 ·rename_i e1 e2 h1 h2
  split at hs
  ·rename_i h3
   simp only [Option.some.injEq] at hs
   subst hs
   exact ⟨by rw [List.map_append, GR h h1, GL h h2]; rfl, GH h h3⟩
  ·cases hs
 ·cases hs
theorem HN {l i : Nat} {f : List Qa → Sto → Option Out} {vs' : List Qa} {σ' : Sto} : ∀ {m : Nat} {vs : List Qa} {σ : Sto}, Qv l f m vs σ = some (.next i vs' σ') → i ≠ l ∧ ∃ us τ, f us τ = some (.next i vs' σ')
 | 0, vs, σ, h => by simp [Qv] at h
 | m + 1, vs, σ, h => by
  simp only [Qv] at h
  split at h
  ·rename_i j ws τ e
   split at h
   ·exact HN h
   ·rename_i hne
    simp only [Option.some.injEq, Out.next.injEq] at h
    obtain ⟨rfl, rfl, rfl⟩ := h
    exact ⟨hne, _, _, e⟩
  ·rename_i hne
   exact absurd h (hne i vs' σ')
theorem Y6 {l i : Nat} {vs : List Qa} {τ : Sto} : ∀ (t : T) (ρ : List Qa) (σ : Sto), t.esc l = true → den cp ci n t ρ σ = some (.next i vs τ) → i ≠ l
 | .ret xs, ρ, σ, he, h => by
  simp only [den, Qp] at h
  split at h <;> simp at h
 | .p o xs g k, ρ, σ, he, h => by
  simp only [den, bndP] at h
  split at h
  ·exact Y6 k _ _ he h
  ·cases h
 | .s o xs g k, ρ, σ, he, h => by
  simp only [den, bndS] at h
  split at h
  ·exact Y6 k _ _ he h
  ·cases h
 | .ite c a b, ρ, σ, he, h => by
  simp only [T.esc, Bool.and_eq_true] at he
  simp only [den, iteJ] at h
  split at h
  ·exact Y6 a _ _ he.1 h
  ·exact Y6 b _ _ he.2 h
  ·cases h
 | .loop j init body, ρ, σ, he, h => by
  simp only [T.esc, Bool.or_eq_true, beq_iff_eq] at he
  simp only [den] at h
  obtain ⟨h1, us, τ', h2⟩ := HN h
  rcases he with rfl | he
  ·exact h1
  ·exact Y6 body _ _ he h2
 | .join j m body k, ρ, σ, he, h => by
  simp only [T.esc, Bool.and_eq_true, Bool.or_eq_true, beq_iff_eq] at he
  simp only [den, X_] at h
  split at h
  ·rename_i i' vs' σ' e
   split at h
   ·exact Y6 k _ _ he.2 h
   ·rename_i hne
    simp only [Option.some.injEq, Out.next.injEq] at h
    obtain ⟨rfl, rfl, rfl⟩ := h
    rcases he.1 with rfl | he
    ·exact hne
    ·exact Y6 body _ _ he e
  ·exact absurd h (by rename_i hne; exact hne _ _ _)
 | .next j xs, ρ, σ, he, h => by
  simp only [T.esc, bne_iff_ne, ne_eq] at he
  simp only [den, Option.some.injEq, Out.next.injEq] at h
  rw [← h.1]
  exact he
theorem noEsc_some {l : Nat} {t t' : T} (h : noEsc l t = some t') : t' = t ∧ t.esc l = true := by
 unfold noEsc at h
 split at h
 ·rename_i he; simp only [Option.some.injEq] at h; exact ⟨h.symm, he⟩
 ·cases h
def Uq (cp : Nat → List Qa → Option Qa) (ci : Nat → List Qa → Sto → Option (Qa × Sto)) (n : Nat) (k : Exit → SS → Option T) (out : Out) (e : Exit) (st' : St) : Prop :=
 ∃ s' t' ρ', k e s' = some t' ∧ Zt s' ρ' st' ∧ den cp ci n t' ρ' st'.sto = some out
theorem WS {a : Zo} {s : SS} {k : Exit → SS → Option T} {out : Out} {e : Exit} {st' : St} (h : Uq cp ci n (UF a s k) out e st') :
  (e = .normal ∧ out = .next s.dep (Yw a s st') st'.sto ∧ Hi a s st') ∨ (e ≠ .normal ∧ (∀ vs τ, out ≠ .next s.dep vs τ) ∧ Uq cp ci n k out e st') := by
 obtain ⟨s', t', ρ', h1, h2, h3⟩ := h
 have other : e ≠ .normal → (k e s').bind (noEsc s.dep) = some t' → (e = .normal ∧ out = .next s.dep (Yw a s st') st'.sto ∧ Hi a s st') ∨ (e ≠ .normal ∧ (∀ vs τ, out ≠ .next s.dep vs τ) ∧ Uq cp ci n k out e st') := by
  intro hne h1
  simp only [Option.bind_eq_some_iff] at h1
  obtain ⟨t, ht, hn⟩ := h1
  obtain ⟨rfl, hesc⟩ := noEsc_some hn
  refine .inr ⟨hne, fun vs τ e => ?_, s', t', ρ', ht, h2, h3⟩
  rw [e] at h3
  exact Y6 _ _ _ hesc h3 rfl
 unfold UF at h1
 split at h1
 ·simp only [Option.map_eq_some_iff] at h1
  obtain ⟨es, he, rfl⟩ := h1
  simp only [den, Option.some.injEq] at h3
  obtain ⟨a1, a2⟩ := E3 h2 he
  rw [a1] at h3
  exact .inl ⟨rfl, h3.symm, a2⟩
 ·rename_i hne
  exact other (λe=> hne e) h1
theorem ZI : ∀ (c : Zo) (rs : Nat) (s : SS) (k : Exit → SS → Option T) (t : T), Uj c rs s k = some t → ∀ (ρ : List Qa) (st : St) (out : Out), Zt s ρ st → den cp ci n t ρ st.sto = some out →
  ∃ e st', Q6 cp ci n c st = some (e, st') ∧ Uq cp ci n k out e st'
 | .skip, rs, s, k, t, hs, ρ, st, out, h, hd => ⟨.normal, st, rfl, s, t, ρ, hs, h, hd⟩
 | .ret, rs, s, k, t, hs, ρ, st, out, h, hd => ⟨.ret, st, rfl, s, t, ρ, hs, h, hd⟩
 | .exit i, rs, s, k, t, hs, ρ, st, out, h, hd => ⟨.exit i, st, rfl, s, t, ρ, hs, h, hd⟩
 | .reg ops, rs, s, k, t, hs, ρ, st, out, h, hd => by
  simp only [Uj] at hs
  split at hs
  ·rename_i is s' h1
   simp only [Option.map_eq_some_iff] at hs
   obtain ⟨t', hk, rfl⟩ := hs
   rw [Vx] at hd
   simp only [Option.bind_eq_some_iff] at hd
   obtain ⟨⟨ρ', σ'⟩, hr, hd⟩ := hd
   obtain ⟨st', a1, rfl, a3⟩ := Uw h1 h hr
   exact ⟨.normal, st', by simp only [Q6, a1, Option.map_some], s', t', ρ', hk, a3, hd⟩
  ·cases hs
 | .seq a b, rs, s, k, t, hs, ρ, st, out, h, hd => by
  simp only [Uj] at hs
  obtain ⟨e, st1, h1, s1, t1, ρ1, h2, h3, h4⟩ := ZI a _ _ _ _ hs ρ st out h hd
  simp only at h2
  split at h2
  ·obtain ⟨e2, st2, g1, g2⟩ := ZI b _ _ _ _ h2 ρ1 st1 out h3 h4
   exact ⟨e2, st2, by simp only [Q6, h1, g1], g2⟩
  ·rename_i hne
   refine ⟨e, st1, ?_, s1, t1, ρ1, h2, h3, h4⟩
   simp only [Q6, h1]
   cases e <;> first | exact absurd rfl hne | rfl
 | .cond c a b, rs, s, k, t, hs, ρ, st, out, h, hd => by
  simp only [Uj] at hs
  split at hs
  ·rename_i e he
   have hc := (h.ex he).2
   split at hs
   ·split at hs
    ·rename_i ta tb tk h1 h2 h3
     simp only [Option.some.injEq] at hs
     subst hs
     simp only [den, X_] at hd
     have key : ∀ (x : Zo) (tx : T), (∀ (ρ : List Qa) (st : St) (out : Out), Zt { s with dep := s.dep + 1 } ρ st → den cp ci n tx ρ st.sto = some out → ∃ e st', Q6 cp ci n x st = some (e, st') ∧ Uq cp ci n (UF (.cond c a b) s k) out e st') → Q6 cp ci n (.cond c a b) st = Q6 cp ci n x st →
       ∀ o, den cp ci n tx ρ st.sto = some o → (match some o with | some (.next i vs' σ') => if i = s.dep then den cp ci n tk (ρ ++ YQ vs' 0 (YR (.cond c a b) s)) σ' else some (.next i vs' σ') | r => r) = some out → ∃ e st', Q6 cp ci n (.cond c a b) st = some (e, st') ∧ Uq cp ci n k out e st' := by
      intro x tx hx hrun o ho hd
      obtain ⟨e1, st1, g1, g2⟩ := hx ρ st o (h.dep _) ho
      rw [← hrun] at g1
      rcases WS g2 with ⟨rfl, rfl, g3⟩ | ⟨g3, g4, g5⟩
      ·simp only [if_true, WY] at hd
       exact ⟨.normal, st1, g1, _, tk, _, h3, Gw h (ZJ _ g1) g3 _, hd⟩
      ·refine ⟨e1, st1, g1, ?_⟩
       cases o with
       | done v σ => simp only [Option.some.injEq] at hd; rw [← hd]; exact g5
       | next i vs τ =>
        have : i ≠ s.dep := λe=> g4 vs τ (by rw [e])
        simp only [this, if_false, Option.some.injEq] at hd
        rw [← hd]; exact g5
     simp only [iteJ] at hd
     rw [← hc] at hd
     split at hd
     all_goals rename_i heq
     ·split at heq
      ·rename_i hv
       exact key a ta (ZI a _ _ _ _ h1) (by simp only [Q6, hv]) _ heq (by simpa using hd)
      ·rename_i hv
       exact key b tb (ZI b _ _ _ _ h2) (by simp only [Q6, hv]) _ heq (by simpa using hd)
      ·cases heq
     ·split at hd
      ·rename_i hv
       exact key a ta (ZI a _ _ _ _ h1) (by simp only [Q6, hv]) out hd (by
        cases out with
        | done v σ => rfl
        | next i vs τ => exact absurd (by simp only [hv]; exact hd) (heq i vs τ))
      ·rename_i hv
       exact key b tb (ZI b _ _ _ _ h2) (by simp only [Q6, hv]) out hd (by
        cases out with
        | done v σ => rfl
        | next i vs τ => exact absurd (by simp only [hv]; exact hd) (heq i vs τ))
      ·cases hd
    ·cases hs
   ·split at hs
    ·rename_i ta tb h1 h2
     simp only [Option.some.injEq] at hs
     subst hs
     simp only [den, iteJ] at hd
     rw [← hc] at hd
     split at hd
     ·rename_i hv
      obtain ⟨e1, st1, g1, g2⟩ := ZI a _ _ _ _ h1 ρ st out h hd
      exact ⟨e1, st1, by simp only [Q6, hv, g1], g2⟩
     ·rename_i hv
      obtain ⟨e1, st1, g1, g2⟩ := ZI b _ _ _ _ h2 ρ st out h hd
      exact ⟨e1, st1, by simp only [Q6, hv, g1], g2⟩
     ·cases hd
    ·cases hs
  ·cases hs
 | .block id a, rs, s, k, t, hs, ρ, st, out, h, hd => by
  -- an end of the body is an end of the block
  have conv : ∀ (k0 : Exit → SS → Option T) (o : Out) (e1 : Exit) (st1 : St), Q6 cp ci n a st = some (e1, st1) → Uq cp ci n (fun e s' => match e with | .exit i => if i = id then k0 .normal s' else k0 (.exit i) s' | e => k0 e s') o e1 st1 →
    ∃ e st', Q6 cp ci n (.block id a) st = some (e, st') ∧ Uq cp ci n k0 o e st' := by
   intro k0 o e1 st1 g1 g2
   obtain ⟨s', t', ρ', g2, g3, g4⟩ := g2
   simp only at g2
   split at g2
   ·rename_i i
    split at g2
    ·rename_i hi
     exact ⟨.normal, st1, by simp only [Q6, g1, hi, if_true], s', t', ρ', g2, g3, g4⟩
    ·rename_i hi
     exact ⟨.exit i, st1, by simp only [Q6, g1, hi, if_false], s', t', ρ', g2, g3, g4⟩
   ·rename_i hne
    refine ⟨e1, st1, ?_, s', t', ρ', g2, g3, g4⟩
    simp only [Q6, g1]
    try (cases e1 <;> first | exact absurd rfl (hne _) | rfl)
  simp only [Uj] at hs
  split at hs
  ·split at hs
   ·rename_i ta tk h1 h2
    simp only [Option.some.injEq] at hs
    subst hs
    simp only [den, X_] at hd
    have key : ∀ o, den cp ci n ta ρ st.sto = some o → (match some o with | some (.next i vs' σ') => if i = s.dep then den cp ci n tk (ρ ++ YQ vs' 0 (YR (.block id a) s)) σ' else some (.next i vs' σ') | r => r) = some out → ∃ e st', Q6 cp ci n (.block id a) st = some (e, st') ∧ Uq cp ci n k out e st' := by
     intro o ho hd
     obtain ⟨e1, st1, g1, g2⟩ := ZI a _ _ _ _ h1 ρ st o (h.dep _) ho
     obtain ⟨e1, st1, g1, g2⟩ := conv _ o e1 st1 g1 g2
     rcases WS g2 with ⟨rfl, rfl, g3⟩ | ⟨g3, g4, g5⟩
     ·simp only [if_true, WY] at hd
      exact ⟨.normal, st1, g1, _, tk, _, h2, Gw h (ZJ _ g1) g3 _, hd⟩
     ·refine ⟨e1, st1, g1, ?_⟩
      cases o with
      | done v σ => simp only [Option.some.injEq] at hd; rw [← hd]; exact g5
      | next i vs τ =>
       have : i ≠ s.dep := λe=> g4 vs τ (by rw [e])
       simp only [this, if_false, Option.some.injEq] at hd
       rw [← hd]; exact g5
    split at hd
    ·rename_i heq
     exact key _ heq (by simpa using hd)
    ·rename_i heq
     exact key out hd (by
      cases out with
      | done v σ => rfl
      | next i vs τ => exact absurd hd (heq i vs τ))
   ·cases hs
  ·obtain ⟨e1, st1, g1, g2⟩ := ZI a _ _ _ _ hs ρ st out h hd
   exact conv k out e1 st1 g1 g2
 | .loop a, rs, s, k, t, hs, ρ, st, out, h, hd => by
  simp only [Uj] at hs
  split at hs
  ·rename_i init hinit
   simp only [Option.map_eq_some_iff] at hs
   obtain ⟨body, hb, rfl⟩ := hs
   obtain ⟨i1, i2⟩ := E3 h hinit
   simp only [den] at hd
   have hlen : init.length = YR a s := by rw [← Uz (a := a) (s := s) (st := st), ← i1, List.length_map]
   rw [i1, hlen] at hd
   have aux : ∀ m st1, Vm a st st1 → Hi a s st1 → Qv s.dep (fun vs σ => den cp ci n body (ρ ++ YQ vs 0 (YR a s)) σ) m (Yw a s st1) st1.sto = some out →
     ∃ e st', UY (Q6 cp ci n a) m st1 = some (e, st') ∧ Uq cp ci n k out e st' := by
    intro m
    induction m with
    | zero => intro st1 _ _ hd; simp [Qv] at hd
    | succ m ih =>
     intro st1 hf hp hd
     simp only [Qv, WY] at hd
     have hcorr := Gw h hf hp (s.dep + 1)
     cases ho : den cp ci n body (ρ ++ Yw a s st1) st1.sto with
     | none => rw [ho] at hd; simp at hd
     | some o =>
      rw [ho] at hd
      obtain ⟨e1, st2, g1, g2⟩ := ZI a _ _ _ _ hb _ st1 o hcorr ho
      rcases WS g2 with ⟨rfl, rfl, g3⟩ | ⟨g3, g4, g5⟩
      ·simp only [if_true] at hd
       obtain ⟨e3, st3, q1, q2⟩ := ih st2 (hf.trans (ZJ a g1)) g3 hd
       exact ⟨e3, st3, by simp only [UY, g1, q1], q2⟩
      ·refine ⟨e1, st2, ?_, ?_⟩
       ·simp only [UY, g1]
        cases e1 <;> first | exact absurd rfl g3 | rfl
       ·cases o with
        | done v σ => simp only [Option.some.injEq] at hd; rw [← hd]; exact g5
        | next i vs τ =>
         have : i ≠ s.dep := λe=> g4 vs τ (by rw [e])
         simp only [this, if_false, Option.some.injEq] at hd
         rw [← hd]; exact g5
   obtain ⟨e, st', g1, g2⟩ := aux n st (Fr.refl ..) i2 hd
   exact ⟨e, st', by simp only [Q6, g1], g2⟩
  ·cases hs
theorem Wx : ∀ {rs : List JH} {s : SS} {es : List Ex} {t : T} {ρ : List Qa} {st : St} {out : Out}, Wm rs s es = some t → Zt s ρ st → (∀ e, e ∈ es → e.ok ρ.length = true) → den cp ci n t ρ st.sto = some out →
  ∃ vs d, out = .done d st.sto ∧ Qg (es.map (Ex.val ρ) ++ vs) = some d ∧ (rs.length = vs.length) ∧ ((es.map (Ex.val ρ) ++ vs).all Qa.okVal = true → Y4 st rs = some vs)
 | [], s, es, t, ρ, st, out, hs, h, hok, hd => by
  simp only [Wm, Option.some.injEq] at hs
  subst hs
  simp only [den, Qp] at hd
  split at hd
  ·rename_i d e
   simp only [Option.some.injEq] at hd
   exact ⟨[], d, hd.symm, by simpa using e, rfl, λ_=> rfl⟩
  ·cases hd
 | .t i :: rs, s, es, t, ρ, st, out, hs, h, hok, hd => by
  simp only [Wm, Option.bind_eq_some_iff] at hs
  obtain ⟨e, he, hs⟩ := hs
  obtain ⟨a1, a2⟩ := h.ex he
  obtain ⟨vs, d, g1, g2, g3, g4⟩ := Wx hs h (fun x hx => by
   simp only [List.mem_append, List.mem_singleton] at hx
   rcases hx with hx | rfl
   ·exact hok x hx
   ·exact a1) hd
  refine ⟨e.val ρ :: vs, d, g1, by simpa using g2, by simp [g3], λhall=> ?_⟩
  have hrest := g4 (by simpa using hall)
  have hv : Qa.okVal (e.val ρ) = true := by simp only [List.all_append, List.all_cons, Bool.and_eq_true] at hall; exact hall.2.1
  simp only [Opd.val] at a2
  simp only [Y4, JH.val, hrest, a2, hv, if_true]
 | .cell r sz :: rs, s, es, t, ρ, st, out, hs, h, hok, hd => by
  simp only [Wm] at hs
  split at hs
  ·rename_i q off c hp hc
   split at hs
   ·rename_i hq
    subst hq
    simp only [Option.map_eq_some_iff] at hs
    obtain ⟨t', hs, rfl⟩ := hs
    simp only [den, bndP, Hb] at hd
    split at hd
    ·rename_i v hv
     have hp' := h.ptr hp rfl
     obtain ⟨hcok, hc'⟩ := h.cont hc
     have hc' := hc' rfl
     have hmap : es.map (Ex.val (ρ ++ [v])) = es.map (Ex.val ρ) := List.map_congr_left fun x hx => (XG (hok x hx)).2
     obtain ⟨vs, d, g1, g2, g3, g4⟩ := Wx (es := es ++ [.v s.nv]) hs (h.more (vs := [v]) rfl) (fun x hx => by
      simp only [List.mem_append, List.mem_singleton] at hx
      rcases hx with hx | rfl
      ·exact (XG (hok x hx)).1
      ·rw [← h.len]; exact v_ok) hd
     rw [List.map_append, hmap] at g2 g4
     have hlast : [Ex.v s.nv].map (Ex.val (ρ ++ [v])) = [v] := by rw [← h.len]; simp [HV]
     rw [hlast] at g2 g4
     refine ⟨v :: vs, d, g1, by simpa using g2, by simp [g3], λhall=> ?_⟩
     have hrest := g4 (by simpa using hall)
     have hvok : Qa.okVal v = true := by simp only [List.all_append, List.all_cons, Bool.and_eq_true] at hall; exact hall.2.1
     have hrd : Yf q sz (st.loc q) [st.env q] = some v := by
      simp only [Opd.val] at hp'
      simp only [JOp.sem, POp.sem, List.map_cons, List.map_nil, ← hc'] at hv
      unfold Qb at hv
      split at hv
      ·rename_i cs hcs
       simp only [List.cons.injEq, and_true] at hcs
       simp only [hp', Yf, true_and, if_true, hcs, hv]
      ·cases hv
     simp only [Y4, JH.val, hrd, hrest, hvok, if_true]
    ·cases hd
   ·cases hs
  ·cases hs
theorem resEx_sound {st : St} {rs : List JH} {vs : List Qa} {d : Qa} (h1 : Qg vs = some d) (h2 : rs.length = vs.length) (h3 : vs.all Qa.okVal = true → Y4 st rs = some vs) : VP st rs = some d := by
 unfold Qg at h1
 split at h1
 ·rename_i v
  split at h1
  ·rename_i hok
   simp only [Option.some.injEq] at h1
   subst h1
   have := h3 (by simpa using hok)
   simp only [VP, this]
  ·cases h1
 ·rename_i hne
  split at h1
  ·rename_i hok
   simp only [Option.some.injEq] at h1
   subst h1
   have := h3 hok
   unfold VP
   rw [this]
   split
   ·rename_i v e; exact absurd (Option.some.inj e) (hne v)
   ·rename_i us _ e; rw [Option.some.inj e]
   ·rename_i e; cases e
  ·cases h1
theorem Ep : ∀ {n t : Nat} {sv : SV}, (t, sv) ∈ JY n → t < n ∧ sv = .ex (.v t)
 | 0, t, sv, h => by simp [JY] at h
 | n + 1, t, sv, h => by
  simp only [JY, List.mem_cons, Prod.mk.injEq] at h
  rcases h with ⟨rfl, rfl⟩ | h
  ·exact ⟨by omega, rfl⟩
  ·have := Ep h; exact ⟨by omega, this.2⟩
theorem Uy {F : GC} {t : T} {args : List Qa} {σ σ' : Sto} {v : Qa} (hs : symbFun F = some t) (hlen : args.length = F.npar) (hd : den cp ci n t args σ = some (.done v σ')) : runFun cp ci n F args σ = some (v, σ') := by
 have h0 : Zt { env := JY F.npar, loc := [], nv := F.npar, dep := 0 } args (enter args σ) := by
  refine ⟨hlen, fun t sv hm => ?_, fun r e g hm => by simp at hm⟩
  obtain ⟨h1, rfl⟩ := Ep hm
  exact ⟨by simp [Ex.ok, Nat.blt_eq, hlen, h1], rfl⟩
 obtain ⟨e, st', g1, s', t', ρ', g2, g3, g4⟩ := ZI (cp := cp) (ci := ci) (n := n) _ _ _ _ _ hs args (enter args σ) _ h0 hd
 have fin : Wm F.res s' [] = some t' → (VP st' F.res).map (λv=> (v, st'.sto)) = some (v, σ') := by
  intro hr
  obtain ⟨vs, d, a1, a2, a3, a4⟩ := Wx hr g3 (by simp) g4
  simp only [List.map_nil, List.nil_append] at a2 a4
  simp only [Out.done.injEq] at a1
  obtain ⟨rfl, rfl⟩ := a1
  rw [resEx_sound a2 a3 a4]
  rfl
 unfold runFun
 rw [if_pos hlen, g1]
 simp only at g2
 split at g2
 ·exact fin g2
 ·exact fin g2
 ·cases g2
end
end Go.Proofs.YtdibpeknpmhknaaGreat
namespace Go.Proofs.YtdibpeknpmhknaaGreat
open Go Go.RowKit
def treeOf (P : Program) (h : Vj) (fn : Func) : Option (Nat × T) :=
 match Jf P h fn with
 | some F => (symbFun F).map λt=> (F.npar, t)
 | none => none
def Qr (P : Program) (f : FuncId) (np : Nat) (t : T) : Prop := ∃ fn h, P.funcs[f]? = some fn ∧ (fn.name == "runtime.NumGoroutine") = false ∧ treeOf P h fn = some (np, t)
theorem Qr.knows {P : Program} {f : FuncId} {np : Nat} {t : T} (hk : Qr P f np t) : ∃ F, Knows P f F ∧ F.npar = np ∧ symbFun F = some t := by
 obtain ⟨fn, h, h1, h2, h3⟩ := hk
 unfold treeOf at h3
 split at h3
 ·rename_i F hF
  simp only [Option.map_eq_some_iff, Prod.mk.injEq] at h3
  obtain ⟨t', ht, rfl, rfl⟩ := h3
  exact ⟨F, ⟨fn, h, h1, h2, hF⟩, rfl, ht⟩
 ·cases h3
theorem evJ_sound {P : Program} {Gl : List (Nat × Value)} {prog : Nat → Option JT} (hb : ∀ f np t, prog f = some (.body np t) → Qr P f np t) (hp : ∀ f sem, prog f = some (.prim sem) → XW P Gl f sem) :
  ∀ n, (∀ f, XW P Gl f (cpJ prog n f)) ∧ ∀ f, Un P Gl f (ciJ prog n f)
 | 0 => ⟨fun f I w ds vs r _ _ _ hr => by simp [cpJ, evJ] at hr, fun f V σ σ' w ds vs r _ _ _ hr => by simp [ciJ, evJ] at hr⟩
 | n + 1 => by
  obtain ⟨ihp, ihi⟩ := evJ_sound hb hp n
  refine ⟨fun f I w ds vs r hI hG hv hr => ?_, fun f V σ σ' w ds vs r hi hG hv hr => ?_⟩
  ·unfold cpJ evJ at hr
   split at hr
   ·rename_i np t hF
    obtain ⟨F, hk, rfl, ht⟩ := (hb f np t hF).knows
    split at hr
    ·rename_i hlen
     split at hr
     ·rename_i v σ hd
      simp only [Option.map_eq_some_iff] at hr
      obtain ⟨x, ⟨z, hz, rfl⟩, rfl⟩ := hr
      have hy := Uy ht hlen hd
      refine ⟨hk.callable, ?_⟩
      refine (fun_sound (cp := cpJ prog n) (ci := ciJ prog n) ihp ihi hk VI_inv (hG.ext fun b n hn => ⟨Ys.2 ⟨hI b n hn, hn⟩, rfl⟩) hv.open' hy).mono ?_
      rintro e w' ⟨v, V', rfl, ha, hinv, hrel⟩
      obtain ⟨q1, q2⟩ := hand_sound ha hinv hrel hz
      exact ⟨v, rfl, q1, q2⟩
     ·simp at hr
    ·simp at hr
   ·rename_i sem hF
    simp only [Option.map_eq_some_iff] at hr
    obtain ⟨x, ⟨y, hy, rfl⟩, rfl⟩ := hr
    exact hp f sem hF I w ds vs y hI hG hv hy
   ·simp at hr
  ·unfold ciJ evJ at hr
   split at hr
   ·rename_i np t hF
    obtain ⟨F, hk, rfl, ht⟩ := (hb f np t hF).knows
    split at hr
    ·rename_i hlen
     split at hr
     ·rename_i v σ2 hd
      simp only [Option.some.injEq, Prod.mk.injEq] at hr
      obtain ⟨rfl, rfl⟩ := hr
      have hy := Uy ht hlen hd
      exact ⟨hk.callable, fun_sound (cp := cpJ prog n) (ci := ciJ prog n) ihp ihi hk hi hG hv.open' hy⟩
     ·simp at hr
    ·simp at hr
   ·cases hr
def Qy (slots fns : List (Nat × Nat)) (pts : List Nat := []) : Vj := { slot := λn=> (slots.lookup n).getD 0, fn := λn=> (fns.lookup n).getD 0, pt := λt=> pts.contains t }
def JOk (P : Program) (Gl : List (Nat × Value)) : Nat × JT → Prop
 | (f, .body np t) => Qr P f np t
 | (f, .prim sem) => XW P Gl f sem
def AllJ (P : Program) (Gl : List (Nat × Value)) : List (Nat × JT) → Prop
 | [] => True
 | p :: ps => JOk P Gl p ∧ AllJ P Gl ps
def progJ (t : List (Nat × JT)) : Nat → Option JT := λf=> t.lookup f
theorem AllJ.get {P : Program} {Gl : List (Nat × Value)} : ∀ {t : List (Nat × JT)}, AllJ P Gl t → ∀ {f : Nat} {x : JT}, t.lookup f = some x → JOk P Gl (f, x)
 | [], _, f, x, h => by simp at h
 | p :: ps, ha, f, x, h => by
  obtain ⟨q, y⟩ := p
  simp only [AllJ] at ha
  rw [List.lookup_cons] at h
  split at h
  ·rename_i e
   simp only [Option.some.injEq] at h
   subst h
   have : f = q := by simpa using e
   subst this
   exact ha.1
  ·exact ha.2.get h
theorem allJ_sound {P : Program} {Gl : List (Nat × Value)} {t : List (Nat × JT)} (h : AllJ P Gl t) (n : Nat) : (∀ f, XW P Gl f (cpJ (progJ t) n f)) ∧ ∀ f, Un P Gl f (ciJ (progJ t) n f) :=
 evJ_sound (fun f np t hF => h.get hF) (fun f sem hF => h.get hF) n
end Go.Proofs.YtdibpeknpmhknaaGreat
namespace Go.Proofs.YtdibpeknpmhknaaGreat
open Go
instance vEx (n : Nat) : OfNat Ex n := ⟨.v n⟩
abbrev q (o : POp) (xs : List Ex) (k : T) : T := .p (.p o) xs none k
abbrev qt (o : POp) (xs : List Ex) (g : Nat) (k : T) : T := .p (.p o) xs (some (g, true)) k
abbrev qf (o : POp) (xs : List Ex) (g : Nat) (k : T) : T := .p (.p o) xs (some (g, false)) k
def T3 : T :=
(.p .box [0] none
(q (.fld 0 (some 17)) [2]
(q (.call 8) [3]
(q (.un .not) [4]
(qf (.mv) [1] 5
(qf (.lenSl) [6] 5
(qf (.bin .gtr) [7, .k (.int .i64 40)] 5
(q (.pick) [5, .k (.bool true), 8]
(.ite (.v 9) (q (.call 9) []
(.ret [10]))
(q (.fld 0 (some 17)) [2]
(.s (.callI 10) [10] none
(q (.fld 0 (some 17)) [2]
(q (.call 11) [12]
(q (.ext 0) [13]
(q (.ext 1) [13]
(.p (.wr 0 18) [.k (.agg [.nils, .nils, .nils, .nils, .nils, .nils, .nils, .nils, .nils, .nils, .nils, .nils, .nils, .nils, .nils, .nils, .nils, .nils]), 14] none
(q (.un .not) [15]
(qf (.mv) [11] 17
(qf (.isnil 1 false) [18] 17
(q (.pick) [17, .k (.bool true), 19]
(.ite (.v 20) (q (.isnil 1 true) [11]
(q (.eqb false) [15, 21]
(qt (.call 9) [] 22
(q (.pick) [22, 23, .k (.bool false)]
(.ret [24])))))
(q (.fld 0 (some 18)) [16]
(.s (.callI 12) [11, 21, 1] none
(q (.ext 0) [22]
(q (.ext 1) [22]
(.p (.wr 0 18) [16, 23] none
(qt (.mv) [11] 24
(qt (.fld 0 (some 18)) [25] 24
(.s (.callI 13) [26, 27] (some (24, true))
(q (.pick) [24, 28, .k (.bool false)]
(qt (.call 9) [] 29
(q (.pick) [29, 30, .k (.bool false)]
(.ret [31])))))))))))))))))))))))))))))))))
def H3 : List (Nat × Nat) := [(6, 8), (2, 4)]
def T4 : T :=
(.p .box [0] none
(q (.fld 0 (some 17)) [1]
(q (.call 8) [2]
(q (.un .not) [3]
(qf (.fld 17 (some 17)) [1] 4
(qf (.call 8) [5] 4
(qf (.un .not) [6] 4
(q (.pick) [4, .k (.bool true), 7]
(qf (.fld 34 none) [1] 8
(qf (.lenSl) [9] 8
(qf (.bin .gtr) [10, .k (.int .i64 20)] 8
(q (.pick) [8, .k (.bool true), 11]
(qf (.fld 35 none) [1] 12
(qf (.lenSl) [13] 12
(qf (.bin .gtr) [14, .k (.int .i64 20)] 12
(q (.pick) [12, .k (.bool true), 15]
(.ite (.v 16) (q (.call 9) []
(.ret [17]))
(q (.fld 0 (some 17)) [1]
(.s (.callI 10) [17] none
(q (.fld 0 (some 17)) [1]
(q (.call 11) [19]
(q (.ext 0) [20]
(q (.ext 1) [20]
(.p (.wr 0 18) [.k (.agg [.nils, .nils, .nils, .nils, .nils, .nils, .nils, .nils, .nils, .nils, .nils, .nils, .nils, .nils, .nils, .nils, .nils, .nils]), 21] none
(q (.isnil 1 false) [18]
(qf (.mv) [22] 24
(qf (.un .not) [25] 24
(q (.pick) [24, .k (.bool true), 26]
(.ite (.v 27) (q (.isnil 1 true) [18]
(q (.eqb false) [28, 22]
(qt (.call 9) [] 29
(q (.pick) [29, 30, .k (.bool false)]
(.ret [31])))))
(q (.fld 0 (some 18)) [23]
(q (.fld 34 none) [1]
(.s (.callI 12) [18, 28, 29] none
(q (.ext 0) [30]
(q (.ext 1) [30]
(.p (.wr 0 18) [23, 31] none
(q (.un .not) [32]
(.ite (.v 34) (.ret [.k (.bool false)])
(q (.fld 0 (some 17)) [1]
(q (.fld 17 (some 17)) [1]
(.s (.callI 14) [18, 35, 36] none
(q (.ext 0) [37]
(q (.ext 1) [37]
(q (.ext 2) [37]
(q (.fld 0 (some 18)) [33]
(q (.fld 0 (some 17)) [1]
(q (.fld 17 (some 17)) [1]
(q (.call 15) [41, 42, 43]
(q (.ext 0) [44]
(q (.ext 1) [44]
(q (.ext 2) [44]
(.p (.wr 0 18) [.k (.agg [.nils, .nils, .nils, .nils, .nils, .nils, .nils, .nils, .nils, .nils, .nils, .nils, .nils, .nils, .nils, .nils, .nils, .nils]), 45] none
(q (.bin .neq) [39, 46]
(qf (.mv) [40] 49
(qf (.mv) [47] 49
(qf (.bin .neq) [50, 51] 49
(q (.pick) [49, .k (.bool true), 52]
(qf (.mv) [18] 53
(qf (.fld 0 (some 18)) [33] 53
(.s (.callI 13) [54, 55] (some (53, false))
(qf (.un .not) [56] 53
(q (.pick) [53, .k (.bool true), 57]
(.ite (.v 58) (.ret [.k (.bool false)])
(q (.bin .neq) [40, .k (.int .i64 0)]
(.ite (.v 59) (q (.isnil 1 false) [38]
(qt (.call 9) [] 60
(q (.pick) [60, 61, .k (.bool false)]
(.ret [62]))))
(q (.fld 0 (some 18)) [48]
(q (.fld 35 none) [1]
(.s (.callI 12) [38, 60, 61] none
(q (.ext 0) [62]
(q (.ext 1) [62]
(.p (.wr 0 18) [48, 63] none
(q (.un .not) [64]
(qf (.mv) [38] 66
(qf (.fld 0 (some 18)) [65] 66
(.s (.callI 13) [67, 68] (some (66, false))
(qf (.un .not) [69] 66
(q (.pick) [66, .k (.bool true), 70]
(.ite (.v 71) (.ret [.k (.bool false)])
(q (.fld 17 (some 17)) [1]
(q (.fld 0 (some 17)) [1]
(.s (.callI 14) [38, 72, 73] none
(q (.ext 0) [74]
(q (.ext 1) [74]
(q (.ext 2) [74]
(q (.fld 0 (some 18)) [65]
(q (.fld 17 (some 17)) [1]
(q (.fld 0 (some 17)) [1]
(q (.call 15) [78, 79, 80]
(q (.ext 0) [81]
(q (.ext 1) [81]
(q (.ext 2) [81]
(.p (.wr 0 18) [.k (.agg [.nils, .nils, .nils, .nils, .nils, .nils, .nils, .nils, .nils, .nils, .nils, .nils, .nils, .nils, .nils, .nils, .nils, .nils]), 82] none
(q (.bin .eql) [76, 83]
(qt (.mv) [77] 86
(qt (.mv) [84] 86
(qt (.bin .eql) [87, 88] 86
(q (.pick) [86, 89, .k (.bool false)]
(qt (.mv) [77] 90
(qt (.bin .neq) [91, .k (.int .i64 0)] 90
(qt (.mv) [92] 90
(qf (.mv) [75] 93
(qf (.fld 0 (some 18)) [85] 93
(.s (.callI 13) [94, 95] (some (93, false))
(qt (.pick) [93, .k (.bool true), 96] 90
(q (.pick) [90, 97, .k (.bool false)]
(qt (.call 9) [] 98
(q (.pick) [98, 99, .k (.bool false)]
(.ret [100])))))))))))))))))))))))))))))))))))))))))))))))))))))))))))))))))))))))))))))))))))))))))))))))))))))))))))
def H4 : List (Nat × Nat) := [(13, 15), (140, 3), (138, 3), (130, 3), (128, 3), (113, 3), (9, 11), (83, 3), (81, 3), (73, 3), (71, 3), (62, 3), (4, 6), (41, 3), (37, 3), (31, 3), (25, 3), (19, 3), (14, 3), (1, 3)]
def T5 : T :=
(.p .box [0] none
(q (.fld 0 (some 17)) [2]
(q (.call 8) [3]
(q (.un .not) [4]
(qf (.mv) [1] 5
(qf (.lenSl) [6] 5
(qf (.bin .gtr) [7, .k (.int .i64 40)] 5
(q (.pick) [5, .k (.bool true), 8]
(.ite (.v 9) (q (.call 9) []
(.ret [10]))
(q (.fld 0 (some 17)) [2]
(.s (.callI 10) [10] none
(q (.isnil 1 false) [11]
(.ite (.v 12) (q (.call 9) []
(.ret [13]))
(.loop 0 [.k (.int .i64 0), .k (.bool false)] (q (.lenSl) [1]
(q (.bin .lss) [13, 15]
(.ite (.v 16) (q (.idxS 7) [1, 13]
(q (.ldE (some 7)) [17]
(.s (.callI 16) [11, 18] none
(q (.ext 0) [19]
(q (.ext 1) [19]
(q (.bin .neq) [21, .k (.int .i64 0)]
(.ite (.v 22) (q (.bin .add) [13, .k (.int .i64 1)]
(.next 0 [23, 14]))
(.s (.callI 17) [11, 20] none
(q (.ext 0) [23]
(q (.ext 1) [23]
(.p (.wr 0 7) [.k (.agg [(.int .i64 0), (.int .i64 0), (.int .i64 0), (.int .i64 0), (.int .u64 0), (.int .i64 0), (.int .u64 0)]), 24] none
(q (.un .not) [25]
(qf (.fld 0 (some 7)) [26] 27
(qf (.mv) [1] 27
(qf (.mv) [13] 27
(qf (.idxS 7) [29, 30] 27
(qf (.ldE (some 7)) [31] 27
(qf (.eqa true [.i .i64, .i .i64, .i .i64, .i .i64, .i .u64, .i .i64, .i .u64]) [28, 32] 27
(q (.pick) [27, .k (.bool true), 33]
(qf (.mv) [11] 34
(qf (.mv) [20] 34
(.s (.callI 18) [35, 36] (some (34, false))
(qf (.un .not) [37] 34
(q (.pick) [34, .k (.bool true), 38]
(.ite (.v 39) (.ret [.k (.bool false)])
(q (.bin .add) [13, .k (.int .i64 1)]
(.next 0 [40, 14])))))))))))))))))))))))))))
(q (.fld 0 (some 17)) [2]
(q (.fld 0 (some 17)) [2]
(.s (.callI 14) [11, 17, 18] none
(q (.ext 0) [19]
(q (.ext 1) [19]
(q (.ext 2) [19]
(q (.bin .neq) [22, .k (.int .i64 0)]
(qf (.mv) [21] 23
(qf (.bin .neq) [24, .k (.int .i64 0)] 23
(q (.pick) [23, .k (.bool true), 25]
(qf (.mv) [20] 26
(qf (.isnil 1 false) [27] 26
(q (.pick) [26, .k (.bool true), 28]
(qf (.mv) [20] 29
(.s (.callI 19) [30] (some (29, false))
(qf (.mv) [11] 29
(.s (.callI 19) [32] (some (29, false))
(qf (.bin .neq) [31, 33] 29
(q (.pick) [29, .k (.bool true), 34]
(.ite (.v 35) (.ret [.k (.bool false)])
(.loop 1 [.k (.int .i64 1), 14] (.s (.callI 19) [11] none
(q (.bin .leq) [36, 38]
(.ite (.v 39) (.s (.callI 17) [11, 36] none
(q (.ext 0) [40]
(q (.ext 1) [40]
(.p (.wr 0 7) [.k (.agg [(.int .i64 0), (.int .i64 0), (.int .i64 0), (.int .i64 0), (.int .u64 0), (.int .i64 0), (.int .u64 0)]), 41] none
(q (.fld 0 (some 7)) [43]
(.s (.callI 16) [11, 44] none
(q (.ext 0) [45]
(q (.ext 1) [45]
(.s (.callI 17) [20, 36] none
(q (.ext 0) [48]
(q (.ext 1) [48]
(.p (.wr 0 7) [.k (.agg [(.int .i64 0), (.int .i64 0), (.int .i64 0), (.int .i64 0), (.int .u64 0), (.int .i64 0), (.int .u64 0)]), 49] none
(q (.bin .neq) [47, .k (.int .i64 0)]
(qf (.mv) [46] 52
(qf (.mv) [36] 52
(qf (.bin .gtr) [53, 54] 52
(q (.pick) [52, .k (.bool true), 55]
(qf (.mv) [46] 56
(qf (.bin .lss) [57, .k (.int .i64 1)] 56
(q (.pick) [56, .k (.bool true), 58]
(qf (.mv) [50] 59
(qf (.un .not) [60] 59
(q (.pick) [59, .k (.bool true), 61]
(qf (.fld 0 (some 7)) [43] 62
(qf (.fld 0 (some 7)) [51] 62
(qf (.eqa true [.i .i64, .i .i64, .i .i64, .i .i64, .i .u64, .i .i64, .i .u64]) [63, 64] 62
(q (.pick) [62, .k (.bool true), 65]
(.ite (.v 66) (.ret [.k (.bool false)])
(q (.bin .add) [36, .k (.int .i64 1)]
(.next 1 [67, 37]))))))))))))))))))))))))))))))
(q (.call 9) []
(.ret [40])))))))))))))))))))))))))))))))))))))))))))
def H5 : List (Nat × Nat) := [(19, 21), (15, 17), (64, 1), (9, 11), (45, 1), (2, 4)]
def T6 : T :=
(.p .box [0] none
(q (.fld 0 (some 17)) [3]
(q (.call 8) [4]
(q (.un .not) [5]
(qf (.mv) [1] 6
(qf (.lenSl) [7] 6
(qf (.bin .gtr) [8, .k (.int .i64 40)] 6
(q (.pick) [6, .k (.bool true), 9]
(qf (.mv) [2] 10
(qf (.lenSl) [11] 10
(qf (.bin .gtr) [12, .k (.int .i64 40)] 10
(q (.pick) [10, .k (.bool true), 13]
(.ite (.v 14) (q (.call 9) []
(.ret [15]))
(q (.fld 0 (some 17)) [3]
(.s (.callI 10) [15] none
(q (.fld 0 (some 17)) [3]
(q (.call 11) [17]
(q (.ext 0) [18]
(q (.ext 1) [18]
(.p (.wr 0 18) [.k (.agg [.nils, .nils, .nils, .nils, .nils, .nils, .nils, .nils, .nils, .nils, .nils, .nils, .nils, .nils, .nils, .nils, .nils, .nils]), 19] none
(q (.isnil 1 false) [16]
(qf (.mv) [20] 22
(qf (.un .not) [23] 22
(q (.pick) [22, .k (.bool true), 24]
(.ite (.v 25) (q (.isnil 1 true) [16]
(q (.eqb false) [26, 20]
(qt (.call 9) [] 27
(q (.pick) [27, 28, .k (.bool false)]
(.ret [29])))))
(q (.fld 0 (some 18)) [21]
(.s (.callI 12) [16, 26, 1] none
(q (.ext 0) [27]
(q (.ext 1) [27]
(.p (.wr 0 18) [21, 28] none
(.s (.callI 20) [16] none
(q (.un .not) [29]
(qf (.mv) [31] 32
(qf (.isnil 1 false) [33] 32
(q (.pick) [32, .k (.bool true), 34]
(.ite (.v 35) (.ret [.k (.bool false)])
(q (.fld 0 (some 18)) [30]
(.s (.callI 12) [16, 36, 2] none
(q (.ext 0) [37]
(q (.ext 1) [37]
(.p (.wr 0 18) [.k (.agg [.nils, .nils, .nils, .nils, .nils, .nils, .nils, .nils, .nils, .nils, .nils, .nils, .nils, .nils, .nils, .nils, .nils, .nils]), 38] none
(qt (.mv) [31] 39
(qt (.fld 0 (some 18)) [30] 39
(.s (.callI 13) [41, 42] (some (39, true))
(q (.pick) [39, 43, .k (.bool false)]
(qt (.mv) [16] 44
(qt (.fld 0 (some 18)) [40] 44
(.s (.callI 13) [45, 46] (some (44, true))
(q (.pick) [44, 47, .k (.bool false)]
(qt (.call 9) [] 48
(q (.pick) [48, 49, .k (.bool false)]
(.ret [50]))))))))))))))))))))))))))))))))))))))))))))))))))))
def H6 : List (Nat × Nat) := [(11, 13), (8, 10), (3, 5)]
def T7 : T :=
(.p .box [0] none
(.p .box [1] none
(q (.fld 0 (some 17)) [3]
(q (.call 8) [5]
(q (.un .not) [6]
(.ite (.v 7) (q (.call 9) []
(.ret [8]))
(q (.build [.nilp, .nils, .nilm] []) []
(.s (.box) [8] none
(q (.bslice true 1) [.k .nilp, 9]
(q (.lenSl) [10]
(.loop 0 [.k (.int .i64 0), .k (.bool false)] (q (.bin .lss) [12, 11]
(.ite (.v 14) (q (.idxS 1) [10, 12]
(q (.ldE none) [15]
(q (.fld 0 (some 7)) [4]
(.s (.callI 16) [16, 17] none
(q (.ext 0) [18]
(q (.ext 1) [18]
(.s (.callI 17) [16, 2] none
(q (.ext 0) [21]
(q (.ext 1) [21]
(.p (.wr 0 7) [.k (.agg [(.int .i64 0), (.int .i64 0), (.int .i64 0), (.int .i64 0), (.int .u64 0), (.int .i64 0), (.int .u64 0)]), 22] none
(.s (.callI 21) [16, 2] none
(q (.ext 0) [25]
(q (.ext 1) [25]
(.s (.callI 22) [16, 2] none
(q (.ext 0) [28]
(q (.ext 1) [28]
(q (.fld 0 (some 17)) [3]
(q (.fld 0 (some 17)) [3]
(.s (.callI 14) [16, 31, 32] none
(q (.ext 0) [33]
(q (.ext 1) [33]
(q (.ext 2) [33]
(q (.bin .neq) [19, .k (.int .i64 0)]
(qf (.mv) [20] 37
(qf (.bin .neq) [38, .k (.int .i64 1)] 37
(q (.pick) [37, .k (.bool true), 39]
(qf (.fld 0 (some 7)) [24] 40
(qf (.build [(.int .i64 0), (.int .i64 0), (.int .i64 0), (.int .i64 0), (.int .u64 0), (.int .i64 0), (.int .u64 0)] []) [] 40
(qf (.eqa true [.i .i64, .i .i64, .i .i64, .i .i64, .i .u64, .i .i64, .i .u64]) [41, 42] 40
(q (.pick) [40, .k (.bool true), 43]
(qf (.mv) [23] 44
(q (.pick) [44, .k (.bool true), 45]
(qf (.mv) [26] 46
(qf (.bin .neq) [47, .k (.str [])] 46
(q (.pick) [46, .k (.bool true), 48]
(qf (.mv) [27] 49
(q (.pick) [49, .k (.bool true), 50]
(qf (.mv) [29] 51
(qf (.bin .neq) [52, .k (.str [])] 51
(q (.pick) [51, .k (.bool true), 53]
(qf (.mv) [30] 54
(q (.pick) [54, .k (.bool true), 55]
(qf (.mv) [16] 56
(qf (.mv) [2] 56
(.s (.callI 18) [57, 58] (some (56, false))
(q (.pick) [56, .k (.bool true), 59]
(qf (.mv) [16] 60
(.s (.callI 19) [61] (some (60, false))
(qf (.bin .neq) [62, .k (.int .i64 0)] 60
(q (.pick) [60, .k (.bool true), 63]
(qf (.mv) [34] 64
(qf (.isnil 1 true) [65] 64
(q (.pick) [64, .k (.bool true), 66]
(qf (.mv) [35] 67
(qf (.bin .neq) [68, .k (.int .i64 0)] 67
(q (.pick) [67, .k (.bool true), 69]
(qf (.mv) [36] 70
(qf (.bin .neq) [71, .k (.int .i64 1)] 70
(q (.pick) [70, .k (.bool true), 72]
(qf (.mv) [16] 73
(.s (.callI 20) [74] (some (73, false))
(qf (.isnil 1 true) [75] 73
(q (.pick) [73, .k (.bool true), 76]
(.ite (.v 77) (.ret [.k (.bool false)])
(q (.bin .add) [12, .k (.int .i64 1)]
(.next 0 [78, 13]))))))))))))))))))))))))))))))))))))))))))))))))))))))))))))))))))
(q (.call 9) []
(.ret [15])))))))))))))))
def H7 : List (Nat × Nat) := [(11, 13), (30, 1), (4, 6), (3, 5)]
def T8 : T :=
(.p .box [0] none
(q (.fld 0 (some 17)) [1]
(q (.call 23) [2]
(qt (.fld 0 (some 17)) [1] 3
(qt (.call 24) [4] 3
(qt (.bin .eql) [5, .k (.int .i64 0)] 3
(q (.pick) [3, 6, .k (.bool false)]
(.ret [7]))))))))
def H8 : List (Nat × Nat) := [(1, 3)]
def T9 : T :=
(q (.call 25) []
(.p (.wr 0 17) [.k (.agg [.nils, .nils, .nils, .nils, .nils, .nils, .nils, .nils, .nils, .nils, .nils, .nils, .nils, .nils, .nils, .nils, .nils]), 0] none
(q (.fld 0 (some 17)) [1]
(.s (.callI 10) [2] none
(q (.isnil 1 false) [3]
(.ite (.v 4) (.ret [.k (.bool false)])
(q (.call 26) []
(.s (.callI 16) [3, 5] none
(q (.ext 0) [6]
(q (.ext 1) [6]
(q (.call 27) []
(.s (.callI 16) [3, 9] none
(q (.ext 0) [10]
(q (.ext 1) [10]
(q (.fld 0 (some 17)) [1]
(.p (.wr 0 17) [.k (.agg [.nils, .nils, .nils, .nils, .nils, .nils, .nils, .nils, .nils, .nils, .nils, .nils, .nils, .nils, .nils, .nils, .nils]), 13] none
(q (.bslice false 9) []
(q (.fld 3 none) [1]
(.s (.appM 9) [15, 16] none
(.p (.wr 3 1) [14, 17] none
(q (.fld 3 none) [18]
(q (.build [(.int .u64 0), (.int .u64 0), (.int .u64 0), (.int .u64 0)] [(0, 1)]) [.k (.int .u64 1)]
(q (.idxS 9) [19, .k (.int .i64 1)]
(q (.off 1) [21]
(.s (.st 4) [22, 20] none
(q (.fld 0 (some 17)) [1]
(q (.fld 0 (some 17)) [18]
(.s (.callI 14) [3, 24, 25] none
(q (.ext 0) [26]
(q (.ext 1) [26]
(q (.ext 2) [26]
(q (.bin .neq) [29, .k (.int .i64 0)]
(qf (.mv) [27] 30
(qf (.isnil 1 false) [31] 30
(q (.pick) [30, .k (.bool true), 32]
(.ite (.v 33) (.ret [.k (.bool false)])
(.s (.callI 22) [27, .k (.int .i64 4)] none
(q (.ext 0) [34]
(q (.ext 1) [34]
(.s (.callI 21) [27, .k (.int .i64 2)] none
(q (.ext 0) [37]
(q (.ext 1) [37]
(q (.fld 0 (some 17)) [18]
(q (.fld 0 (some 17)) [1]
(.s (.callI 14) [27, 40, 41] none
(q (.ext 0) [42]
(q (.ext 1) [42]
(q (.ext 2) [42]
(q (.bin .eql) [7, .k (.int .i64 4)]
(qt (.mv) [8] 46
(qt (.bin .eql) [47, .k (.int .i64 0)] 46
(q (.pick) [46, 48, .k (.bool false)]
(qt (.mv) [11] 49
(qt (.bin .eql) [50, .k (.int .i64 2)] 49
(q (.pick) [49, 51, .k (.bool false)]
(qt (.mv) [12] 52
(qt (.bin .eql) [53, .k (.int .i64 0)] 52
(q (.pick) [52, 54, .k (.bool false)]
(qt (.mv) [28] 55
(qt (.bin .eql) [56, .k (.int .i64 1)] 55
(q (.pick) [55, 57, .k (.bool false)]
(qt (.mv) [27] 58
(.s (.callI 18) [59, .k (.int .i64 4)] (some (58, true))
(qt (.un .not) [60] 58
(q (.pick) [58, 61, .k (.bool false)]
(qt (.mv) [35] 62
(qt (.bin .eql) [63, .k (.str [114, 111, 111, 116, 58, 115, 121, 115, 116, 101, 109, 58, 117, 115, 101, 114, 95, 116, 58, 115, 48])] 62
(q (.pick) [62, 64, .k (.bool false)]
(qt (.mv) [36] 65
(q (.pick) [65, 66, .k (.bool false)]
(qt (.mv) [38] 67
(qt (.bin .eql) [68, .k (.str [114, 111, 111, 116])] 67
(q (.pick) [67, 69, .k (.bool false)]
(qt (.mv) [39] 70
(q (.pick) [70, 71, .k (.bool false)]
(qt (.mv) [45] 72
(qt (.bin .eql) [73, .k (.int .i64 0)] 72
(q (.pick) [72, 74, .k (.bool false)]
(qt (.mv) [44] 75
(qt (.bin .eql) [76, .k (.int .i64 0)] 75
(q (.pick) [75, 77, .k (.bool false)]
(qt (.mv) [43] 78
(qt (.isnil 1 true) [79] 78
(q (.pick) [78, 80, .k (.bool false)]
(qt (.mv) [43] 81
(.s (.callI 18) [82, .k (.int .i64 4)] (some (81, true))
(q (.pick) [81, 83, .k (.bool false)]
(.ret [84]))))))))))))))))))))))))))))))))))))))))))))))))))))))))))))))))))))))))))))))))))))))))
def H9 : List (Nat × Nat) := [(39, 999999), (41, 9), (40, 9), (37, 3), (7, 9), (1, 3)]
def T10 : T :=
(.p .box [0] none
(q (.fld 0 (some 17)) [1]
(q (.call 28) [2]
(q (.un .not) [3]
(.ite (.v 4) (.ret [.k .nilp])
(q (.fld 0 (some 17)) [1]
(.s (.callI 29) [5] none
(q (.fld 14 none) [1]
(q (.lenSl) [7]
(.loop 0 [.k (.int .i64 0)] (q (.bin .lss) [9, 8]
(.ite (.v 10) (q (.idxS 8) [7, 9]
(q (.ldE (some 8)) [11]
(.p (.wr 0 8) [.k (.agg [(.str []), (.int .i64 0), (.int .i64 0), (.int .i64 0), (.int .i64 0), (.int .u64 0), (.int .i64 0), (.int .u64 0)]), 12] none
(q (.fld 0 none) [13]
(q (.fld 1 (some 7)) [13]
(.s (.callI 30) [6, 14, 15] none
(q (.bin .add) [9, .k (.int .i64 1)]
(.next 0 [17]))))))))
(.ret [6])))))))))))))
def H10 : List (Nat × Nat) := [(21, 7), (19, 7), (5, 7), (16, 1), (11, 3), (1, 3)]
def T11 : T :=
(.p .box [0] none
(q (.fld 0 (some 17)) [1]
(q (.call 31) [2]
(q (.un .not) [3]
(.ite (.v 4) (q (.build [.nils, .nils, .nils, .nils, .nils, .nils, .nils, .nils, .nils, .nils, .nils, .nils, .nils, .nils, .nils, .nils, .nils, .nils] []) []
(.p (.wr 0 18) [.k (.agg [.nils, .nils, .nils, .nils, .nils, .nils, .nils, .nils, .nils, .nils, .nils, .nils, .nils, .nils, .nils, .nils, .nils, .nils]), 5] none
(q (.fld 0 (some 18)) [6]
(.ret [7, .k (.bool false)]))))
(q (.fld 0 (some 17)) [1]
(q (.build [.nils, .nils, .nils, .nils, .nils, .nils, .nils, .nils, .nils, .nils, .nils, .nils, .nils, .nils, .nils, .nils, .nils, .nils] [(0, 17)]) [5]
(.p (.wr 0 18) [.k (.agg [.nils, .nils, .nils, .nils, .nils, .nils, .nils, .nils, .nils, .nils, .nils, .nils, .nils, .nils, .nils, .nils, .nils, .nils]), 6] none
(.loop 0 [.k (.int .i64 0), 7] (q (.fld 14 none) [1]
(q (.lenSl) [10]
(q (.bin .lss) [8, 11]
(.ite (.v 12) (q (.fld 17 none) [9]
(q (.fld 0 (some 17)) [1]
(q (.fld 14 none) [1]
(q (.idxS 8) [15, 8]
(q (.off 0) [16]
(q (.ldE none) [17]
(q (.fld 14 none) [1]
(q (.idxS 8) [19, 8]
(q (.off 1) [20]
(q (.ldE (some 7)) [21]
(q (.call 32) [14, 18, 22]
(q (.bslice false 33) [23]
(.s (.app false 33) [13, 24] none
(.p (.wr 17 1) [9, 25] none
(q (.bin .add) [8, .k (.int .i64 1)]
(.next 0 [27, 26]))))))))))))))))
(q (.fld 0 (some 18)) [9]
(.p (.wr 0 18) [.k (.agg [.nils, .nils, .nils, .nils, .nils, .nils, .nils, .nils, .nils, .nils, .nils, .nils, .nils, .nils, .nils, .nils, .nils, .nils]), 13] none
(q (.fld 0 (some 18)) [14]
(.ret [15, .k (.bool true)])))))))))))))))))
def H11 : List (Nat × Nat) := [(37, 6), (32, 1), (31, 1), (28, 3), (26, 1), (25, 1), (22, 3), (19, 6), (13, 3), (4, 6), (2, 4), (1, 3)]
def T12 : T :=
(.p .box [1] none
(.loop 0 [.k (.int .i64 0), .k (.bool false), .k (.agg [.nils, .nils, .nils, .nils, .nils, .nils, .nils, .nils, .nils, .nils, .nils, .nils, .nils, .nils, .nils, .nils, .nils, .nils]), 3] (q (.lenSl) [2]
(q (.bin .lss) [4, 8]
(.ite (.v 9) (q (.fld 0 (some 18)) [7]
(q (.idxS 7) [2, 4]
(q (.ldE (some 7)) [11]
(q (.call 33) [10, 12]
(q (.ext 0) [13]
(q (.ext 1) [13]
(q (.ext 2) [13]
(.p (.wr 0 18) [.k (.agg [.nils, .nils, .nils, .nils, .nils, .nils, .nils, .nils, .nils, .nils, .nils, .nils, .nils, .nils, .nils, .nils, .nils, .nils]), 14] none
(q (.idxS 7) [2, 4]
(q (.ldE (some 7)) [18]
(.s (.callI 16) [0, 19] none
(q (.ext 0) [20]
(q (.ext 1) [20]
(q (.bin .neq) [21, 15]
(qf (.mv) [22] 23
(qf (.mv) [16] 23
(qf (.bin .neq) [24, 25] 23
(q (.pick) [23, .k (.bool true), 26]
(.ite (.v 27) (q (.fld 0 (some 18)) [7]
(.p (.wr 0 18) [6, 28] none
(q (.fld 0 (some 18)) [29]
(.ret [30, .k (.bool false)]))))
(q (.fld 0 (some 18)) [17]
(.p (.wr 0 18) [7, 28] none
(q (.bin .add) [4, .k (.int .i64 1)]
(.next 0 [30, 5, 6, 29])))))))))))))))))))))))
(q (.fld 0 (some 18)) [7]
(.p (.wr 0 18) [6, 10] none
(q (.fld 0 (some 18)) [11]
(.ret [12, .k (.bool true)])))))))))
def H12 : List (Nat × Nat) := [(34, 1), (9, 11), (24, 1), (6, 8), (4, 6)]
def T13 : T :=
(.p .box [1] none
(q (.isnil 1 false) [0]
(qf (.mv) [0] 3
(.s (.callI 19) [4] (some (3, false))
(qf (.fld 0 (some 18)) [2] 3
(qf (.call 34) [6] 3
(qf (.bin .neq) [5, 7] 3
(q (.pick) [3, .k (.bool true), 8]
(.ite (.v 9) (.ret [.k (.bool false)])
(.loop 0 [.k (.int .i64 (-1)), .k (.bool false)] (.s (.callI 19) [0] none
(q (.bin .add) [12, .k (.int .i64 1)]
(q (.bin .leq) [10, 13]
(.ite (.v 14) (.s (.callI 17) [0, 10] none
(q (.ext 0) [15]
(q (.ext 1) [15]
(.p (.wr 0 7) [.k (.agg [(.int .i64 0), (.int .i64 0), (.int .i64 0), (.int .i64 0), (.int .u64 0), (.int .i64 0), (.int .u64 0)]), 16] none
(q (.fld 0 (some 18)) [2]
(q (.call 35) [19, 10]
(q (.ext 0) [20]
(q (.ext 1) [20]
(.p (.wr 0 7) [.k (.agg [(.int .i64 0), (.int .i64 0), (.int .i64 0), (.int .i64 0), (.int .u64 0), (.int .i64 0), (.int .u64 0)]), 21] none
(.s (.callI 21) [0, 10] none
(q (.ext 0) [24]
(q (.ext 1) [24]
(q (.fld 0 (some 18)) [2]
(q (.call 36) [27, 10]
(q (.ext 0) [28]
(q (.ext 1) [28]
(.s (.callI 22) [0, 10] none
(q (.ext 0) [31]
(q (.ext 1) [31]
(q (.fld 0 (some 18)) [2]
(q (.call 37) [34, 10]
(q (.ext 0) [35]
(q (.ext 1) [35]
(q (.fld 0 (some 7)) [18]
(q (.fld 0 (some 7)) [23]
(q (.eqa true [.i .i64, .i .i64, .i .i64, .i .i64, .i .u64, .i .i64, .i .u64]) [38, 39]
(qf (.mv) [17] 40
(qf (.mv) [22] 40
(qf (.eqb true) [41, 42] 40
(q (.pick) [40, .k (.bool true), 43]
(qf (.mv) [25] 44
(qf (.mv) [29] 44
(qf (.bin .neq) [45, 46] 44
(q (.pick) [44, .k (.bool true), 47]
(qf (.mv) [26] 48
(qf (.mv) [30] 48
(qf (.eqb true) [49, 50] 48
(q (.pick) [48, .k (.bool true), 51]
(qf (.mv) [32] 52
(qf (.mv) [36] 52
(qf (.bin .neq) [53, 54] 52
(q (.pick) [52, .k (.bool true), 55]
(qf (.mv) [33] 56
(qf (.mv) [37] 56
(qf (.eqb true) [57, 58] 56
(q (.pick) [56, .k (.bool true), 59]
(qf (.mv) [0] 60
(qf (.mv) [10] 60
(.s (.callI 18) [61, 62] (some (60, false))
(qf (.fld 0 (some 18)) [2] 60
(qf (.mv) [10] 60
(qf (.call 38) [64, 65] 60
(qf (.eqb true) [63, 66] 60
(q (.pick) [60, .k (.bool true), 67]
(.ite (.v 68) (.ret [.k (.bool false)])
(q (.bin .add) [10, .k (.int .i64 1)]
(.next 0 [69, 11])))))))))))))))))))))))))))))))))))))))))))))))))))))))))
(.ret [.k (.bool true)])))))))))))))))
def H13 : List (Nat × Nat) := [(8, 10), (6, 8), (3, 5)]
def T14 : T :=
(.p .box [1] none
(.p .box [2] none
(.s (.callI 39) [0] none
(q (.un .not) [5]
(.ite (.v 6) (.ret [.k .nilp, .k (.int .i64 0), .k (.int .i64 1)])
(q (.fld 0 (some 17)) [4]
(.s (.callS 28) [7] none
(q (.un .not) [8]
(.ite (.v 9) (.ret [.k .nilp, .k (.int .i64 0), .k (.int .i64 19)])
(q (.fld 0 (some 17)) [4]
(.s (.callI 29) [10] none
(.s (.mkmap) [] none
(q (.nilchk) [0]
(q (.off 1) [13]
(.s (.ld none) [14] none
(q (.lenSl) [15]
(.loop 0 [.k (.int .i64 0), .k (.int .i64 0)] (q (.bin .lss) [17, 16]
(.ite (.v 19) (q (.idxS 10) [15, 17]
(q (.ldE (some 10)) [20]
(.p (.wr 0 10) [.k (.agg [(.str []), .nilp, (.int .i64 0), (.int .i64 0), (.int .i64 0), (.int .i64 0), (.int .u64 0), (.int .i64 0), (.int .u64 0), (.bool false)]), 21] none
(q (.fld 0 none) [22]
(.s (.mupd false [.s]) [12, 23, .k (.bool true)] none
(q (.fld 0 (some 10)) [22]
(q (.fld 0 (some 17)) [4]
(.s (.callI 40) [25, 26, 11] none
(.p (.wr 0 10) [.k (.agg [(.str []), .nilp, (.int .i64 0), (.int .i64 0), (.int .i64 0), (.int .i64 0), (.int .u64 0), (.int .i64 0), (.int .u64 0), (.bool false)]), 27] none
(q (.fld 9 none) [28]
(q (.un .not) [29]
(.join 1 1 (.ite (.v 30) (q (.bin .add) [18, .k (.int .i64 1)]
(.next 1 [31]))
(.next 1 [18]))
(q (.fld 0 (some 10)) [28]
(.s (.callI 41) [11, 32] none
(q (.bin .add) [17, .k (.int .i64 1)]
(.next 0 [34, 31]))))))))))))))))
(q (.fld 14 none) [4]
(q (.lenSl) [20]
(.loop 1 [.k (.int .i64 0)] (q (.bin .lss) [22, 21]
(.ite (.v 23) (q (.idxS 8) [20, 22]
(q (.ldE (some 8)) [24]
(.p (.wr 0 8) [.k (.agg [(.str []), (.int .i64 0), (.int .i64 0), (.int .i64 0), (.int .i64 0), (.int .u64 0), (.int .i64 0), (.int .u64 0)]), 25] none
(q (.fld 0 none) [26]
(.s (.look false [.s] (.bool false) false) [12, 27] none
(q (.un .not) [28]
(.ite (.v 29) (q (.fld 0 none) [26]
(q (.fld 1 (some 7)) [26]
(.s (.callI 30) [11, 30, 31] none
(q (.bin .add) [22, .k (.int .i64 1)]
(.next 1 [33])))))
(q (.bin .add) [22, .k (.int .i64 1)]
(.next 1 [30])))))))))
(q (.nilchk) [11]
(q (.off 1) [24]
(.s (.ld none) [25] none
(q (.lenSl) [26]
(q (.bin .gtr) [27, .k (.int .i64 1024)]
(.ite (.v 28) (.ret [.k .nilp, .k (.int .i64 0), .k (.int .i64 25)])
(.ret [11, 18, .k (.int .i64 0)])))))))))))))))))))))))))))))))
def H14 : List (Nat × Nat) := [(23, 999998), (68, 18), (66, 18), (61, 18), (16, 18), (58, 1), (53, 7), (44, 16), (14, 16), (38, 15), (13, 15), (35, 1), (5, 7), (4, 6)]
def T15 : T :=
(.p .box [0] none
(.p .box [1] none
(.p .box [2] none
(q (.fld 0 (some 17)) [5]
(q (.call 31) [6]
(q (.un .not) [7]
(.ite (.v 8) (q (.build [.nils, .nils, .nils, .nils, .nils, .nils, .nils, .nils, .nils, .nils, .nils, .nils, .nils, .nils, .nils, .nils, .nils, .nils] []) []
(.p (.wr 0 18) [.k (.agg [.nils, .nils, .nils, .nils, .nils, .nils, .nils, .nils, .nils, .nils, .nils, .nils, .nils, .nils, .nils, .nils, .nils, .nils]), 9] none
(q (.fld 0 (some 18)) [10]
(.ret [11, .k (.int .i64 0), .k (.int .i64 19)]))))
(q (.fld 0 (some 17)) [5]
(q (.build [.nils, .nils, .nils, .nils, .nils, .nils, .nils, .nils, .nils, .nils, .nils, .nils, .nils, .nils, .nils, .nils, .nils, .nils] [(0, 17)]) [9]
(.p (.wr 0 18) [.k (.agg [.nils, .nils, .nils, .nils, .nils, .nils, .nils, .nils, .nils, .nils, .nils, .nils, .nils, .nils, .nils, .nils, .nils, .nils]), 10] none
(.loop 0 [.k (.int .i64 0), .k (.int .i64 0), 11] (q (.fld 17 none) [3]
(q (.lenSl) [15]
(q (.bin .lss) [12, 16]
(.ite (.v 17) (q (.fld 17 none) [3]
(q (.idxS 33) [18, 12]
(q (.ldE (some 33)) [19]
(q (.fld 0 (some 17)) [5]
(q (.call 42) [20, 21]
(.p (.wr 0 33) [.k (.agg [(.str []), (.int .i64 0), (.int .i64 0), (.int .i64 0), (.int .i64 0), (.int .u64 0), (.int .i64 0), (.int .u64 0), (.bool false), .nils, .nils, .nils, .nils, .nils, .nils, .nils, .nils, .nils, .nils, .nils, .nils, .nils, .nils, .nils, .nils, .nils, (.int .i64 0), (.int .i64 0), (.int .i64 0), (.int .i64 0), (.int .u64 0), (.int .i64 0), (.int .u64 0)]), 22] none
(q (.fld 17 none) [14]
(q (.fld 0 (some 33)) [23]
(q (.bslice false 33) [25]
(.s (.app false 33) [24, 26] none
(.p (.wr 17 1) [14, 27] none
(q (.fld 8 none) [23]
(q (.un .not) [29]
(.ite (.v 30) (q (.bin .add) [13, .k (.int .i64 1)]
(q (.bin .add) [12, .k (.int .i64 1)]
(.next 0 [32, 31, 28])))
(q (.bin .add) [12, .k (.int .i64 1)]
(.next 0 [31, 13, 28]))))))))))))))))
(.loop 1 [.k (.int .i64 0), 14] (q (.fld 14 none) [5]
(q (.lenSl) [20]
(q (.bin .lss) [18, 21]
(.ite (.v 22) (q (.fld 0 (some 18)) [3]
(q (.fld 14 none) [5]
(q (.idxS 8) [24, 18]
(q (.off 0) [25]
(q (.ldE none) [26]
(q (.call 43) [23, 27]
(q (.un .not) [28]
(.ite (.v 29) (q (.fld 17 none) [19]
(q (.fld 0 (some 17)) [5]
(q (.fld 14 none) [5]
(q (.idxS 8) [32, 18]
(q (.off 0) [33]
(q (.ldE none) [34]
(q (.fld 14 none) [5]
(q (.idxS 8) [36, 18]
(q (.off 1) [37]
(q (.ldE (some 7)) [38]
(q (.call 32) [31, 35, 39]
(q (.bslice false 33) [40]
(.s (.app false 33) [30, 41] none
(.p (.wr 17 1) [19, 42] none
(q (.bin .add) [18, .k (.int .i64 1)]
(.next 1 [44, 43]))))))))))))))))
(q (.bin .add) [18, .k (.int .i64 1)]
(.next 1 [30, 19]))))))))))
(q (.fld 17 none) [19]
(q (.lenSl) [23]
(q (.bin .gtr) [24, .k (.int .i64 1024)]
(.ite (.v 25) (q (.build [.nils, .nils, .nils, .nils, .nils, .nils, .nils, .nils, .nils, .nils, .nils, .nils, .nils, .nils, .nils, .nils, .nils, .nils] []) []
(.p (.wr 0 18) [.k (.agg [.nils, .nils, .nils, .nils, .nils, .nils, .nils, .nils, .nils, .nils, .nils, .nils, .nils, .nils, .nils, .nils, .nils, .nils]), 26] none
(q (.fld 0 (some 18)) [27]
(.ret [28, .k (.int .i64 0), .k (.int .i64 25)]))))
(q (.fld 0 (some 18)) [19]
(.p (.wr 0 18) [.k (.agg [.nils, .nils, .nils, .nils, .nils, .nils, .nils, .nils, .nils, .nils, .nils, .nils, .nils, .nils, .nils, .nils, .nils, .nils]), 26] none
(q (.fld 0 (some 18)) [27]
(.ret [28, 13, .k (.int .i64 0)]))))))))))))))))))))))))))))
def H15 : List (Nat × Nat) := [(80, 11), (79, 11), (74, 1), (73, 1), (70, 7), (68, 1), (67, 1), (64, 7), (61, 11), (57, 1), (56, 1), (53, 7), (46, 7), (40, 14), (39, 11), (34, 11), (12, 14), (30, 1), (27, 5), (21, 5), (9, 11), (6, 8), (5, 7), (4, 6), (3, 5)]
def T16 : T :=
(.p .box [1] none
(.s (.callI 39) [0] none
(q (.un .not) [3]
(.ite (.v 4) (.ret [.k (.int .i64 0), .k (.int .i64 1)])
(q (.nilchk) [0]
(q (.off 0) [5]
(.s (.ld none) [6] none
(q (.nilchk) [7]
(.s (.ld (some 17)) [8] none
(q (.fld 0 (some 7)) [2]
(q (.call 44) [9, 10]
(q (.bin .neq) [11, .k (.int .i64 0)]
(.ite (.v 12) (.ret [.k (.int .i64 0), 11])
(q (.nilchk) [0]
(q (.off 2) [13]
(.s (.ld none) [14] none
(q (.fld 0 (some 7)) [2]
(.s (.look true [.i .i64, .i .i64, .i .i64, .i .i64, .i .u64, .i .i64, .i .u64] (.int .i64 0) true) [15, 16] none
(q (.ext 0) [17]
(q (.ext 1) [17]
(.ite (.v 19) (.ret [18, .k (.int .i64 0)])
(q (.nilchk) [0]
(q (.off 1) [20]
(.s (.ld none) [21] none
(q (.lenSl) [22]
(q (.bin .geq) [23, .k (.int .i64 1024)]
(.ite (.v 24) (.ret [.k (.int .i64 0), .k (.int .i64 25)])
(q (.fld 0 (some 7)) [2]
(.s (.callI 30) [0, .k (.str []), 25] none
(q (.nilchk) [0]
(q (.off 1) [27]
(.s (.ld none) [28] none
(q (.lenSl) [29]
(.ret [30, .k (.int .i64 0)]))))))))))))))))))))))))))))))))))
def H16 : List (Nat × Nat) := [(3, 5)]
def T17 : T :=
(.s (.callI 45) [0, 1] none
(q (.ext 0) [2]
(q (.ext 1) [2]
(.p (.wr 0 10) [.k (.agg [(.str []), .nilp, (.int .i64 0), (.int .i64 0), (.int .i64 0), (.int .i64 0), (.int .u64 0), (.int .i64 0), (.int .u64 0), (.bool false)]), 3] none
(q (.fld 9 none) [5]
(q (.un .not) [6]
(.ite (.v 7) (q (.build [(.int .i64 0), (.int .i64 0), (.int .i64 0), (.int .i64 0), (.int .u64 0), (.int .i64 0), (.int .u64 0)] []) []
(.p (.wr 0 7) [.k (.agg [(.int .i64 0), (.int .i64 0), (.int .i64 0), (.int .i64 0), (.int .u64 0), (.int .i64 0), (.int .u64 0)]), 8] none
(q (.fld 0 (some 7)) [9]
(.ret [10, 4]))))
(q (.fld 2 (some 7)) [5]
(.p (.wr 0 7) [.k (.agg [(.int .i64 0), (.int .i64 0), (.int .i64 0), (.int .i64 0), (.int .u64 0), (.int .i64 0), (.int .u64 0)]), 8] none
(q (.fld 0 (some 7)) [9]
(.ret [10, 4])))))))))))
def H17 : List (Nat × Nat) := [(19, 8), (14, 8), (6, 8), (4, 6)]
def T18 : T :=
(.s (.callI 45) [0, 1] none
(q (.ext 0) [2]
(q (.ext 1) [2]
(.p (.wr 0 10) [.k (.agg [(.str []), .nilp, (.int .i64 0), (.int .i64 0), (.int .i64 0), (.int .i64 0), (.int .u64 0), (.int .i64 0), (.int .u64 0), (.bool false)]), 3] none
(qt (.fld 9 none) [5] 4
(q (.pick) [4, 6, .k (.bool false)]
(.ret [7])))))))
def H18 : List (Nat × Nat) := [(15, 7), (5, 7)]
def T19 : T :=
(.s (.callI 39) [0] none
(q (.un .not) [1]
(.ite (.v 2) (.ret [.k (.int .i64 0)])
(q (.nilchk) [0]
(q (.off 1) [3]
(.s (.ld none) [4] none
(q (.lenSl) [5]
(.ret [6]))))))))
def H19 : List (Nat × Nat) := []
def T20 : T :=
(.s (.callI 39) [0] none
(q (.un .not) [1]
(.ite (.v 2) (.ret [.k .nilp])
(q (.nilchk) [0]
(q (.off 0) [3]
(.s (.ld none) [4] none
(.s (.mkmap) [] none
(q (.build [.nilp, .nils, .nilm] [(0, 1), (2, 1)]) [5, 6]
(.s (.box) [7] none
(q (.nilchk) [0]
(q (.off 1) [9]
(.s (.ld none) [10] none
(q (.lenSl) [11]
(.loop 0 [.k (.int .i64 0)] (q (.bin .lss) [13, 12]
(.ite (.v 14) (q (.idxS 10) [11, 13]
(q (.ldE (some 10)) [15]
(.p (.wr 0 10) [.k (.agg [(.str []), .nilp, (.int .i64 0), (.int .i64 0), (.int .i64 0), (.int .i64 0), (.int .u64 0), (.int .i64 0), (.int .u64 0), (.bool false)]), 16] none
(q (.fld 0 (some 10)) [17]
(.s (.callI 41) [8, 18] none
(q (.bin .add) [13, .k (.int .i64 1)]
(.next 0 [20])))))))
(.ret [8])))))))))))))))))
def H20 : List (Nat × Nat) := [(5, 7), (23, 1)]
def T21 : T :=
(.s (.callI 45) [0, 1] none
(q (.ext 0) [2]
(q (.ext 1) [2]
(.p (.wr 0 10) [.k (.agg [(.str []), .nilp, (.int .i64 0), (.int .i64 0), (.int .i64 0), (.int .i64 0), (.int .u64 0), (.int .i64 0), (.int .u64 0), (.bool false)]), 3] none
(q (.fld 0 none) [5]
(qt (.fld 0 none) [5] 4
(qt (.bin .neq) [7, .k (.str [])] 4
(q (.pick) [4, 8, .k (.bool false)]
(.ret [6, 9])))))))))
def H21 : List (Nat × Nat) := [(18, 8), (14, 8), (6, 8)]
def T22 : T :=
(.s (.callI 45) [0, 1] none
(q (.ext 0) [2]
(q (.ext 1) [2]
(.p (.wr 0 10) [.k (.agg [(.str []), .nilp, (.int .i64 0), (.int .i64 0), (.int .i64 0), (.int .i64 0), (.int .u64 0), (.int .i64 0), (.int .u64 0), (.bool false)]), 3] none
(q (.un .not) [4]
(.ite (.v 6) (.ret [.k (.str []), .k (.bool false)])
(q (.fld 1 none) [5]
(q (.nilchk) [7]
(.s (.ld (some 17)) [8] none
(q (.fld 2 (some 7)) [5]
(q (.call 46) [9, 10]
(q (.ext 0) [11]
(q (.ext 1) [11]
(.ret [12, .k (.bool true)]))))))))))))))
def H22 : List (Nat × Nat) := [(23, 8), (19, 8), (6, 8)]
def T23 : T :=
(.p .box [0] none
(q (.fld 1 none) [1]
(q (.lenSl) [2]
(q (.bin .gtr) [3, .k (.int .i64 12)]
(qf (.fld 2 none) [1] 4
(qf (.lenSl) [5] 4
(qf (.bin .gtr) [6, .k (.int .i64 6)] 4
(q (.pick) [4, .k (.bool true), 7]
(qf (.fld 0 none) [1] 8
(qf (.lenSl) [9] 8
(qf (.bin .gtr) [10, .k (.int .i64 6)] 8
(q (.pick) [8, .k (.bool true), 11]
(qf (.fld 9 none) [1] 12
(qf (.lenSl) [13] 12
(qf (.bin .gtr) [14, .k (.int .i64 40)] 12
(q (.pick) [12, .k (.bool true), 15]
(qf (.fld 8 none) [1] 16
(qf (.lenSl) [17] 16
(qf (.bin .gtr) [18, .k (.int .i64 6)] 16
(q (.pick) [16, .k (.bool true), 19]
(qf (.fld 5 none) [1] 20
(qf (.lenSl) [21] 20
(qf (.bin .gtr) [22, .k (.int .i64 6)] 20
(q (.pick) [20, .k (.bool true), 23]
(qf (.fld 13 none) [1] 24
(qf (.lenSl) [25] 24
(qf (.bin .gtr) [26, .k (.int .i64 12)] 24
(q (.pick) [24, .k (.bool true), 27]
(qf (.fld 4 none) [1] 28
(qf (.lenSl) [29] 28
(qf (.bin .gtr) [30, .k (.int .i64 8)] 28
(q (.pick) [28, .k (.bool true), 31]
(qf (.fld 3 none) [1] 32
(qf (.lenSl) [33] 32
(qf (.bin .gtr) [34, .k (.int .i64 8)] 32
(q (.pick) [32, .k (.bool true), 35]
(.ite (.v 36) (.ret [.k (.bool false)])
(q (.fld 10 none) [1]
(q (.lenSl) [37]
(q (.bin .gtr) [38, .k (.int .i64 36)]
(qf (.fld 11 none) [1] 39
(qf (.lenSl) [40] 39
(qf (.bin .gtr) [41, .k (.int .i64 12)] 39
(q (.pick) [39, .k (.bool true), 42]
(qf (.fld 12 none) [1] 43
(qf (.lenSl) [44] 43
(qf (.bin .gtr) [45, .k (.int .i64 12)] 43
(q (.pick) [43, .k (.bool true), 46]
(qf (.fld 6 none) [1] 47
(qf (.lenSl) [48] 47
(qf (.bin .gtr) [49, .k (.int .i64 6)] 47
(q (.pick) [47, .k (.bool true), 50]
(qf (.fld 7 none) [1] 51
(qf (.lenSl) [52] 51
(qf (.bin .gtr) [53, .k (.int .i64 10)] 51
(q (.pick) [51, .k (.bool true), 54]
(qf (.fld 14 none) [1] 55
(qf (.lenSl) [56] 55
(qf (.bin .gtr) [57, .k (.int .i64 8)] 55
(q (.pick) [55, .k (.bool true), 58]
(qf (.fld 15 none) [1] 59
(qf (.lenSl) [60] 59
(qf (.bin .gtr) [61, .k (.int .i64 12)] 59
(q (.pick) [59, .k (.bool true), 62]
(qf (.fld 16 none) [1] 63
(qf (.lenSl) [64] 63
(qf (.bin .gtr) [65, .k (.int .i64 8)] 63
(q (.pick) [63, .k (.bool true), 66]
(.ite (.v 67) (.ret [.k (.bool false)])
(.s (.alloc [(.int .i64 0), (.int .i64 0), (.int .i64 0), (.int .i64 0)]) [] none
(.loop 0 [.k (.int .i64 0)] (q (.fld 10 none) [1]
(q (.lenSl) [70]
(q (.bin .lss) [69, 71]
(.ite (.v 72) (q (.fld 10 none) [1]
(q (.idxS 13) [73, 69]
(q (.off 0) [74]
(q (.ldE none) [75]
(q (.bin .gtr) [76, .k (.int .i64 0)]
(qt (.mv) [76] 77
(qt (.bin .lss) [78, .k (.int .i64 4)] 77
(q (.pick) [77, 79, .k (.bool false)]
(.ite (.v 80) (q (.idxA 4 1) [68, 76]
(.s (.ld none) [81] none
(q (.bin .add) [82, .k (.int .i64 1)]
(q (.idxA 4 1) [68, 76]
(.s (.st 1) [84, 83] none
(q (.bin .add) [69, .k (.int .i64 1)]
(.next 0 [86])))))))
(q (.bin .add) [69, .k (.int .i64 1)]
(.next 0 [81])))))))))))
(.loop 1 [.k (.int .i64 0), .k (.bool false)] (q (.fld 1 none) [1]
(q (.lenSl) [75]
(q (.bin .lss) [73, 76]
(.ite (.v 77) (q (.fld 1 none) [1]
(q (.idxS 3) [78, 73]
(q (.off 1) [79]
(q (.ldE none) [80]
(q (.lenSl) [81]
(q (.bin .gtr) [82, .k (.int .i64 4)]
(.ite (.v 83) (.ret [.k (.bool false)])
(q (.bin .add) [73, .k (.int .i64 1)]
(.next 1 [84, 74])))))))))
(.loop 2 [.k (.int .i64 0), 74] (q (.fld 8 none) [1]
(q (.lenSl) [80]
(q (.bin .lss) [78, 81]
(.ite (.v 82) (q (.fld 8 none) [1]
(q (.idxS 10) [83, 78]
(q (.ldE (some 10)) [84]
(q (.call 47) [85]
(q (.bin .gtr) [86, .k (.int .i64 6)]
(.ite (.v 87) (.ret [.k (.bool false)])
(q (.bin .add) [78, .k (.int .i64 1)]
(.next 2 [88, 79]))))))))
(.loop 3 [.k (.int .i64 0), 79] (q (.fld 13 none) [1]
(q (.lenSl) [85]
(q (.bin .lss) [83, 86]
(.ite (.v 87) (q (.fld 13 none) [1]
(q (.idxS 13) [88, 83]
(q (.off 3) [89]
(q (.ldE (some 10)) [90]
(q (.call 47) [91]
(q (.bin .gtr) [92, .k (.int .i64 6)]
(.ite (.v 93) (.ret [.k (.bool false)])
(q (.bin .add) [83, .k (.int .i64 1)]
(.next 3 [94, 84])))))))))
(q (.idxA 4 1) [68, .k (.int .i64 1)]
(.s (.ld none) [88] none
(q (.bin .leq) [89, .k (.int .i64 12)]
(qt (.idxA 4 1) [68, .k (.int .i64 2)] 90
(.s (.ld none) [91] (some (90, true))
(qt (.bin .leq) [92, .k (.int .i64 12)] 90
(q (.pick) [90, 93, .k (.bool false)]
(qt (.idxA 4 1) [68, .k (.int .i64 3)] 94
(.s (.ld none) [95] (some (94, true))
(qt (.bin .leq) [96, .k (.int .i64 12)] 94
(q (.pick) [94, 97, .k (.bool false)]
(.ret [98]))))))))))))))))))))))))))))))))))))))))))))))))))))))))))))))))))))))))))))))))))))))))))))))))))))))
def H23 : List (Nat × Nat) := [(171, 1), (170, 1), (167, 3), (161, 3), (156, 1), (153, 3), (147, 3), (142, 1), (141, 1), (138, 3), (132, 3), (118, 1), (117, 1), (114, 3), (108, 3), (102, 3), (96, 3), (90, 3), (84, 3), (78, 3), (72, 3), (66, 3), (61, 3), (56, 3), (50, 3), (44, 3), (38, 3), (32, 3), (26, 3), (20, 3), (14, 3), (9, 3), (1, 3)]
def T24 : T :=
(.p .box [0] none
(q (.fld 0 (some 17)) [1]
(q (.call 49) [2]
(q (.fld 0 (some 17)) [1]
(q (.call 50) [4]
(q (.fld 0 (some 17)) [1]
(q (.call 51) [6]
(q (.bslice false 1) [3, 5, 7]
(q (.call 48) [8]
(q (.bin .neq) [9, .k (.int .i64 0)]
(.ite (.v 10) (.ret [9])
(q (.fld 0 (some 17)) [1]
(q (.call 52) [11]
(q (.fld 0 (some 17)) [1]
(q (.call 53) [13]
(q (.fld 0 (some 17)) [1]
(q (.call 54) [15]
(q (.fld 0 (some 17)) [1]
(q (.call 55) [17]
(q (.fld 0 (some 17)) [1]
(q (.call 56) [19]
(q (.fld 0 (some 17)) [1]
(q (.call 57) [21]
(q (.fld 0 (some 17)) [1]
(q (.call 58) [23]
(q (.fld 0 (some 17)) [1]
(q (.call 59) [25]
(q (.bslice false 1) [12, 14, 16, 18, 20, 22, 24, 26]
(q (.call 48) [27]
(.ret [28]))))))))))))))))))))))))))))))
def H24 : List (Nat × Nat) := [(1, 3)]
def T25 : T :=
(q (.bslice false 1) [.k (.str [114, 101, 97, 100]), .k (.str [119, 114, 105, 116, 101]), .k (.str [99, 114, 101, 97, 116, 101]), .k (.str [117, 110, 108, 105, 110, 107]), .k (.str [101, 120, 101, 99, 117, 116, 101]), .k (.str [101, 110, 116, 114, 121, 112, 111, 105, 110, 116]), .k (.str [114, 101, 108, 97, 98, 101, 108, 102, 114, 111, 109]), .k (.str [114, 101, 108, 97, 98, 101, 108, 116, 111])]
(q (.bslice false 1) [.k (.str [114, 101, 97, 100]), .k (.str [119, 114, 105, 116, 101]), .k (.str [99, 114, 101, 97, 116, 101]), .k (.str [117, 110, 108, 105, 110, 107]), .k (.str [97, 100, 100]), .k (.str [114, 101, 109, 111, 118, 101]), .k (.str [114, 101, 108, 97, 98, 101, 108, 102, 114, 111, 109]), .k (.str [114, 101, 108, 97, 98, 101, 108, 116, 111])]
(q (.bslice false 1) [.k (.str [102, 111, 114, 107]), .k (.str [116, 114, 97, 110, 115, 105, 116, 105, 111, 110]), .k (.str [100, 121, 110, 116, 114, 97, 110, 115, 105, 116, 105, 111, 110]), .k (.str [115, 101, 110, 100])]
(q (.build [(.str []), .nils] [(0, 1), (1, 1)]) [.k (.str [112, 114, 111, 99, 101, 115, 115]), 2]
(q (.build [(.str []), .nils] [(0, 1), (1, 1)]) [.k (.str [102, 105, 108, 101]), 0]
(q (.build [(.str []), .nils] [(0, 1), (1, 1)]) [.k (.str [100, 105, 114]), 1]
(q (.bslice false 2) [3, 4, 5]
(q (.build [(.str []), .nils, (.bool false)] [(0, 1)]) [.k (.str [105, 110, 105, 116, 95, 116])]
(q (.build [(.str []), .nils, (.bool false)] [(0, 1)]) [.k (.str [117, 115, 101, 114, 95, 116])]
(q (.build [(.str []), .nils, (.bool false)] [(0, 1)]) [.k (.str [102, 105, 108, 101, 95, 116])]
(q (.build [(.str []), .nils, (.bool false)] [(0, 1)]) [.k (.str [115, 104, 101, 108, 108, 95, 116])]
(q (.bslice false 3) [7, 8, 9, 10]
(q (.bslice false 1) [.k (.int .i64 0), .k (.int .i64 1)]
(q (.call 60) [12]
(q (.build [(.str []), (.int .u64 0), (.int .u64 0), (.int .u64 0), (.int .u64 0)] [(0, 1), (1, 4)]) [.k (.str [100, 111, 109, 97, 105, 110]), 13]
(q (.bslice false 5) [14]
(q (.build [(.str []), (.int .u64 0), (.int .u64 0), (.int .u64 0), (.int .u64 0), (.int .u64 0), (.int .u64 0), (.int .u64 0), (.int .u64 0)] [(0, 1)]) [.k (.str [111, 98, 106, 101, 99, 116, 95, 114])]
(q (.bslice false 1) [.k (.int .i64 0), .k (.int .i64 1)]
(q (.call 60) [17]
(q (.build [(.str []), (.int .u64 0), (.int .u64 0), (.int .u64 0), (.int .u64 0), (.int .u64 0), (.int .u64 0), (.int .u64 0), (.int .u64 0)] [(0, 1), (1, 4)]) [.k (.str [115, 121, 115, 116, 101, 109]), 18]
(q (.bslice false 9) [16, 19]
(q (.bslice false 1) [.k (.int .i64 1)]
(q (.call 60) [21]
(q (.build [(.str []), (.int .u64 0), (.int .u64 0), (.int .u64 0), (.int .u64 0), (.int .i64 0), (.int .u64 0), (.int .i64 0), (.int .u64 0), (.int .i64 0), (.int .u64 0)] [(0, 1), (1, 4)]) [.k (.str [114, 111, 111, 116]), 22]
(q (.bslice false 11) [23]
(q (.build [(.str []), (.bool false)] [(0, 1)]) [.k (.str [115, 104, 97, 114, 101])]
(q (.bslice false 2) [25]
(q (.bslice false 1) [.k (.str [115, 48])]
(q (.build [(.int .i64 0), (.int .i64 0), (.int .i64 0), (.int .i64 0), .nils, (.int .u64 0), (.int .u64 0), (.int .u64 0), (.int .u64 0), .nils] [(0, 1)]) [.k (.int .i64 1)]
(q (.bslice false 10) [28]
(q (.bslice false 1) [.k (.int .i64 0), .k (.int .i64 1)]
(q (.call 60) [30]
(q (.build [(.int .i64 0), (.int .u64 0), (.int .u64 0), (.int .u64 0), (.int .u64 0), (.int .u64 0), (.int .u64 0), (.int .u64 0), (.int .u64 0), (.bool false), (.int .i64 0), (.int .u32 0), (.int .i64 0)] [(0, 1), (1, 4), (9, 1), (10, 1), (11, 1)]) [.k (.int .i64 1), 31, .k (.bool true), .k (.int .i64 0), .k (.int .u32 9)]
(q (.bslice false 1) [.k (.int .i64 0)]
(q (.call 60) [33]
(q (.bslice false 1) [.k (.int .i64 2), .k (.int .i64 3)]
(q (.call 60) [35]
(q (.build [(.int .i64 0), (.int .u64 0), (.int .u64 0), (.int .u64 0), (.int .u64 0), (.int .u64 0), (.int .u64 0), (.int .u64 0), (.int .u64 0), (.bool false), (.int .i64 0), (.int .u32 0), (.int .i64 0)] [(0, 1), (1, 4), (5, 4), (10, 1), (11, 1)]) [.k (.int .i64 1), 34, 36, .k (.int .i64 1), .k (.int .u32 17)]
(q (.bslice false 1) [.k (.int .i64 0)]
(q (.call 60) [38]
(q (.bslice false 1) [.k (.int .i64 1)]
(q (.call 60) [40]
(q (.build [(.int .i64 0), (.int .u64 0), (.int .u64 0), (.int .u64 0), (.int .u64 0), (.int .u64 0), (.int .u64 0), (.int .u64 0), (.int .u64 0), (.bool false), (.int .i64 0), (.int .u32 0), (.int .i64 0)] [(0, 1), (1, 4), (5, 4), (10, 1), (11, 1)]) [.k (.int .i64 1), 39, 41, .k (.int .i64 0), .k (.int .u32 2)]
(q (.bslice false 1) [.k (.int .i64 1)]
(q (.call 60) [43]
(q (.bslice false 1) [.k (.int .i64 3)]
(q (.call 60) [45]
(q (.build [(.int .i64 0), (.int .u64 0), (.int .u64 0), (.int .u64 0), (.int .u64 0), (.int .u64 0), (.int .u64 0), (.int .u64 0), (.int .u64 0), (.bool false), (.int .i64 0), (.int .u32 0), (.int .i64 0)] [(0, 1), (1, 4), (5, 4), (10, 1), (11, 1)]) [.k (.int .i64 1), 44, 46, .k (.int .i64 1), .k (.int .u32 32)]
(q (.bslice false 1) [.k (.int .i64 1)]
(q (.call 60) [48]
(q (.bslice false 1) [.k (.int .i64 2)]
(q (.call 60) [50]
(q (.build [(.int .i64 0), (.int .u64 0), (.int .u64 0), (.int .u64 0), (.int .u64 0), (.int .u64 0), (.int .u64 0), (.int .u64 0), (.int .u64 0), (.bool false), (.int .i64 0), (.int .u32 0), (.int .i64 0)] [(0, 1), (1, 4), (5, 4), (10, 1), (11, 1), (12, 1)]) [.k (.int .i64 1), 49, 51, .k (.int .i64 1), .k (.int .u32 1), .k (.int .i64 1)]
(q (.bslice false 13) [32, 37, 42, 47, 52]
(q (.bslice false 1) [.k (.int .i64 0)]
(q (.call 60) [54]
(q (.bslice false 1) [.k (.int .i64 3)]
(q (.call 60) [56]
(q (.build [(.int .i64 0), (.int .u64 0), (.int .u64 0), (.int .u64 0), (.int .u64 0), (.int .u64 0), (.int .u64 0), (.int .u64 0), (.int .u64 0), (.int .i64 0), (.str []), (.int .i64 0), (.int .i64 0)] [(0, 1), (1, 4), (5, 4), (9, 1), (11, 1)]) [.k (.int .i64 1), 55, 57, .k (.int .i64 0), .k (.int .i64 1)]
(q (.bslice false 13) [58]
(q (.call 61) []
(q (.build [(.str []), (.int .i64 0), (.int .i64 0), (.int .i64 0), (.int .i64 0), (.int .u64 0), (.int .i64 0), (.int .u64 0)] [(0, 1), (1, 7)]) [.k (.str [107, 101, 114, 110, 101, 108]), 60]
(q (.call 27) []
(q (.build [(.str []), (.int .i64 0), (.int .i64 0), (.int .i64 0), (.int .i64 0), (.int .u64 0), (.int .i64 0), (.int .u64 0)] [(0, 1), (1, 7)]) [.k (.str [114, 111, 111, 116]), 62]
(q (.call 27) []
(q (.build [(.str []), (.int .i64 0), (.int .i64 0), (.int .i64 0), (.int .i64 0), (.int .u64 0), (.int .i64 0), (.int .u64 0)] [(0, 1), (1, 7)]) [.k (.str [117, 110, 108, 97, 98, 101, 108, 101, 100]), 64]
(q (.bslice false 8) [61, 63, 65]
(q (.build [.nils, .nils, .nils, .nils, .nils, .nils, .nils, .nils, .nils, .nils, .nils, .nils, .nils, .nils, .nils, .nils, .nils] [(0, 1), (1, 1), (2, 1), (3, 1), (4, 1), (5, 1), (6, 1), (8, 1), (9, 1), (10, 1), (14, 1)]) [6, 11, 15, 20, 24, 26, 27, 29, 53, 59, 66]
(.p (.wr 0 17) [.k (.agg [.nils, .nils, .nils, .nils, .nils, .nils, .nils, .nils, .nils, .nils, .nils, .nils, .nils, .nils, .nils, .nils, .nils]), 67] none
(q (.fld 0 (some 17)) [68]
(.ret [69])))))))))))))))))))))))))))))))))))))))))))))))))))))))))))))))))))))))
def H25 : List (Nat × Nat) := [(0, 2)]
def T26 : T :=
(q (.build [(.int .i64 0), (.int .i64 0), (.int .i64 0), (.int .i64 0), (.int .u64 0), (.int .i64 0), (.int .u64 0)] [(1, 1), (2, 1)]) [.k (.int .i64 1), .k (.int .i64 1)]
(.p (.wr 0 7) [.k (.agg [(.int .i64 0), (.int .i64 0), (.int .i64 0), (.int .i64 0), (.int .u64 0), (.int .i64 0), (.int .u64 0)]), 0] none
(q (.fld 0 (some 7)) [1]
(.ret [2]))))
def H26 : List (Nat × Nat) := [(0, 2)]
def T27 : T :=
(q (.build [(.int .i64 0), (.int .i64 0), (.int .i64 0), (.int .i64 0), (.int .u64 0), (.int .i64 0), (.int .u64 0)] [(2, 1)]) [.k (.int .i64 2)]
(.p (.wr 0 7) [.k (.agg [(.int .i64 0), (.int .i64 0), (.int .i64 0), (.int .i64 0), (.int .u64 0), (.int .i64 0), (.int .u64 0)]), 0] none
(q (.fld 0 (some 7)) [1]
(.ret [2]))))
def H27 : List (Nat × Nat) := [(0, 2)]
def T28 : T :=
(.s (.box) [0] none
(q (.off 14) [1]
(.s (.ld none) [2] none
(q (.mkfunc 63) [1]
(.s (.callI 62) [3, 4] none
(q (.un .not) [5]
(qt (.off 14) [1] 6
(.s (.ld none) [7] (some (6, true))
(qt (.lenSl) [8] 6
(qt (.bin .leq) [9, .k (.int .i64 1024)] 6
(q (.pick) [6, 10, .k (.bool false)]
(.ret [11]))))))))))))
def H28 : List (Nat × Nat) := []
def T29 : T :=
(.p .box [0] none
(q (.fld 0 (some 17)) [1]
(.s (.callI 64) [2] none
(.s (.mkmap) [] none
(q (.build [.nilp, .nils, .nilm] [(0, 1), (2, 1)]) [3, 4]
(.s (.box) [5] none
(.ret [6])))))))
def H29 : List (Nat × Nat) := [(1, 3)]
def T30 : T :=
(.p .box [2] none
(q (.nilchk) [0]
(q (.off 0) [4]
(.s (.ld none) [5] none
(q (.fld 0 (some 7)) [3]
(q (.build [(.str []), .nilp, (.int .i64 0), (.int .i64 0), (.int .i64 0), (.int .i64 0), (.int .u64 0), (.int .i64 0), (.int .u64 0), (.bool false)] [(0, 1), (1, 1), (2, 7), (9, 1)]) [1, 6, 7, .k (.bool true)]
(.s (.callI 41) [0, 8] none
(.ret []))))))))
def H30 : List (Nat × Nat) := [(5, 7)]
def T31 : T :=
(.p .box [0] none
(.loop 0 [.k (.int .i64 0), .k (.bool false)] (q (.fld 14 none) [1]
(q (.lenSl) [4]
(q (.bin .lss) [2, 5]
(.ite (.v 6) (q (.fld 0 (some 17)) [1]
(q (.fld 14 none) [1]
(q (.idxS 8) [8, 2]
(q (.off 1) [9]
(q (.ldE (some 7)) [10]
(q (.call 65) [7, 11]
(q (.bin .neq) [12, .k (.int .i64 0)]
(.ite (.v 13) (.ret [.k (.bool false)])
(q (.bin .add) [2, .k (.int .i64 1)]
(.next 0 [14, 3]))))))))))
(q (.fld 14 none) [1]
(q (.lenSl) [7]
(q (.bin .leq) [8, .k (.int .i64 1024)]
(.ret [9]))))))))))
def H31 : List (Nat × Nat) := [(20, 3), (16, 1), (15, 1), (12, 3), (5, 3), (1, 3)]
def T32 : T :=
(.p .box [0] none
(.p .box [2] none
(q (.fld 0 (some 7)) [4]
(q (.fld 0 (some 17)) [3]
(q (.fld 0 (some 7)) [4]
(q (.build [(.str []), (.int .i64 0), (.int .i64 0), (.int .i64 0), (.int .i64 0), (.int .u64 0), (.int .i64 0), (.int .u64 0), (.bool false), .nils, .nils, .nils, .nils, .nils, .nils, .nils, .nils, .nils, .nils, .nils, .nils, .nils, .nils, .nils, .nils, .nils, (.int .i64 0), (.int .i64 0), (.int .i64 0), (.int .i64 0), (.int .u64 0), (.int .i64 0), (.int .u64 0)] [(0, 1), (1, 7), (8, 1), (9, 17), (26, 7)]) [1, 5, .k (.bool true), 6, 7]
(.p (.wr 0 33) [.k (.agg [(.str []), (.int .i64 0), (.int .i64 0), (.int .i64 0), (.int .i64 0), (.int .u64 0), (.int .i64 0), (.int .u64 0), (.bool false), .nils, .nils, .nils, .nils, .nils, .nils, .nils, .nils, .nils, .nils, .nils, .nils, .nils, .nils, .nils, .nils, .nils, (.int .i64 0), (.int .i64 0), (.int .i64 0), (.int .i64 0), (.int .u64 0), (.int .i64 0), (.int .u64 0)]), 8] none
(q (.fld 0 (some 33)) [9]
(.ret [10])))))))))
def H32 : List (Nat × Nat) := [(6, 8), (5, 7), (3, 5)]
def T33 : T :=
(.p .box [0] none
(.p .box [1] none
(q (.fld 0 (some 17)) [2]
(q (.fld 0 (some 7)) [3]
(q (.call 65) [4, 5]
(q (.bin .neq) [6, .k (.int .i64 0)]
(.ite (.v 7) (q (.fld 0 (some 18)) [2]
(.p (.wr 0 18) [.k (.agg [.nils, .nils, .nils, .nils, .nils, .nils, .nils, .nils, .nils, .nils, .nils, .nils, .nils, .nils, .nils, .nils, .nils, .nils]), 8] none
(q (.fld 0 (some 18)) [9]
(.ret [10, .k (.int .i64 0), 6]))))
(.loop 0 [.k (.int .i64 0), .k (.int .i64 0), .k (.int .i64 0), .k (.agg [.nils, .nils, .nils, .nils, .nils, .nils, .nils, .nils, .nils, .nils, .nils, .nils, .nils, .nils, .nils, .nils, .nils, .nils])] (q (.fld 17 none) [2]
(q (.lenSl) [12]
(q (.bin .lss) [8, 13]
(.ite (.v 14) (q (.fld 17 none) [2]
(q (.idxS 33) [15, 8]
(q (.off 8) [16]
(q (.ldE none) [17]
(qt (.fld 17 none) [2] 18
(qt (.mv) [8] 18
(qt (.idxS 33) [19, 20] 18
(qt (.off 1) [21] 18
(qt (.ldE (some 7)) [22] 18
(qt (.fld 0 (some 7)) [3] 18
(qt (.eqa false [.i .i64, .i .i64, .i .i64, .i .i64, .i .u64, .i .i64, .i .u64]) [23, 24] 18
(q (.pick) [18, 25, .k (.bool false)]
(.ite (.v 26) (q (.fld 0 (some 18)) [2]
(q (.bin .add) [8, .k (.int .i64 1)]
(.p (.wr 0 18) [11, 27] none
(q (.fld 0 (some 18)) [29]
(.ret [30, 28, .k (.int .i64 0)])))))
(q (.bin .add) [8, .k (.int .i64 1)]
(.next 0 [27, 9, 10, 11])))))))))))))))
(q (.fld 17 none) [2]
(q (.lenSl) [15]
(q (.bin .geq) [16, .k (.int .i64 1024)]
(.ite (.v 17) (q (.fld 0 (some 18)) [2]
(.p (.wr 0 18) [11, 18] none
(q (.fld 0 (some 18)) [19]
(.ret [20, .k (.int .i64 0), .k (.int .i64 25)]))))
(q (.fld 0 (some 18)) [2]
(q (.fld 0 (some 17)) [2]
(q (.fld 0 (some 7)) [3]
(q (.call 32) [19, .k (.str []), 20]
(q (.call 66) [18, 21]
(q (.fld 17 none) [2]
(q (.lenSl) [23]
(q (.bin .add) [24, .k (.int .i64 1)]
(.p (.wr 0 18) [11, 22] none
(q (.fld 0 (some 18)) [26]
(.ret [27, 25, .k (.int .i64 0)])))))))))))))))))))))))))))
def H33 : List (Nat × Nat) := [(54, 4), (49, 4), (43, 4), (35, 1), (34, 1), (31, 4), (28, 1), (27, 1), (24, 4), (18, 4), (9, 4), (4, 6), (3, 5), (2, 4)]
def T34 : T :=
(.p .box [0] none
(q (.fld 17 none) [1]
(q (.lenSl) [2]
(.ret [3]))))
def H34 : List (Nat × Nat) := [(3, 3), (1, 3)]
def T35 : T :=
(.p .box [0] none
(q (.fld 0 (some 18)) [2]
(q (.call 67) [3, 1]
(q (.un .not) [4]
(.ite (.v 5) (q (.build [(.int .i64 0), (.int .i64 0), (.int .i64 0), (.int .i64 0), (.int .u64 0), (.int .i64 0), (.int .u64 0)] []) []
(.p (.wr 0 7) [.k (.agg [(.int .i64 0), (.int .i64 0), (.int .i64 0), (.int .i64 0), (.int .u64 0), (.int .i64 0), (.int .u64 0)]), 6] none
(q (.fld 0 (some 7)) [7]
(.ret [8, .k (.bool false)]))))
(q (.fld 17 none) [2]
(q (.bin .sub) [1, .k (.int .i64 1)]
(q (.idxS 33) [6, 7]
(q (.off 1) [8]
(q (.ldE (some 7)) [9]
(.p (.wr 0 7) [.k (.agg [(.int .i64 0), (.int .i64 0), (.int .i64 0), (.int .i64 0), (.int .u64 0), (.int .i64 0), (.int .u64 0)]), 10] none
(q (.fld 0 (some 7)) [11]
(.ret [12, .k (.bool true)])))))))))))))
def H35 : List (Nat × Nat) := [(16, 1), (15, 1), (11, 4), (4, 6), (2, 4)]
def T36 : T :=
(.p .box [0] none
(q (.fld 0 (some 18)) [2]
(q (.call 67) [3, 1]
(q (.un .not) [4]
(qf (.fld 17 none) [2] 5
(qf (.mv) [1] 5
(qf (.bin .sub) [7, .k (.int .i64 1)] 5
(qf (.idxS 33) [6, 8] 5
(qf (.off 0) [9] 5
(qf (.ldE none) [10] 5
(qf (.bin .eql) [11, .k (.str [])] 5
(q (.pick) [5, .k (.bool true), 12]
(.ite (.v 13) (.ret [.k (.str []), .k (.bool false)])
(q (.fld 17 none) [2]
(q (.bin .sub) [1, .k (.int .i64 1)]
(q (.idxS 33) [14, 15]
(q (.off 0) [16]
(q (.ldE none) [17]
(.ret [18, .k (.bool true)])))))))))))))))))))
def H36 : List (Nat × Nat) := [(25, 1), (24, 1), (20, 4), (16, 1), (15, 1), (11, 4), (2, 4)]
def T37 : T :=
(.p .box [0] none
(q (.fld 0 (some 18)) [2]
(q (.call 67) [3, 1]
(q (.un .not) [4]
(.ite (.v 5) (.ret [.k (.str []), .k (.bool false)])
(q (.fld 17 none) [2]
(q (.bin .sub) [1, .k (.int .i64 1)]
(q (.idxS 33) [6, 7]
(q (.off 9) [8]
(q (.ldE (some 17)) [9]
(q (.fld 17 none) [2]
(q (.bin .sub) [1, .k (.int .i64 1)]
(q (.idxS 33) [11, 12]
(q (.off 26) [13]
(q (.ldE (some 7)) [14]
(q (.call 68) [10, 15]
(q (.ext 0) [16]
(q (.ext 1) [16]
(.ret [17, .k (.bool true)])))))))))))))))))))
def H37 : List (Nat × Nat) := [(25, 1), (24, 1), (20, 4), (18, 1), (17, 1), (13, 4), (2, 4)]
def T38 : T :=
(.p .box [0] none
(q (.fld 0 (some 18)) [2]
(q (.call 67) [3, 1]
(qt (.fld 17 none) [2] 4
(qt (.mv) [1] 4
(qt (.bin .sub) [6, .k (.int .i64 1)] 4
(qt (.idxS 33) [5, 7] 4
(qt (.off 8) [8] 4
(qt (.ldE none) [9] 4
(q (.pick) [4, 10, .k (.bool false)]
(.ret [11])))))))))))
def H38 : List (Nat × Nat) := [(14, 1), (13, 1), (9, 4), (2, 4)]
def T39 : T :=
(q (.isnil 1 true) [0]
(qt (.mv) [0] 1
(qt (.nilchk) [2] 1
(qt (.off 0) [3] 1
(.s (.ld none) [4] (some (1, true))
(qt (.isnil 1 true) [5] 1
(q (.pick) [1, 6, .k (.bool false)]
(.ret [7]))))))))
def H39 : List (Nat × Nat) := []
def T40 : T :=
(.p .box [0] none
(.p .box [1] none
(q (.fld 0 (some 17)) [4]
(q (.fld 0 none) [3]
(.s (.callS 69) [5, 6] none
(q (.ext 0) [7]
(q (.ext 1) [7]
(.p (.wr 0 7) [.k (.agg [(.int .i64 0), (.int .i64 0), (.int .i64 0), (.int .i64 0), (.int .u64 0), (.int .i64 0), (.int .u64 0)]), 8] none
(q (.un .not) [9]
(.join 0 3 (.ite (.v 11) (q (.fld 1 none) [3]
(q (.nilchk) [12]
(.s (.ld (some 17)) [13] none
(q (.fld 0 (some 17)) [4]
(q (.fld 2 (some 7)) [3]
(.s (.callS 70) [14, 15, 16] none
(q (.ext 0) [17]
(q (.ext 1) [17]
(.p (.wr 0 7) [.k (.agg [(.int .i64 0), (.int .i64 0), (.int .i64 0), (.int .i64 0), (.int .u64 0), (.int .i64 0), (.int .u64 0)]), 18] none
(q (.bin .neq) [19, .k (.int .i64 0)]
(.ite (.v 21) (.p (.wr 9 1) [3, .k (.bool false)] none
(q (.fld 0 (some 10)) [22]
(.p (.wr 0 10) [.k (.agg [(.str []), .nilp, (.int .i64 0), (.int .i64 0), (.int .i64 0), (.int .i64 0), (.int .u64 0), (.int .i64 0), (.int .u64 0), (.bool false)]), 23] none
(q (.fld 0 (some 10)) [24]
(.ret [25])))))
(q (.fld 0 (some 7)) [20]
(.p (.wr 0 7) [10, 22] none
(.next 0 [23, .k (.agg [(.str []), .nilp, (.int .i64 0), (.int .i64 0), (.int .i64 0), (.int .i64 0), (.int .u64 0), (.int .i64 0), (.int .u64 0), (.bool false)]), 3]))))))))))))))
(.next 0 [10, .k (.agg [(.str []), .nilp, (.int .i64 0), (.int .i64 0), (.int .i64 0), (.int .i64 0), (.int .u64 0), (.int .i64 0), (.int .u64 0), (.bool false)]), 3]))
(q (.fld 0 none) [14]
(q (.nilchk) [2]
(q (.off 0) [16]
(.s (.ld none) [17] none
(q (.fld 0 (some 7)) [12]
(q (.build [(.str []), .nilp, (.int .i64 0), (.int .i64 0), (.int .i64 0), (.int .i64 0), (.int .u64 0), (.int .i64 0), (.int .u64 0), (.bool false)] [(0, 1), (1, 1), (2, 7), (9, 1)]) [15, 18, 19, .k (.bool true)]
(.p (.wr 0 10) [13, 20] none
(q (.fld 0 (some 10)) [21]
(.ret [22])))))))))))))))))))
def H40 : List (Nat × Nat) := [(15, 999998), (28, 999998), (36, 5), (33, 5), (9, 11), (26, 5), (21, 5), (7, 9), (13, 5), (6, 8), (4, 6), (3, 5)]
def T41 : T :=
(.p .box [1] none
(q (.nilchk) [0]
(q (.off 1) [3]
(.s (.ld none) [4] none
(q (.fld 0 (some 10)) [2]
(q (.bslice true 10) [6]
(.s (.app true 10) [5, 7] none
(q (.nilchk) [0]
(q (.off 1) [9]
(.s (.st 1) [10, 8] none
(q (.nilchk) [0]
(q (.off 2) [12]
(.s (.ld none) [13] none
(q (.fld 2 (some 7)) [2]
(.s (.look true [.i .i64, .i .i64, .i .i64, .i .i64, .i .u64, .i .i64, .i .u64] (.int .i64 0) true) [14, 15] none
(q (.ext 0) [16]
(q (.ext 1) [16]
(q (.fld 9 none) [2]
(qt (.mv) [18] 19
(qt (.un .not) [20] 19
(q (.pick) [19, 21, .k (.bool false)]
(.ite (.v 22) (q (.nilchk) [0]
(q (.off 2) [23]
(.s (.ld none) [24] none
(q (.fld 2 (some 7)) [2]
(q (.nilchk) [0]
(q (.off 1) [27]
(.s (.ld none) [28] none
(q (.lenSl) [29]
(.s (.mupd true [.i .i64, .i .i64, .i .i64, .i .i64, .i .u64, .i .i64, .i .u64]) [25, 26, 30] none
(.ret []))))))))))
(.ret [])))))))))))))))))))))))
def H41 : List (Nat × Nat) := [(36, 5), (26, 5), (21, 5), (3, 5)]
def T42 : T :=
(.p .box [0] none
(.p .box [1] none
(q (.fld 0 (some 17)) [3]
(q (.fld 0 none) [2]
(q (.call 71) [4, 5]
(q (.ext 0) [6]
(q (.ext 1) [6]
(.p (.wr 0 7) [.k (.agg [(.int .i64 0), (.int .i64 0), (.int .i64 0), (.int .i64 0), (.int .u64 0), (.int .i64 0), (.int .u64 0)]), 7] none
(qt (.fld 0 none) [2] 8
(qt (.bin .neq) [10, .k (.str [])] 8
(q (.pick) [8, 11, .k (.bool false)]
(.ite (.v 12) (q (.fld 0 (some 17)) [3]
(q (.fld 0 none) [2]
(q (.fld 0 (some 7)) [9]
(q (.call 32) [13, 14, 15]
(.p (.wr 0 33) [.k (.agg [(.str []), (.int .i64 0), (.int .i64 0), (.int .i64 0), (.int .i64 0), (.int .u64 0), (.int .i64 0), (.int .u64 0), (.bool false), .nils, .nils, .nils, .nils, .nils, .nils, .nils, .nils, .nils, .nils, .nils, .nils, .nils, .nils, .nils, .nils, .nils, (.int .i64 0), (.int .i64 0), (.int .i64 0), (.int .i64 0), (.int .u64 0), (.int .i64 0), (.int .u64 0)]), 16] none
(q (.fld 0 (some 33)) [17]
(.ret [18])))))))
(q (.fld 9 (some 17)) [2]
(q (.fld 0 (some 17)) [3]
(q (.fld 26 (some 7)) [2]
(q (.call 72) [13, 14, 15]
(q (.ext 0) [16]
(q (.ext 1) [16]
(.p (.wr 0 7) [.k (.agg [(.int .i64 0), (.int .i64 0), (.int .i64 0), (.int .i64 0), (.int .u64 0), (.int .i64 0), (.int .u64 0)]), 17] none
(q (.bin .neq) [18, .k (.int .i64 0)]
(.ite (.v 20) (q (.build [(.int .i64 0), (.int .i64 0), (.int .i64 0), (.int .i64 0), (.int .u64 0), (.int .i64 0), (.int .u64 0)] []) []
(.p (.wr 1 7) [2, 21] none
(.p (.wr 8 1) [22, .k (.bool false)] none
(q (.fld 0 (some 33)) [23]
(.p (.wr 0 33) [.k (.agg [(.str []), (.int .i64 0), (.int .i64 0), (.int .i64 0), (.int .i64 0), (.int .u64 0), (.int .i64 0), (.int .u64 0), (.bool false), .nils, .nils, .nils, .nils, .nils, .nils, .nils, .nils, .nils, .nils, .nils, .nils, .nils, .nils, .nils, .nils, .nils, (.int .i64 0), (.int .i64 0), (.int .i64 0), (.int .i64 0), (.int .u64 0), (.int .i64 0), (.int .u64 0)]), 24] none
(q (.fld 0 (some 33)) [25]
(.ret [26])))))))
(q (.fld 0 (some 17)) [3]
(q (.fld 0 none) [2]
(q (.fld 0 (some 7)) [19]
(q (.call 32) [21, 22, 23]
(.p (.wr 0 33) [.k (.agg [(.str []), (.int .i64 0), (.int .i64 0), (.int .i64 0), (.int .i64 0), (.int .u64 0), (.int .i64 0), (.int .u64 0), (.bool false), .nils, .nils, .nils, .nils, .nils, .nils, .nils, .nils, .nils, .nils, .nils, .nils, .nils, .nils, .nils, .nils, .nils, (.int .i64 0), (.int .i64 0), (.int .i64 0), (.int .i64 0), (.int .u64 0), (.int .i64 0), (.int .u64 0)]), 24] none
(q (.fld 0 (some 33)) [25]
(.ret [26]))))))))))))))))))))))))))))
def H42 : List (Nat × Nat) := [(43, 4), (40, 4), (39, 4), (7, 9), (31, 4), (28, 4), (23, 4), (18, 4), (5, 7), (11, 4), (4, 6), (3, 5), (2, 4)]
def T43 : T :=
(.p .box [0] none
(.loop 0 [.k (.int .i64 0), .k (.bool false)] (q (.fld 17 none) [2]
(q (.lenSl) [5]
(q (.bin .lss) [3, 6]
(.ite (.v 7) (q (.fld 17 none) [2]
(q (.idxS 33) [8, 3]
(q (.off 0) [9]
(q (.ldE none) [10]
(q (.bin .eql) [11, 1]
(.ite (.v 12) (.ret [.k (.bool true)])
(q (.bin .add) [3, .k (.int .i64 1)]
(.next 0 [13, 4]))))))))
(.ret [.k (.bool false)])))))))
def H43 : List (Nat × Nat) := [(17, 1), (16, 1), (13, 4), (7, 4), (2, 4)]
def T44 : T :=
(.p .box [0] none
(.p .box [1] none
(q (.fld 0 none) [3]
(q (.fld 4 none) [2]
(q (.lenSl) [5]
(q (.call 73) [4, 6]
(q (.un .not) [7]
(qf (.fld 1 none) [3] 8
(qf (.fld 3 none) [2] 8
(qf (.lenSl) [10] 8
(qf (.call 73) [9, 11] 8
(qf (.un .not) [12] 8
(q (.pick) [8, .k (.bool true), 13]
(qf (.fld 2 none) [3] 14
(qf (.fld 1 none) [2] 14
(qf (.lenSl) [16] 14
(qf (.call 73) [15, 17] 14
(qf (.un .not) [18] 14
(q (.pick) [14, .k (.bool true), 19]
(.ite (.v 20) (.ret [.k (.int .i64 3)])
(q (.fld 3 (some 4)) [3]
(q (.fld 6 none) [2]
(q (.lenSl) [22]
(q (.fld 7 none) [2]
(q (.lenSl) [24]
(q (.call 74) [21, 23, 25]
(q (.un .not) [26]
(.ite (.v 27) (.ret [.k (.int .i64 18)])
(q (.fld 0 (some 7)) [3]
(q (.call 75) [28]
(.ite (.v 29) (.ret [.k (.int .i64 0)])
(q (.fld 4 none) [2]
(q (.fld 0 none) [3]
(q (.idxS 11) [30, 31]
(q (.ldE (some 11)) [32]
(.p (.wr 0 11) [.k (.agg [(.str []), (.int .u64 0), (.int .u64 0), (.int .u64 0), (.int .u64 0), (.int .i64 0), (.int .u64 0), (.int .i64 0), (.int .u64 0), (.int .i64 0), (.int .u64 0)]), 33] none
(q (.fld 1 (some 4)) [34]
(q (.fld 1 none) [3]
(q (.call 76) [35, 36]
(q (.un .not) [37]
(qf (.fld 3 none) [2] 38
(qf (.fld 1 none) [3] 38
(qf (.idxS 9) [39, 40] 38
(qf (.off 1) [41] 38
(qf (.ldE (some 4)) [42] 38
(qf (.fld 2 none) [3] 38
(qf (.call 76) [43, 44] 38
(qf (.un .not) [45] 38
(q (.pick) [38, .k (.bool true), 46]
(qf (.fld 7 (some 4)) [34] 47
(qf (.fld 3 (some 4)) [3] 47
(qf (.call 77) [48, 49] 47
(qf (.un .not) [50] 47
(q (.pick) [47, .k (.bool true), 51]
(.ite (.v 52) (.ret [.k (.int .i64 19)])
(.ret [.k (.int .i64 0)]))))))))))))))))))))))))))))))))))))))))))))))))))))))))
def H44 : List (Nat × Nat) := [(74, 5), (72, 7), (66, 5), (64, 1), (63, 1), (61, 5), (59, 4), (54, 5), (52, 7), (5, 7), (50, 1), (48, 5), (46, 4), (38, 4), (35, 4), (33, 5), (26, 4), (24, 5), (17, 4), (15, 5), (9, 4), (7, 5), (3, 5), (2, 4)]
def T45 : T :=
(.s (.callI 39) [0] none
(q (.un .not) [2]
(qf (.mv) [1] 3
(qf (.bin .lss) [4, .k (.int .i64 1)] 3
(q (.pick) [3, .k (.bool true), 5]
(qf (.mv) [1] 6
(qf (.mv) [0] 6
(qf (.nilchk) [8] 6
(qf (.off 1) [9] 6
(.s (.ld none) [10] (some (6, false))
(qf (.lenSl) [11] 6
(qf (.bin .gtr) [7, 12] 6
(q (.pick) [6, .k (.bool true), 13]
(.ite (.v 14) (q (.build [(.str []), .nilp, (.int .i64 0), (.int .i64 0), (.int .i64 0), (.int .i64 0), (.int .u64 0), (.int .i64 0), (.int .u64 0), (.bool false)] []) []
(.p (.wr 0 10) [.k (.agg [(.str []), .nilp, (.int .i64 0), (.int .i64 0), (.int .i64 0), (.int .i64 0), (.int .u64 0), (.int .i64 0), (.int .u64 0), (.bool false)]), 15] none
(q (.fld 0 (some 10)) [16]
(.ret [17, .k (.bool false)]))))
(q (.nilchk) [0]
(q (.off 1) [15]
(.s (.ld none) [16] none
(q (.bin .sub) [1, .k (.int .i64 1)]
(q (.idxS 10) [17, 18]
(q (.ldE (some 10)) [19]
(.p (.wr 0 10) [.k (.agg [(.str []), .nilp, (.int .i64 0), (.int .i64 0), (.int .i64 0), (.int .i64 0), (.int .u64 0), (.int .i64 0), (.int .u64 0), (.bool false)]), 20] none
(q (.fld 0 (some 10)) [21]
(.ret [22, .k (.bool true)])))))))))))))))))))))))
def H45 : List (Nat × Nat) := [(29, 1), (4, 6)]
def T46 : T :=
(.p .box [0] none
(.p .box [1] none
(q (.fld 0 (some 17)) [2]
(q (.fld 0 (some 7)) [3]
(q (.call 44) [4, 5]
(q (.bin .neq) [6, .k (.int .i64 0)]
(.ite (.v 7) (.ret [.k (.str []), 6])
(q (.fld 3 (some 4)) [3]
(q (.fld 6 none) [2]
(q (.fld 7 none) [2]
(q (.call 78) [8, 9, 10]
(q (.ext 0) [11]
(q (.ext 1) [11]
(q (.bin .neq) [13, .k (.int .i64 0)]
(.ite (.v 14) (.ret [.k (.str []), 13])
(q (.fld 4 none) [2]
(q (.fld 0 none) [3]
(q (.idxS 11) [15, 16]
(q (.off 0) [17]
(q (.ldE none) [18]
(q (.bin .add) [19, .k (.str [58])]
(q (.fld 3 none) [2]
(q (.fld 1 none) [3]
(q (.idxS 9) [21, 22]
(q (.off 0) [23]
(q (.ldE none) [24]
(q (.bin .add) [20, 25]
(q (.bin .add) [26, .k (.str [58])]
(q (.fld 1 none) [2]
(q (.fld 2 none) [3]
(q (.idxS 3) [28, 29]
(q (.off 0) [30]
(q (.ldE none) [31]
(q (.bin .add) [27, 32]
(q (.bin .add) [33, .k (.str [58])]
(q (.bin .add) [34, 12]
(.ret [35, .k (.int .i64 0)])))))))))))))))))))))))))))))))))))))
def H46 : List (Nat × Nat) := [(50, 1), (49, 1), (47, 5), (45, 4), (41, 1), (40, 1), (38, 5), (36, 4), (33, 1), (32, 1), (30, 5), (28, 4), (20, 4), (18, 4), (16, 5), (3, 5), (2, 4)]
def T47 : T :=
(.p .box [0] none
(q (.fld 0 (some 10)) [1]
(q (.call 79) [2, .k (.int .i64 13)]
(.ret [3]))))
def H47 : List (Nat × Nat) := [(1, 3)]
def T48 : T :=
(.loop 0 [.k (.int .i64 0), .k (.int .i64 0)] (q (.lenSl) [0]
(q (.bin .lss) [1, 3]
(.ite (.v 4) (q (.idxS 1) [0, 1]
(q (.ldE none) [5]
(q (.bin .neq) [6, .k (.int .i64 0)]
(.ite (.v 7) (q (.idxS 1) [0, 1]
(q (.ldE none) [8]
(.ret [9])))
(q (.bin .add) [1, .k (.int .i64 1)]
(.next 0 [8, 2]))))))
(.ret [.k (.int .i64 0)])))))
def H48 : List (Nat × Nat) := [(17, 1), (12, 1)]
def T49 : T :=
(.p .box [0] none
(q (.fld 0 none) [1]
(q (.lenSl) [2]
(q (.bin .gtr) [3, .k (.int .i64 32)]
(.ite (.v 4) (.ret [.k (.int .i64 4)])
(.loop 0 [.k (.int .i64 0), .k .nils, .k (.int .i64 0)] (q (.fld 0 none) [1]
(q (.lenSl) [8]
(q (.bin .lss) [5, 9]
(.ite (.v 10) (q (.fld 0 none) [1]
(q (.idxS 2) [11, 5]
(q (.ldE (some 2)) [12]
(.p (.wr 0 2) [.k (.agg [(.str []), .nils]), 13] none
(q (.fld 0 none) [14]
(q (.bslice false 1) [15]
(q (.call 80) [16, 6]
(q (.bin .neq) [17, .k (.int .i64 0)]
(.ite (.v 18) (.ret [17])
(q (.fld 0 none) [14]
(q (.bslice false 1) [19]
(.s (.app false 1) [6, 20] none
(q (.fld 1 none) [14]
(q (.lenSl) [22]
(q (.bin .gtr) [23, .k (.int .i64 32)]
(.ite (.v 24) (.ret [.k (.int .i64 4)])
(q (.fld 1 none) [14]
(q (.lenSl) [25]
(q (.bin .eql) [26, .k (.int .i64 0)]
(.ite (.v 27) (.ret [.k (.int .i64 2)])
(q (.fld 1 none) [14]
(q (.call 80) [28, .k .nils]
(q (.bin .neq) [29, .k (.int .i64 0)]
(.ite (.v 30) (.ret [29])
(q (.bin .add) [5, .k (.int .i64 1)]
(.next 0 [31, 21, 7]))))))))))))))))))))))))))
(.ret [.k (.int .i64 0)])))))))))))
def H49 : List (Nat × Nat) := [(45, 7), (41, 7), (37, 7), (33, 7), (24, 7), (5, 7), (22, 1), (19, 3), (13, 3), (8, 3), (1, 3)]
def T50 : T :=
(.p .box [0] none
(q (.fld 1 none) [1]
(q (.lenSl) [2]
(q (.bin .gtr) [3, .k (.int .i64 256)]
(.ite (.v 4) (.ret [.k (.int .i64 4)])
(.loop 0 [.k (.int .i64 0), .k (.int .i64 0)] (q (.fld 1 none) [1]
(q (.lenSl) [7]
(q (.bin .lss) [5, 8]
(.ite (.v 9) (q (.fld 1 none) [1]
(q (.idxS 3) [10, 5]
(q (.off 0) [11]
(q (.ldE none) [12]
(q (.bslice false 1) [13]
(q (.fld 1 none) [1]
(q (.idxS 3) [15, 5]
(q (.off 1) [16]
(q (.ldE none) [17]
(.s (.app false 1) [14, 18] none
(q (.fld 0 (some 17)) [1]
(.s (.callF 81) [20, 5] none
(q (.call 80) [19, 21]
(q (.bin .neq) [22, .k (.int .i64 0)]
(.ite (.v 23) (.ret [22])
(q (.bin .add) [5, .k (.int .i64 1)]
(.next 0 [24, 6])))))))))))))))))
(q (.fld 2 none) [1]
(q (.lenSl) [10]
(q (.bin .gtr) [11, .k (.int .i64 64)]
(.ite (.v 12) (.ret [.k (.int .i64 4)])
(q (.fld 0 (some 17)) [1]
(q (.fld 1 none) [1]
(q (.lenSl) [14]
(.s (.callF 81) [13, 15] none
(.loop 1 [.k (.int .i64 0), 16, 6] (q (.fld 2 none) [1]
(q (.lenSl) [20]
(q (.bin .lss) [17, 21]
(.ite (.v 22) (q (.fld 2 none) [1]
(q (.idxS 5) [23, 17]
(q (.off 0) [24]
(q (.ldE none) [25]
(q (.bslice false 1) [26]
(q (.call 80) [27, 18]
(q (.bin .neq) [28, .k (.int .i64 0)]
(.ite (.v 29) (.ret [28])
(q (.fld 2 none) [1]
(q (.idxS 5) [30, 17]
(q (.off 0) [31]
(q (.ldE none) [32]
(q (.bslice false 1) [33]
(.s (.app false 1) [18, 34] none
(q (.fld 2 none) [1]
(q (.idxS 5) [36, 17]
(q (.off 1) [37]
(q (.ldE (some 4)) [38]
(q (.fld 1 none) [1]
(q (.lenSl) [40]
(q (.call 82) [39, 41]
(q (.ext 0) [42]
(q (.ext 1) [42]
(q (.un .not) [44]
(.ite (.v 45) (.ret [.k (.int .i64 3)])
(q (.bin .add) [17, .k (.int .i64 1)]
(.next 1 [46, 35, 19])))))))))))))))))))))))))))
(.ret [.k (.int .i64 0)]))))))))))))))))))))))))
def H50 : List (Nat × Nat) := [(88, 3), (86, 1), (85, 1), (82, 3), (77, 1), (76, 1), (73, 3), (64, 1), (63, 1), (60, 3), (54, 3), (49, 3), (44, 3), (33, 1), (32, 1), (29, 3), (26, 1), (25, 1), (22, 3), (16, 3), (11, 3), (1, 3)]
def T51 : T :=
(.p .box [0] none
(q (.fld 3 none) [1]
(q (.lenSl) [2]
(q (.bin .gtr) [3, .k (.int .i64 32)]
(.ite (.v 4) (.ret [.k (.int .i64 4)])
(q (.fld 1 none) [1]
(q (.lenSl) [5]
(q (.call 83) [6]
(.p (.wr 0 4) [.k (.agg [(.int .u64 0), (.int .u64 0), (.int .u64 0), (.int .u64 0)]), 7] none
(q (.fld 3 none) [1]
(q (.lenSl) [9]
(q (.bin .eql) [10, .k (.int .i64 0)]
(qf (.fld 3 none) [1] 11
(qf (.idxS 9) [12, .k (.int .i64 0)] 11
(qf (.ldE (some 9)) [13] 11
(qf (.build [(.str []), (.int .u64 0), (.int .u64 0), (.int .u64 0), (.int .u64 0), (.int .u64 0), (.int .u64 0), (.int .u64 0), (.int .u64 0)] [(0, 1)]) [.k (.str [111, 98, 106, 101, 99, 116, 95, 114])] 11
(qf (.eqa true [.s, .i .u64, .i .u64, .i .u64, .i .u64, .i .u64, .i .u64, .i .u64, .i .u64]) [14, 15] 11
(q (.pick) [11, .k (.bool true), 16]
(.ite (.v 17) (.ret [.k (.int .i64 2)])
(q (.bslice false 1) [.k (.str [111, 98, 106, 101, 99, 116, 95, 114])]
(.loop 0 [.k (.int .i64 1), 18, .k (.int .i64 0)] (q (.fld 3 none) [1]
(q (.lenSl) [22]
(q (.bin .lss) [19, 23]
(.ite (.v 24) (q (.fld 3 none) [1]
(q (.idxS 9) [25, 19]
(q (.ldE (some 9)) [26]
(.p (.wr 0 9) [.k (.agg [(.str []), (.int .u64 0), (.int .u64 0), (.int .u64 0), (.int .u64 0), (.int .u64 0), (.int .u64 0), (.int .u64 0), (.int .u64 0)]), 27] none
(q (.fld 0 none) [28]
(q (.bslice false 1) [29]
(q (.call 80) [30, 20]
(q (.bin .neq) [31, .k (.int .i64 0)]
(.ite (.v 32) (.ret [31])
(q (.fld 0 none) [28]
(q (.bslice false 1) [33]
(.s (.app false 1) [20, 34] none
(q (.fld 1 (some 4)) [28]
(q (.fld 0 (some 4)) [8]
(q (.call 84) [36, 37]
(q (.un .not) [38]
(qf (.fld 0 (some 17)) [1] 39
(qf (.fld 5 (some 4)) [28] 39
(qf (.call 85) [40, 41] 39
(qf (.un .not) [42] 39
(q (.pick) [39, .k (.bool true), 43]
(.ite (.v 44) (.ret [.k (.int .i64 3)])
(q (.bin .add) [19, .k (.int .i64 1)]
(.next 0 [45, 35, 21]))))))))))))))))))))))))
(.ret [.k (.int .i64 0)]))))))))))))))))))))))))))
def H51 : List (Nat × Nat) := [(61, 8), (54, 8), (50, 8), (41, 8), (6, 8), (39, 1), (36, 3), (30, 3), (23, 1), (21, 3), (16, 3), (3, 5), (12, 3), (8, 3), (1, 3)]
def T52 : T :=
(.p .box [0] none
(q (.fld 4 none) [1]
(q (.lenSl) [2]
(q (.bin .gtr) [3, .k (.int .i64 32)]
(.ite (.v 4) (.ret [.k (.int .i64 4)])
(.loop 0 [.k (.int .i64 0), .k .nils, .k (.int .i64 0)] (q (.fld 4 none) [1]
(q (.lenSl) [8]
(q (.bin .lss) [5, 9]
(.ite (.v 10) (q (.fld 4 none) [1]
(q (.idxS 11) [11, 5]
(q (.ldE (some 11)) [12]
(.p (.wr 0 11) [.k (.agg [(.str []), (.int .u64 0), (.int .u64 0), (.int .u64 0), (.int .u64 0), (.int .i64 0), (.int .u64 0), (.int .i64 0), (.int .u64 0), (.int .i64 0), (.int .u64 0)]), 13] none
(q (.fld 0 none) [14]
(q (.bslice false 1) [15]
(q (.call 80) [16, 6]
(q (.bin .neq) [17, .k (.int .i64 0)]
(.ite (.v 18) (.ret [17])
(q (.fld 0 none) [14]
(q (.bslice false 1) [19]
(.s (.app false 1) [6, 20] none
(q (.fld 0 (some 17)) [1]
(q (.fld 1 (some 4)) [14]
(q (.call 85) [22, 23]
(q (.un .not) [24]
(.ite (.v 25) (.ret [.k (.int .i64 3)])
(q (.fld 0 (some 17)) [1]
(q (.fld 7 (some 4)) [14]
(q (.call 86) [26, 27]
(q (.un .not) [28]
(qf (.fld 0 (some 17)) [1] 29
(qf (.fld 5 (some 2)) [14] 29
(qf (.call 87) [30, 31] 29
(qf (.un .not) [32] 29
(q (.pick) [29, .k (.bool true), 33]
(qf (.fld 9 (some 2)) [14] 34
(qf (.fld 5 (some 2)) [14] 34
(qf (.call 88) [35, 36] 34
(qf (.un .not) [37] 34
(q (.pick) [34, .k (.bool true), 38]
(qf (.fld 5 (some 2)) [14] 39
(qf (.fld 7 (some 2)) [14] 39
(qf (.call 88) [40, 41] 39
(qf (.un .not) [42] 39
(q (.pick) [39, .k (.bool true), 43]
(.ite (.v 44) (.ret [.k (.int .i64 18)])
(q (.bin .add) [5, .k (.int .i64 1)]
(.next 0 [45, 21, 7])))))))))))))))))))))))))))))))))))))))
(.ret [.k (.int .i64 0)])))))))))))
def H52 : List (Nat × Nat) := [(66, 7), (65, 7), (63, 7), (57, 7), (55, 7), (54, 7), (48, 7), (42, 7), (37, 7), (32, 7), (23, 7), (5, 7), (21, 1), (18, 3), (12, 3), (7, 3), (1, 3)]
def T53 : T :=
(.p .box [0] none
(q (.fld 5 none) [1]
(q (.lenSl) [2]
(q (.bin .gtr) [3, .k (.int .i64 16)]
(.ite (.v 4) (.ret [.k (.int .i64 4)])
(.loop 0 [.k (.int .i64 0), .k .nils] (q (.fld 5 none) [1]
(q (.lenSl) [7]
(q (.bin .lss) [5, 8]
(.ite (.v 9) (q (.fld 5 none) [1]
(q (.idxS 2) [10, 5]
(q (.off 0) [11]
(q (.ldE none) [12]
(q (.bslice false 1) [13]
(.s (.app false 1) [6, 14] none
(q (.bin .add) [5, .k (.int .i64 1)]
(.next 0 [16, 15]))))))))
(q (.call 80) [6, .k .nils]
(q (.bin .neq) [10, .k (.int .i64 0)]
(.ite (.v 11) (.ret [10])
(q (.fld 6 none) [1]
(q (.lenSl) [12]
(q (.bin .gtr) [13, .k (.int .i64 16)]
(.ite (.v 14) (.ret [.k (.int .i64 4)])
(q (.fld 6 none) [1]
(q (.call 80) [15, .k .nils]
(q (.bin .neq) [16, .k (.int .i64 0)]
(.ite (.v 17) (.ret [16])
(q (.fld 7 none) [1]
(q (.lenSl) [18]
(q (.bin .gtr) [19, .k (.int .i64 64)]
(.ite (.v 20) (.ret [.k (.int .i64 4)])
(q (.fld 7 none) [1]
(q (.call 80) [21, .k .nils]
(.ret [22]))))))))))))))))))))))))))))
def H53 : List (Nat × Nat) := [(46, 3), (42, 3), (36, 3), (32, 3), (23, 1), (22, 1), (19, 3), (12, 3), (7, 3), (1, 3)]
def T54 : T :=
(.p .box [0] none
(q (.fld 8 none) [1]
(q (.lenSl) [2]
(q (.bin .gtr) [3, .k (.int .i64 64)]
(.ite (.v 4) (.ret [.k (.int .i64 4)])
(.loop 0 [.k (.int .i64 0), .k (.int .i64 0)] (q (.fld 8 none) [1]
(q (.lenSl) [7]
(q (.bin .lss) [5, 8]
(.ite (.v 9) (q (.fld 0 (some 17)) [1]
(q (.fld 8 none) [1]
(q (.idxS 10) [11, 5]
(q (.ldE (some 10)) [12]
(q (.call 89) [10, 13]
(q (.bin .neq) [14, .k (.int .i64 0)]
(.ite (.v 15) (.ret [14])
(q (.bin .add) [5, .k (.int .i64 1)]
(.next 0 [16, 6])))))))))
(q (.fld 9 none) [1]
(q (.lenSl) [10]
(q (.bin .gtr) [11, .k (.int .i64 4096)]
(.ite (.v 12) (.ret [.k (.int .i64 4)])
(.loop 1 [.k (.int .i64 0), 6] (q (.fld 9 none) [1]
(q (.lenSl) [15]
(q (.bin .lss) [13, 16]
(.ite (.v 17) (q (.fld 9 none) [1]
(q (.idxS 13) [18, 13]
(q (.ldE (some 13)) [19]
(.p (.wr 0 13) [.k (.agg [(.int .i64 0), (.int .u64 0), (.int .u64 0), (.int .u64 0), (.int .u64 0), (.int .u64 0), (.int .u64 0), (.int .u64 0), (.int .u64 0), (.bool false), (.int .i64 0), (.int .u32 0), (.int .i64 0)]), 20] none
(q (.fld 0 none) [21]
(q (.bin .lss) [22, .k (.int .i64 1)]
(qf (.fld 0 none) [21] 23
(qf (.bin .gtr) [24, .k (.int .i64 4)] 23
(q (.pick) [23, .k (.bool true), 25]
(.ite (.v 26) (.ret [.k (.int .i64 13)])
(q (.fld 1 (some 4)) [21]
(q (.fld 1 none) [1]
(q (.lenSl) [28]
(q (.call 82) [27, 29]
(q (.ext 0) [30]
(q (.ext 1) [30]
(q (.fld 5 (some 4)) [21]
(q (.fld 1 none) [1]
(q (.lenSl) [34]
(q (.call 82) [33, 35]
(q (.ext 0) [36]
(q (.ext 1) [36]
(q (.un .not) [32]
(qf (.mv) [38] 39
(qf (.un .not) [40] 39
(q (.pick) [39, .k (.bool true), 41]
(qf (.fld 0 (some 17)) [1] 42
(qf (.fld 10 none) [21] 42
(qf (.fld 11 none) [21] 42
(qf (.call 90) [43, 44, 45] 42
(qf (.un .not) [46] 42
(q (.pick) [42, .k (.bool true), 47]
(qf (.fld 0 (some 17)) [1] 48
(qf (.fld 12 none) [21] 48
(qf (.call 91) [49, 50] 48
(qf (.un .not) [51] 48
(q (.pick) [48, .k (.bool true), 52]
(.ite (.v 53) (.ret [.k (.int .i64 3)])
(q (.un .not) [31]
(qf (.mv) [37] 54
(qf (.un .not) [55] 54
(qf (.mv) [56] 54
(qt (.fld 9 none) [21] 57
(qt (.un .not) [58] 57
(qf (.pick) [57, 59, .k (.bool false)] 54
(q (.pick) [54, .k (.bool true), 60]
(qf (.fld 11 none) [21] 61
(qf (.bin .eql) [62, .k (.int .u32 0)] 61
(q (.pick) [61, .k (.bool true), 63]
(qf (.fld 0 none) [21] 64
(qf (.bin .eql) [65, .k (.int .i64 4)] 64
(qf (.mv) [66] 64
(qt (.fld 12 none) [21] 67
(qt (.bin .neq) [68, .k (.int .i64 0)] 67
(qf (.pick) [67, 69, .k (.bool false)] 64
(q (.pick) [64, .k (.bool true), 70]
(.ite (.v 71) (.ret [.k (.int .i64 2)])
(q (.bin .add) [13, .k (.int .i64 1)]
(.next 1 [72, 14])))))))))))))))))))))))))))))))))))))))))))))))))))))))))))
(.ret [.k (.int .i64 0)]))))))))))))))))))))
def H54 : List (Nat × Nat) := [(117, 8), (113, 8), (108, 8), (102, 8), (91, 8), (84, 8), (82, 8), (68, 3), (66, 8), (59, 3), (57, 8), (52, 8), (48, 8), (6, 8), (46, 1), (43, 3), (37, 3), (32, 3), (26, 1), (23, 3), (16, 3), (11, 3), (1, 3)]
def T55 : T :=
(.p .box [0] none
(.s (.alloc [(.int .i64 0), (.int .i64 0), (.int .i64 0), (.int .i64 0)]) [] none
(.loop 0 [.k (.int .i64 0), .k (.int .i64 0)] (q (.fld 10 none) [1]
(q (.lenSl) [5]
(q (.bin .lss) [3, 6]
(.ite (.v 7) (q (.fld 10 none) [1]
(q (.idxS 13) [8, 3]
(q (.off 0) [9]
(q (.ldE none) [10]
(q (.bin .geq) [11, .k (.int .i64 1)]
(qt (.mv) [11] 12
(qt (.bin .leq) [13, .k (.int .i64 3)] 12
(q (.pick) [12, 14, .k (.bool false)]
(.ite (.v 15) (q (.idxA 4 1) [2, 11]
(.s (.ld none) [16] none
(q (.bin .add) [17, .k (.int .i64 1)]
(q (.idxA 4 1) [2, 11]
(.s (.st 1) [19, 18] none
(q (.idxA 4 1) [2, 11]
(.s (.ld none) [21] none
(q (.bin .gtr) [22, .k (.int .i64 1024)]
(.ite (.v 23) (.ret [.k (.int .i64 4)])
(q (.bin .add) [3, .k (.int .i64 1)]
(.next 0 [24, 4])))))))))))
(q (.bin .add) [3, .k (.int .i64 1)]
(.next 0 [16, 4])))))))))))
(.loop 1 [.k (.int .i64 0), 4] (q (.fld 10 none) [1]
(q (.lenSl) [10]
(q (.bin .lss) [8, 11]
(.ite (.v 12) (q (.fld 10 none) [1]
(q (.idxS 13) [13, 8]
(q (.ldE (some 13)) [14]
(.p (.wr 0 13) [.k (.agg [(.int .i64 0), (.int .u64 0), (.int .u64 0), (.int .u64 0), (.int .u64 0), (.int .u64 0), (.int .u64 0), (.int .u64 0), (.int .u64 0), (.int .i64 0), (.str []), (.int .i64 0), (.int .i64 0)]), 15] none
(q (.fld 0 none) [16]
(q (.bin .lss) [17, .k (.int .i64 1)]
(qf (.fld 0 none) [16] 18
(qf (.bin .gtr) [19, .k (.int .i64 3)] 18
(q (.pick) [18, .k (.bool true), 20]
(.ite (.v 21) (.ret [.k (.int .i64 13)])
(q (.fld 1 (some 4)) [16]
(q (.fld 1 none) [1]
(q (.lenSl) [23]
(q (.call 82) [22, 24]
(q (.ext 0) [25]
(q (.ext 1) [25]
(q (.fld 5 (some 4)) [16]
(q (.fld 1 none) [1]
(q (.lenSl) [29]
(q (.call 82) [28, 30]
(q (.ext 0) [31]
(q (.ext 1) [31]
(q (.un .not) [27]
(qf (.mv) [33] 34
(qf (.un .not) [35] 34
(q (.pick) [34, .k (.bool true), 36]
(qf (.fld 9 none) [16] 37
(qf (.fld 0 none) [1] 37
(qf (.lenSl) [39] 37
(qf (.call 92) [38, 40] 37
(qf (.un .not) [41] 37
(q (.pick) [37, .k (.bool true), 42]
(qf (.fld 11 none) [16] 43
(qf (.fld 1 none) [1] 43
(qf (.lenSl) [45] 43
(qf (.call 92) [44, 46] 43
(qf (.un .not) [47] 43
(q (.pick) [43, .k (.bool true), 48]
(qf (.fld 0 (some 17)) [1] 49
(qf (.fld 12 none) [16] 49
(qf (.call 91) [50, 51] 49
(qf (.un .not) [52] 49
(q (.pick) [49, .k (.bool true), 53]
(.ite (.v 54) (.ret [.k (.int .i64 3)])
(q (.un .not) [26]
(qf (.mv) [32] 55
(qf (.un .not) [56] 55
(q (.pick) [55, .k (.bool true), 57]
(qf (.fld 0 none) [16] 58
(qf (.bin .neq) [59, .k (.int .i64 1)] 58
(qf (.mv) [60] 58
(qt (.fld 10 none) [16] 61
(qt (.bin .neq) [62, .k (.str [])] 61
(qf (.pick) [61, 63, .k (.bool false)] 58
(q (.pick) [58, .k (.bool true), 64]
(.ite (.v 65) (.ret [.k (.int .i64 2)])
(q (.fld 10 none) [16]
(q (.bin .neq) [66, .k (.str [])]
(qt (.fld 10 none) [16] 67
(qt (.call 93) [68] 67
(qt (.un .not) [69] 67
(q (.pick) [67, 70, .k (.bool false)]
(.ite (.v 71) (.ret [.k (.int .i64 10)])
(q (.bin .add) [8, .k (.int .i64 1)]
(.next 1 [72, 9])))))))))))))))))))))))))))))))))))))))))))))))))))))))))))))))))
(.ret [.k (.int .i64 0)])))))))))))))
def H55 : List (Nat × Nat) := [(129, 9), (125, 9), (120, 9), (116, 9), (104, 9), (96, 3), (94, 9), (87, 3), (85, 9), (72, 3), (70, 9), (63, 3), (61, 9), (56, 9), (52, 9), (7, 9), (50, 1), (47, 3), (41, 3), (23, 1), (22, 1), (19, 3), (13, 3), (1, 3)]
def T56 : T :=
(.p .box [0] none
(q (.fld 11 none) [1]
(q (.lenSl) [2]
(q (.bin .gtr) [3, .k (.int .i64 1024)]
(.ite (.v 4) (.ret [.k (.int .i64 4)])
(.loop 0 [.k (.int .i64 0), .k (.int .i64 0)] (q (.fld 11 none) [1]
(q (.lenSl) [7]
(q (.bin .lss) [5, 8]
(.ite (.v 9) (q (.fld 11 none) [1]
(q (.idxS 10) [10, 5]
(q (.ldE (some 10)) [11]
(.p (.wr 0 10) [.k (.agg [(.int .u64 0), (.int .u64 0), (.int .u64 0), (.int .u64 0), (.int .u64 0), (.int .u64 0), (.int .u64 0), (.int .u64 0), (.int .i64 0), (.int .i64 0)]), 12] none
(q (.fld 0 (some 4)) [13]
(q (.build [(.int .u64 0), (.int .u64 0), (.int .u64 0), (.int .u64 0)] []) []
(q (.eqa true [.i .u64, .i .u64, .i .u64, .i .u64]) [14, 15]
(q (.fld 0 (some 17)) [1]
(q (.fld 0 (some 4)) [13]
(q (.call 85) [17, 18]
(q (.fld 4 (some 4)) [13]
(q (.fld 1 none) [1]
(q (.lenSl) [21]
(q (.call 82) [20, 22]
(q (.ext 0) [23]
(q (.ext 1) [23]
(q (.un .not) [19]
(qf (.mv) [25] 26
(qf (.un .not) [27] 26
(q (.pick) [26, .k (.bool true), 28]
(qf (.fld 8 none) [13] 29
(qf (.fld 0 none) [1] 29
(qf (.lenSl) [31] 29
(qf (.call 92) [30, 32] 29
(qf (.un .not) [33] 29
(q (.pick) [29, .k (.bool true), 34]
(qf (.fld 9 none) [13] 35
(qf (.fld 3 none) [1] 35
(qf (.lenSl) [37] 35
(qf (.call 92) [36, 38] 35
(qf (.un .not) [39] 35
(q (.pick) [35, .k (.bool true), 40]
(qf (.fld 9 none) [13] 41
(qf (.bin .eql) [42, .k (.int .i64 0)] 41
(q (.pick) [41, .k (.bool true), 43]
(.ite (.v 44) (.ret [.k (.int .i64 3)])
(q (.un .not) [16]
(qf (.mv) [24] 45
(qf (.un .not) [46] 45
(q (.pick) [45, .k (.bool true), 47]
(.ite (.v 48) (.ret [.k (.int .i64 2)])
(q (.bin .add) [5, .k (.int .i64 1)]
(.next 0 [49, 6])))))))))))))))))))))))))))))))))))))))))))
(q (.fld 12 none) [1]
(q (.lenSl) [10]
(q (.bin .gtr) [11, .k (.int .i64 1024)]
(.ite (.v 12) (.ret [.k (.int .i64 4)])
(.loop 1 [.k (.int .i64 0), 6] (q (.fld 12 none) [1]
(q (.lenSl) [15]
(q (.bin .lss) [13, 16]
(.ite (.v 17) (q (.fld 12 none) [1]
(q (.idxS 13) [18, 13]
(q (.ldE (some 13)) [19]
(.p (.wr 0 13) [.k (.agg [(.int .u64 0), (.int .u64 0), (.int .u64 0), (.int .u64 0), (.int .u64 0), (.int .u64 0), (.int .u64 0), (.int .u64 0), (.int .i64 0), (.int .i64 0), (.int .u64 0), (.int .i64 0), (.int .u64 0)]), 20] none
(q (.fld 0 (some 4)) [21]
(q (.fld 1 none) [1]
(q (.lenSl) [23]
(q (.call 82) [22, 24]
(q (.ext 0) [25]
(q (.ext 1) [25]
(q (.fld 4 (some 4)) [21]
(q (.fld 1 none) [1]
(q (.lenSl) [29]
(q (.call 82) [28, 30]
(q (.ext 0) [31]
(q (.ext 1) [31]
(q (.un .not) [27]
(qf (.mv) [33] 34
(qf (.un .not) [35] 34
(q (.pick) [34, .k (.bool true), 36]
(qf (.fld 8 none) [21] 37
(qf (.fld 0 none) [1] 37
(qf (.lenSl) [39] 37
(qf (.call 92) [38, 40] 37
(qf (.un .not) [41] 37
(q (.pick) [37, .k (.bool true), 42]
(.ite (.v 43) (.ret [.k (.int .i64 3)])
(q (.un .not) [26]
(qf (.mv) [32] 44
(qf (.un .not) [45] 44
(q (.pick) [44, .k (.bool true), 46]
(.ite (.v 47) (.ret [.k (.int .i64 2)])
(q (.fld 0 (some 17)) [1]
(q (.fld 9 (some 4)) [21]
(q (.call 86) [48, 49]
(q (.un .not) [50]
(.ite (.v 51) (.ret [.k (.int .i64 18)])
(q (.bin .add) [13, .k (.int .i64 1)]
(.next 1 [52, 14])))))))))))))))))))))))))))))))))))))))
(.ret [.k (.int .i64 0)]))))))))))))))))))))
def H56 : List (Nat × Nat) := [(139, 12), (126, 3), (124, 12), (111, 3), (109, 12), (102, 3), (100, 12), (10, 12), (97, 1), (94, 3), (88, 3), (83, 3), (73, 6), (66, 3), (64, 6), (57, 3), (55, 6), (42, 3), (40, 6), (36, 6), (31, 6), (4, 6), (29, 1), (26, 3), (20, 3), (15, 3), (1, 3)]
def T57 : T :=
(.p .box [0] none
(q (.fld 13 none) [1]
(q (.lenSl) [2]
(q (.bin .gtr) [3, .k (.int .i64 64)]
(.ite (.v 4) (.ret [.k (.int .i64 4)])
(.loop 0 [.k (.int .i64 0), .k (.int .i64 0)] (q (.fld 13 none) [1]
(q (.lenSl) [7]
(q (.bin .lss) [5, 8]
(.ite (.v 9) (q (.fld 13 none) [1]
(q (.idxS 13) [10, 5]
(q (.ldE (some 13)) [11]
(.p (.wr 0 13) [.k (.agg [(.int .i64 0), (.int .u32 0), (.bool false), (.int .i64 0), (.int .i64 0), (.int .i64 0), (.int .i64 0), .nils, (.int .u64 0), (.int .u64 0), (.int .u64 0), (.int .u64 0), .nils]), 12] none
(q (.fld 0 (some 17)) [1]
(q (.fld 0 none) [13]
(q (.fld 1 none) [13]
(q (.call 90) [14, 15, 16]
(q (.un .not) [17]
(.ite (.v 18) (.ret [.k (.int .i64 3)])
(q (.fld 2 none) [13]
(q (.fld 1 none) [13]
(q (.bin .eql) [20, .k (.int .u32 0)]
(q (.eqb true) [19, 21]
(.ite (.v 22) (.ret [.k (.int .i64 2)])
(q (.fld 0 (some 17)) [1]
(q (.fld 3 (some 10)) [13]
(q (.fld 2 none) [13]
(q (.call 94) [23, 24, 25]
(q (.bin .neq) [26, .k (.int .i64 0)]
(.ite (.v 27) (.ret [26])
(q (.bin .add) [5, .k (.int .i64 1)]
(.next 0 [28, 6])))))))))))))))))))))))
(.ret [.k (.int .i64 0)])))))))))))
def H57 : List (Nat × Nat) := [(38, 6), (36, 6), (31, 6), (29, 6), (25, 6), (23, 6), (4, 6), (20, 1), (17, 3), (11, 3), (6, 3), (1, 3)]
def T58 : T :=
(.p .box [0] none
(q (.fld 14 none) [1]
(q (.lenSl) [2]
(q (.bin .gtr) [3, .k (.int .i64 1024)]
(.ite (.v 4) (.ret [.k (.int .i64 4)])
(.loop 0 [.k (.int .i64 0), .k .nils, .k (.int .i64 0)] (q (.fld 14 none) [1]
(q (.lenSl) [8]
(q (.bin .lss) [5, 9]
(.ite (.v 10) (q (.fld 14 none) [1]
(q (.idxS 8) [11, 5]
(q (.off 0) [12]
(q (.ldE none) [13]
(q (.bslice false 1) [14]
(q (.call 80) [15, 6]
(q (.bin .neq) [16, .k (.int .i64 0)]
(.ite (.v 17) (.ret [16])
(q (.fld 14 none) [1]
(q (.idxS 8) [18, 5]
(q (.off 0) [19]
(q (.ldE none) [20]
(q (.bslice false 1) [21]
(.s (.app false 1) [6, 22] none
(q (.fld 0 (some 17)) [1]
(q (.fld 14 none) [1]
(q (.idxS 8) [25, 5]
(q (.off 1) [26]
(q (.ldE (some 7)) [27]
(q (.call 95) [24, 28]
(q (.bin .neq) [29, .k (.int .i64 0)]
(.ite (.v 30) (.ret [29])
(q (.bin .add) [5, .k (.int .i64 1)]
(.next 0 [31, 23, 7]))))))))))))))))))))))))
(q (.fld 15 none) [1]
(q (.lenSl) [11]
(q (.bin .gtr) [12, .k (.int .i64 256)]
(.ite (.v 13) (.ret [.k (.int .i64 4)])
(.loop 1 [.k (.int .i64 0), 7] (q (.fld 15 none) [1]
(q (.lenSl) [16]
(q (.bin .lss) [14, 17]
(.ite (.v 18) (q (.fld 15 none) [1]
(q (.idxS 9) [19, 14]
(q (.ldE (some 9)) [20]
(.p (.wr 0 9) [.k (.agg [(.str []), (.int .i64 0), (.int .i64 0), (.int .i64 0), (.int .i64 0), (.int .i64 0), (.int .u64 0), (.int .i64 0), (.int .u64 0)]), 21] none
(q (.fld 0 none) [22]
(q (.bin .eql) [23, .k (.str [])]
(qf (.fld 0 none) [22] 24
(qf (.build [(.int .i64 0), (.str []), (.int .i64 0), (.int .i64 0)] [(0, 1), (1, 1)]) [.k (.int .i64 3), 25] 24
(qf (.call 96) [26] 24
(qf (.un .not) [27] 24
(q (.pick) [24, .k (.bool true), 28]
(.ite (.v 29) (.ret [.k (.int .i64 10)])
(q (.fld 1 none) [22]
(q (.bin .lss) [30, .k (.int .i64 0)]
(qf (.fld 1 none) [22] 31
(qf (.bin .gtr) [32, .k (.int .i64 4)] 31
(q (.pick) [31, .k (.bool true), 33]
(.ite (.v 34) (.ret [.k (.int .i64 13)])
(q (.fld 0 (some 17)) [1]
(q (.fld 2 (some 7)) [22]
(q (.call 95) [35, 36]
(q (.bin .neq) [37, .k (.int .i64 0)]
(.ite (.v 38) (.ret [37])
(q (.bin .add) [14, .k (.int .i64 1)]
(.next 1 [39, 15])))))))))))))))))))))))))
(.ret [.k (.int .i64 0)]))))))))))))))))))))
def H58 : List (Nat × Nat) := [(88, 10), (83, 10), (79, 10), (73, 10), (69, 10), (8, 10), (67, 1), (64, 3), (58, 3), (53, 3), (47, 1), (46, 1), (43, 3), (38, 1), (37, 1), (34, 3), (25, 1), (24, 1), (21, 3), (15, 3), (10, 3), (1, 3)]
def T59 : T :=
(.p .box [0] none
(q (.fld 16 none) [1]
(q (.lenSl) [2]
(q (.bin .gtr) [3, .k (.int .i64 64)]
(.ite (.v 4) (.ret [.k (.int .i64 4)])
(.loop 0 [.k (.int .i64 0), .k .nils, .k (.int .i64 0)] (q (.fld 16 none) [1]
(q (.lenSl) [8]
(q (.bin .lss) [5, 9]
(.ite (.v 10) (q (.fld 16 none) [1]
(q (.idxS 10) [11, 5]
(q (.ldE (some 10)) [12]
(.p (.wr 0 10) [.k (.agg [(.str []), (.int .i64 0), (.int .u64 0), (.int .u64 0), (.int .u64 0), (.int .u64 0), (.int .u64 0), (.int .u64 0), (.int .u64 0), (.int .u64 0)]), 13] none
(q (.fld 0 none) [14]
(q (.bslice false 1) [15]
(q (.call 80) [16, 6]
(q (.bin .neq) [17, .k (.int .i64 0)]
(.ite (.v 18) (.ret [17])
(q (.fld 0 none) [14]
(q (.bslice false 1) [19]
(.s (.app false 1) [6, 20] none
(q (.fld 1 none) [14]
(q (.bin .lss) [22, .k (.int .i64 1)]
(qf (.fld 1 none) [14] 23
(qf (.bin .gtr) [24, .k (.int .i64 3)] 23
(q (.pick) [23, .k (.bool true), 25]
(.ite (.v 26) (.ret [.k (.int .i64 13)])
(q (.fld 2 (some 4)) [14]
(q (.fld 1 none) [1]
(q (.lenSl) [28]
(q (.call 82) [27, 29]
(q (.ext 0) [30]
(q (.ext 1) [30]
(q (.fld 6 (some 4)) [14]
(q (.fld 1 none) [1]
(q (.lenSl) [34]
(q (.call 82) [33, 35]
(q (.ext 0) [36]
(q (.ext 1) [36]
(q (.un .not) [32]
(qf (.mv) [38] 39
(qf (.un .not) [40] 39
(q (.pick) [39, .k (.bool true), 41]
(.ite (.v 42) (.ret [.k (.int .i64 3)])
(q (.un .not) [31]
(qf (.mv) [37] 43
(qf (.un .not) [44] 43
(q (.pick) [43, .k (.bool true), 45]
(.ite (.v 46) (.ret [.k (.int .i64 2)])
(q (.bin .add) [5, .k (.int .i64 1)]
(.next 0 [47, 21, 7]))))))))))))))))))))))))))))))))))))))))))
(.ret [.k (.int .i64 0)])))))))))))
def H59 : List (Nat × Nat) := [(60, 3), (58, 7), (51, 3), (49, 7), (44, 7), (40, 7), (36, 7), (27, 7), (5, 7), (25, 1), (22, 3), (16, 3), (11, 3), (1, 3)]
def T60 : T :=
(.s (.alloc [(.int .u64 0), (.int .u64 0), (.int .u64 0), (.int .u64 0)]) [] none
(.loop 0 [.k (.int .i64 0)] (q (.lenSl) [0]
(q (.bin .lss) [2, 3]
(.ite (.v 4) (q (.idxS 1) [0, 2]
(q (.ldE none) [5]
(q (.bin .quo) [6, .k (.int .i64 64)]
(q (.idxS 1) [0, 2]
(q (.ldE none) [8]
(q (.bin .quo) [9, .k (.int .i64 64)]
(q (.idxA 4 1) [1, 10]
(.s (.ld none) [11] none
(q (.idxS 1) [0, 2]
(q (.ldE none) [13]
(q (.bin .rem) [14, .k (.int .i64 64)]
(q (.bin .shl) [.k (.int .u64 1), 15]
(q (.bin .or) [12, 16]
(q (.idxA 4 1) [1, 7]
(.s (.st 1) [18, 17] none
(q (.bin .add) [2, .k (.int .i64 1)]
(.next 0 [20])))))))))))))))))
(.s (.ld (some 4)) [1] none
(.p (.wr 0 4) [.k (.agg [(.int .u64 0), (.int .u64 0), (.int .u64 0), (.int .u64 0)]), 5] none
(q (.fld 0 (some 4)) [6]
(.ret [7])))))))))
def H60 : List (Nat × Nat) := [(25, 1), (18, 1), (13, 1), (2, 4)]
def T61 : T :=
(q (.build [(.int .i64 0), (.int .i64 0), (.int .i64 0), (.int .i64 0), (.int .u64 0), (.int .i64 0), (.int .u64 0)] [(1, 1), (2, 1)]) [.k (.int .i64 1), .k (.int .i64 0)]
(.p (.wr 0 7) [.k (.agg [(.int .i64 0), (.int .i64 0), (.int .i64 0), (.int .i64 0), (.int .u64 0), (.int .i64 0), (.int .u64 0)]), 0] none
(q (.fld 0 (some 7)) [1]
(.ret [2]))))
def H61 : List (Nat × Nat) := [(0, 2)]
def T62 : T :=
(.s (.callI 97) [0, 1] none
(q (.bin .geq) [2, .k (.int .i64 0)]
(.ret [3])))
def H62 : List (Nat × Nat) := []
def T63 : T :=
(.p .box [0] none
(.s (.ld (some 17)) [1] none
(q (.fld 1 (some 7)) [2]
(q (.call 44) [3, 4]
(q (.bin .neq) [5, .k (.int .i64 0)]
(.ret [6]))))))
def H63 : List (Nat × Nat) := [(5, 4), (2, 4)]
def T64 : T :=
(.p .box [0] none
(q (.fld 3 none) [1]
(.s (.callS 98) [2] none
(q (.fld 4 none) [1]
(q (.call 99) [4]
(q (.fld 6 none) [1]
(q (.call 100) [6]
(q (.fld 7 none) [1]
(q (.call 100) [8]
(q (.build [.nils, .nils, .nils, .nils, .nils, .nils, .nils, .nils, .nils, .nils, .nils, .nils, .nils, .nils, .nils, .nils, .nils] [(3, 1), (4, 1), (6, 1), (7, 1)]) [3, 5, 7, 9]
(.s (.box) [10] none
(q (.fld 1 none) [1]
(q (.lenSl) [12]
(.loop 0 [.k (.int .i64 0)] (q (.bin .lss) [14, 13]
(.ite (.v 15) (q (.idxS 3) [12, 14]
(q (.ldE (some 3)) [16]
(.p (.wr 0 3) [.k (.agg [(.str []), .nils, (.bool false)]), 17] none
(q (.fld 1 none) [18]
(q (.call 100) [19]
(.p (.wr 1 1) [18, 20] none
(q (.nilchk) [11]
(q (.off 1) [22]
(.s (.ld none) [23] none
(q (.fld 0 (some 3)) [21]
(q (.bslice false 3) [25]
(.s (.app false 3) [24, 26] none
(q (.nilchk) [11]
(q (.off 1) [28]
(.s (.st 1) [29, 27] none
(q (.bin .add) [14, .k (.int .i64 1)]
(.next 0 [31])))))))))))))))))
(.ret [11])))))))))))))))))
def H64 : List (Nat × Nat) := [(8, 999998), (30, 7), (27, 7), (5, 7), (25, 1), (20, 3), (15, 3), (12, 3), (9, 3), (6, 3), (1, 3)]
def T65 : T :=
(.p .box [0] none
(.p .box [1] none
(q (.fld 0 none) [3]
(q (.fld 4 none) [2]
(q (.lenSl) [5]
(q (.call 101) [4, 6]
(q (.un .not) [7]
(qf (.fld 1 none) [3] 8
(qf (.fld 3 none) [2] 8
(qf (.lenSl) [10] 8
(qf (.call 101) [9, 11] 8
(qf (.un .not) [12] 8
(q (.pick) [8, .k (.bool true), 13]
(qf (.fld 2 none) [3] 14
(qf (.fld 1 none) [2] 14
(qf (.lenSl) [16] 14
(qf (.call 101) [15, 17] 14
(qf (.un .not) [18] 14
(q (.pick) [14, .k (.bool true), 19]
(.ite (.v 20) (.ret [.k (.int .i64 3)])
(q (.fld 3 (some 4)) [3]
(q (.fld 6 none) [2]
(q (.lenSl) [22]
(q (.fld 7 none) [2]
(q (.lenSl) [24]
(q (.call 102) [21, 23, 25]
(q (.un .not) [26]
(.ite (.v 27) (.ret [.k (.int .i64 18)])
(q (.fld 1 none) [3]
(q (.bin .eql) [28, .k (.int .i64 0)]
(.ite (.v 29) (.ret [.k (.int .i64 0)])
(q (.fld 4 none) [2]
(q (.fld 0 none) [3]
(q (.idxS 11) [30, 31]
(q (.ldE (some 11)) [32]
(.p (.wr 0 11) [.k (.agg [(.str []), (.int .u64 0), (.int .u64 0), (.int .u64 0), (.int .u64 0), (.int .i64 0), (.int .u64 0), (.int .i64 0), (.int .u64 0), (.int .i64 0), (.int .u64 0)]), 33] none
(q (.fld 1 (some 4)) [34]
(q (.fld 1 none) [3]
(q (.call 103) [35, 36]
(q (.un .not) [37]
(qf (.fld 3 none) [2] 38
(qf (.fld 1 none) [3] 38
(qf (.idxS 9) [39, 40] 38
(qf (.off 1) [41] 38
(qf (.ldE (some 4)) [42] 38
(qf (.fld 2 none) [3] 38
(qf (.call 103) [43, 44] 38
(qf (.un .not) [45] 38
(q (.pick) [38, .k (.bool true), 46]
(qf (.fld 7 (some 4)) [34] 47
(qf (.fld 3 (some 4)) [3] 47
(qf (.call 104) [48, 49] 47
(qf (.un .not) [50] 47
(q (.pick) [47, .k (.bool true), 51]
(.ite (.v 52) (.ret [.k (.int .i64 19)])
(.ret [.k (.int .i64 0)]))))))))))))))))))))))))))))))))))))))))))))))))))))))))
def H65 : List (Nat × Nat) := [(72, 5), (70, 7), (64, 5), (62, 1), (61, 1), (59, 5), (57, 4), (52, 5), (50, 7), (5, 7), (48, 1), (46, 5), (44, 4), (41, 5), (36, 4), (33, 4), (31, 5), (25, 4), (23, 5), (16, 4), (14, 5), (8, 4), (6, 5), (3, 5), (2, 4)]
def T66 : T :=
(.p .box [0] none
(.p .box [1] none
(q (.bslice false 33) []
(q (.fld 17 none) [2]
(.s (.app false 33) [4, 5] none
(q (.fld 0 (some 33)) [3]
(q (.bslice false 33) [7]
(.s (.app false 33) [6, 8] none
(.p (.wr 17 1) [2, 9] none
(q (.fld 0 (some 18)) [10]
(.p (.wr 0 18) [.k (.agg [.nils, .nils, .nils, .nils, .nils, .nils, .nils, .nils, .nils, .nils, .nils, .nils, .nils, .nils, .nils, .nils, .nils, .nils]), 11] none
(q (.fld 0 (some 18)) [12]
(.ret [13])))))))))))))
def H66 : List (Nat × Nat) := [(12, 4), (6, 4), (4, 6), (3, 5), (2, 4)]
def T67 : T :=
(.p .box [0] none
(q (.bin .geq) [1, .k (.int .i64 1)]
(qt (.mv) [1] 3
(qt (.fld 17 none) [2] 3
(qt (.lenSl) [5] 3
(qt (.bin .leq) [4, 6] 3
(q (.pick) [3, 7, .k (.bool false)]
(.ret [8]))))))))
def H67 : List (Nat × Nat) := [(9, 4), (2, 4)]
def T68 : T :=
(.p .box [0] none
(.p .box [1] none
(q (.fld 0 (some 17)) [2]
(q (.fld 0 (some 7)) [3]
(q (.call 65) [4, 5]
(q (.bin .neq) [6, .k (.int .i64 0)]
(.ite (.v 7) (.ret [.k (.str []), 6])
(q (.fld 3 (some 4)) [3]
(q (.fld 6 none) [2]
(q (.fld 7 none) [2]
(q (.call 105) [8, 9, 10]
(q (.ext 0) [11]
(q (.ext 1) [11]
(q (.bin .neq) [13, .k (.int .i64 0)]
(.ite (.v 14) (.ret [.k (.str []), 13])
(q (.fld 4 none) [2]
(q (.fld 0 none) [3]
(q (.idxS 11) [15, 16]
(q (.off 0) [17]
(q (.ldE none) [18]
(q (.bin .add) [19, .k (.str [58])]
(q (.fld 3 none) [2]
(q (.fld 1 none) [3]
(q (.idxS 9) [21, 22]
(q (.off 0) [23]
(q (.ldE none) [24]
(q (.bin .add) [20, 25]
(q (.bin .add) [26, .k (.str [58])]
(q (.fld 1 none) [2]
(q (.fld 2 none) [3]
(q (.idxS 3) [28, 29]
(q (.off 0) [30]
(q (.ldE none) [31]
(q (.bin .add) [27, 32]
(q (.bin .add) [33, .k (.str [58])]
(q (.bin .add) [34, 12]
(.ret [35, .k (.int .i64 0)])))))))))))))))))))))))))))))))))))))
def H68 : List (Nat × Nat) := [(50, 1), (49, 1), (47, 5), (45, 4), (41, 1), (40, 1), (38, 5), (36, 4), (33, 1), (32, 1), (30, 5), (28, 4), (20, 4), (18, 4), (16, 5), (3, 5), (2, 4)]
def T69 : T :=
(.p .box [0] none
(q (.bin .eql) [1, .k (.str [])]
(.ite (.v 3) (q (.build [(.int .i64 0), (.int .i64 0), (.int .i64 0), (.int .i64 0), (.int .u64 0), (.int .i64 0), (.int .u64 0)] []) []
(.p (.wr 0 7) [.k (.agg [(.int .i64 0), (.int .i64 0), (.int .i64 0), (.int .i64 0), (.int .u64 0), (.int .i64 0), (.int .u64 0)]), 4] none
(q (.fld 0 (some 7)) [5]
(.ret [6, .k (.bool false)]))))
(q (.fld 0 (some 17)) [2]
(q (.call 106) [4, 1]
(q (.ext 0) [5]
(q (.ext 1) [5]
(.p (.wr 0 7) [.k (.agg [(.int .i64 0), (.int .i64 0), (.int .i64 0), (.int .i64 0), (.int .u64 0), (.int .i64 0), (.int .u64 0)]), 6] none
(q (.fld 0 (some 7)) [8]
(.ret [9, 7]))))))))))
def H69 : List (Nat × Nat) := [(4, 6), (2, 4)]
def T70 : T :=
(.p .box [0] none
(.p .box [1] none
(.p .box [2] none
(q (.fld 0 (some 17)) [3]
(q (.fld 0 (some 7)) [5]
(q (.call 44) [6, 7]
(q (.bin .neq) [8, .k (.int .i64 0)]
(.ite (.v 9) (q (.build [(.int .i64 0), (.int .i64 0), (.int .i64 0), (.int .i64 0), (.int .u64 0), (.int .i64 0), (.int .u64 0)] []) []
(.p (.wr 0 7) [.k (.agg [(.int .i64 0), (.int .i64 0), (.int .i64 0), (.int .i64 0), (.int .u64 0), (.int .i64 0), (.int .u64 0)]), 10] none
(q (.fld 0 (some 7)) [11]
(.ret [12, 8]))))
(q (.fld 0 (some 17)) [4]
(q (.fld 4 none) [3]
(q (.fld 0 none) [5]
(q (.idxS 11) [11, 12]
(q (.off 0) [13]
(q (.ldE none) [14]
(q (.call 107) [10, 15]
(q (.fld 0 (some 17)) [4]
(q (.fld 3 none) [3]
(q (.fld 1 none) [5]
(q (.idxS 9) [18, 19]
(q (.off 0) [20]
(q (.ldE none) [21]
(q (.call 108) [17, 22]
(q (.fld 0 (some 17)) [4]
(q (.fld 1 none) [3]
(q (.fld 2 none) [5]
(q (.idxS 3) [25, 26]
(q (.off 0) [27]
(q (.ldE none) [28]
(q (.call 109) [24, 29]
(q (.build [(.int .i64 0), (.int .i64 0), (.int .i64 0), (.int .i64 0), (.int .u64 0), (.int .i64 0), (.int .u64 0)] [(0, 1), (1, 1), (2, 1)]) [16, 23, 30]
(.p (.wr 0 7) [.k (.agg [(.int .i64 0), (.int .i64 0), (.int .i64 0), (.int .i64 0), (.int .u64 0), (.int .i64 0), (.int .u64 0)]), 31] none
(q (.fld 0 (some 17)) [3]
(q (.fld 0 (some 17)) [4]
(q (.fld 3 (some 2)) [5]
(q (.call 110) [33, 34, 35]
(q (.ext 0) [36]
(q (.ext 1) [36]
(.p (.wr 0 2) [.k (.agg [(.int .i64 0), (.int .u64 0)]), 37] none
(q (.fld 0 (some 17)) [3]
(q (.fld 0 (some 17)) [4]
(q (.fld 5 (some 2)) [5]
(q (.call 110) [40, 41, 42]
(q (.ext 0) [43]
(q (.ext 1) [43]
(.p (.wr 0 2) [.k (.agg [(.int .i64 0), (.int .u64 0)]), 44] none
(q (.fld 0 (some 2)) [39]
(q (.fld 0 (some 2)) [46]
(q (.build [(.int .i64 0), (.int .u64 0), (.int .i64 0), (.int .u64 0)] [(0, 2), (2, 2)]) [47, 48]
(.p (.wr 3 4) [32, 49] none
(q (.un .not) [38]
(qf (.mv) [45] 51
(qf (.un .not) [52] 51
(q (.pick) [51, .k (.bool true), 53]
(qf (.fld 0 (some 17)) [4] 54
(qf (.fld 0 (some 7)) [50] 54
(qf (.call 44) [55, 56] 54
(qf (.bin .neq) [57, .k (.int .i64 0)] 54
(q (.pick) [54, .k (.bool true), 58]
(.ite (.v 59) (q (.build [(.int .i64 0), (.int .i64 0), (.int .i64 0), (.int .i64 0), (.int .u64 0), (.int .i64 0), (.int .u64 0)] []) []
(.p (.wr 0 7) [.k (.agg [(.int .i64 0), (.int .i64 0), (.int .i64 0), (.int .i64 0), (.int .u64 0), (.int .i64 0), (.int .u64 0)]), 60] none
(q (.fld 0 (some 7)) [61]
(.ret [62, .k (.int .i64 19)]))))
(q (.fld 0 (some 7)) [50]
(.p (.wr 0 7) [.k (.agg [(.int .i64 0), (.int .i64 0), (.int .i64 0), (.int .i64 0), (.int .u64 0), (.int .i64 0), (.int .u64 0)]), 60] none
(q (.fld 0 (some 7)) [61]
(.ret [62, .k (.int .i64 0)])))))))))))))))))))))))))))))))))))))))))))))))))))))))))))))))
def H70 : List (Nat × Nat) := [(70, 11), (12, 14), (62, 7), (61, 7), (10, 12), (53, 7), (52, 7), (9, 11), (45, 1), (44, 1), (42, 7), (40, 5), (36, 1), (35, 1), (33, 7), (31, 5), (27, 1), (26, 1), (24, 7), (22, 5), (6, 8), (5, 7), (4, 6), (3, 5)]
def T71 : T :=
(.p .box [0] none
(.loop 0 [.k (.int .i64 0), .k (.bool false), .k (.agg [(.int .i64 0), (.int .i64 0), (.int .i64 0), (.int .i64 0), (.int .u64 0), (.int .i64 0), (.int .u64 0)])] (q (.fld 14 none) [2]
(q (.lenSl) [6]
(q (.bin .lss) [3, 7]
(.ite (.v 8) (q (.fld 14 none) [2]
(q (.idxS 8) [9, 3]
(q (.off 0) [10]
(q (.ldE none) [11]
(q (.bin .eql) [12, 1]
(.ite (.v 13) (q (.fld 14 none) [2]
(q (.idxS 8) [14, 3]
(q (.off 1) [15]
(q (.ldE (some 7)) [16]
(.p (.wr 0 7) [5, 17] none
(q (.fld 0 (some 7)) [18]
(.ret [19, .k (.bool true)])))))))
(q (.bin .add) [3, .k (.int .i64 1)]
(.next 0 [14, 4, 5]))))))))
(q (.build [(.int .i64 0), (.int .i64 0), (.int .i64 0), (.int .i64 0), (.int .u64 0), (.int .i64 0), (.int .u64 0)] []) []
(.p (.wr 0 7) [5, 9] none
(q (.fld 0 (some 7)) [10]
(.ret [11, .k (.bool false)]))))))))))
def H71 : List (Nat × Nat) := [(26, 1), (25, 1), (22, 4), (18, 1), (17, 1), (14, 4), (8, 4), (4, 6), (2, 4)]
def T72 : T :=
(.p .box [0] none
(.p .box [1] none
(.p .box [2] none
(q (.fld 0 (some 17)) [3]
(q (.fld 0 (some 7)) [5]
(q (.call 65) [6, 7]
(q (.bin .neq) [8, .k (.int .i64 0)]
(.ite (.v 9) (q (.build [(.int .i64 0), (.int .i64 0), (.int .i64 0), (.int .i64 0), (.int .u64 0), (.int .i64 0), (.int .u64 0)] []) []
(.p (.wr 0 7) [.k (.agg [(.int .i64 0), (.int .i64 0), (.int .i64 0), (.int .i64 0), (.int .u64 0), (.int .i64 0), (.int .u64 0)]), 10] none
(q (.fld 0 (some 7)) [11]
(.ret [12, 8]))))
(q (.fld 0 (some 17)) [4]
(q (.fld 4 none) [3]
(q (.fld 0 none) [5]
(q (.idxS 11) [11, 12]
(q (.off 0) [13]
(q (.ldE none) [14]
(q (.fld 3 none) [3]
(q (.fld 1 none) [5]
(q (.idxS 9) [16, 17]
(q (.off 0) [18]
(q (.ldE none) [19]
(q (.fld 1 none) [3]
(q (.fld 2 none) [5]
(q (.idxS 3) [21, 22]
(q (.off 0) [23]
(q (.ldE none) [24]
(q (.call 111) [10, 15, 20, 25]
(q (.ext 0) [26]
(q (.ext 1) [26]
(.p (.wr 0 7) [.k (.agg [(.int .i64 0), (.int .i64 0), (.int .i64 0), (.int .i64 0), (.int .u64 0), (.int .i64 0), (.int .u64 0)]), 27] none
(q (.fld 0 (some 17)) [3]
(q (.fld 0 (some 17)) [4]
(q (.fld 3 (some 2)) [5]
(q (.call 112) [30, 31, 32]
(q (.ext 0) [33]
(q (.ext 1) [33]
(.p (.wr 0 2) [.k (.agg [(.int .i64 0), (.int .u64 0)]), 34] none
(q (.fld 0 (some 17)) [3]
(q (.fld 0 (some 17)) [4]
(q (.fld 5 (some 2)) [5]
(q (.call 112) [37, 38, 39]
(q (.ext 0) [40]
(q (.ext 1) [40]
(.p (.wr 0 2) [.k (.agg [(.int .i64 0), (.int .u64 0)]), 41] none
(q (.fld 0 (some 2)) [36]
(q (.fld 0 (some 2)) [43]
(q (.build [(.int .i64 0), (.int .u64 0), (.int .i64 0), (.int .u64 0)] [(0, 2), (2, 2)]) [44, 45]
(.p (.wr 3 4) [29, 46] none
(q (.un .not) [28]
(qf (.mv) [35] 48
(qf (.un .not) [49] 48
(q (.pick) [48, .k (.bool true), 50]
(qf (.mv) [42] 51
(qf (.un .not) [52] 51
(q (.pick) [51, .k (.bool true), 53]
(qf (.fld 0 (some 17)) [4] 54
(qf (.fld 0 (some 7)) [47] 54
(qf (.call 65) [55, 56] 54
(qf (.bin .neq) [57, .k (.int .i64 0)] 54
(q (.pick) [54, .k (.bool true), 58]
(.ite (.v 59) (q (.build [(.int .i64 0), (.int .i64 0), (.int .i64 0), (.int .i64 0), (.int .u64 0), (.int .i64 0), (.int .u64 0)] []) []
(.p (.wr 0 7) [.k (.agg [(.int .i64 0), (.int .i64 0), (.int .i64 0), (.int .i64 0), (.int .u64 0), (.int .i64 0), (.int .u64 0)]), 60] none
(q (.fld 0 (some 7)) [61]
(.ret [62, .k (.int .i64 19)]))))
(q (.fld 0 (some 7)) [47]
(.p (.wr 0 7) [.k (.agg [(.int .i64 0), (.int .i64 0), (.int .i64 0), (.int .i64 0), (.int .u64 0), (.int .i64 0), (.int .u64 0)]), 60] none
(q (.fld 0 (some 7)) [61]
(.ret [62, .k (.int .i64 0)])))))))))))))))))))))))))))))))))))))))))))))))))))))))))))))))
def H72 : List (Nat × Nat) := [(69, 11), (13, 15), (61, 7), (60, 7), (11, 13), (52, 7), (51, 7), (9, 11), (43, 1), (42, 1), (40, 7), (38, 5), (36, 1), (35, 1), (33, 7), (31, 5), (29, 1), (28, 1), (26, 7), (24, 5), (6, 8), (5, 7), (4, 6), (3, 5)]
def T73 : T :=
(q (.bin .geq) [0, .k (.int .i64 0)]
(qt (.mv) [0] 2
(qt (.mv) [1] 2
(qt (.bin .lss) [3, 4] 2
(q (.pick) [2, 5, .k (.bool false)]
(.ret [6]))))))
def H73 : List (Nat × Nat) := []
def T74 : T :=
(.p .box [0] none
(q (.fld 0 (some 2)) [3]
(q (.call 113) [4, 1, 2]
(qt (.fld 2 (some 2)) [3] 5
(qt (.mv) [1] 5
(qt (.mv) [2] 5
(qt (.call 113) [6, 7, 8] 5
(q (.pick) [5, 9, .k (.bool false)]
(qt (.fld 2 (some 2)) [3] 10
(qt (.fld 0 (some 2)) [3] 10
(qt (.call 114) [11, 12] 10
(q (.pick) [10, 13, .k (.bool false)]
(.ret [14])))))))))))))
def H74 : List (Nat × Nat) := [(22, 5), (20, 5), (13, 5), (7, 5), (3, 5)]
def T75 : T :=
(.p .box [0] none
(q (.fld 1 none) [1]
(q (.bin .eql) [2, .k (.int .i64 0)]
(.ret [3]))))
def H75 : List (Nat × Nat) := [(3, 3), (1, 3)]
def T76 : T :=
(.s (.box) [0] none
(q (.call 115) [1]
(qt (.mv) [1] 3
(qt (.bin .quo) [4, .k (.int .i64 64)] 3
(qt (.idxA 4 1) [2, 5] 3
(.s (.ld none) [6] (some (3, true))
(qt (.mv) [1] 3
(qt (.bin .rem) [8, .k (.int .i64 64)] 3
(qt (.bin .shr) [7, 9] 3
(qt (.bin .and) [10, .k (.int .u64 1)] 3
(qt (.bin .eql) [11, .k (.int .u64 1)] 3
(q (.pick) [3, 12, .k (.bool false)]
(.ret [13])))))))))))))
def H76 : List (Nat × Nat) := []
def T77 : T :=
(.p .box [0] none
(.p .box [1] none
(q (.fld 0 (some 2)) [3]
(q (.fld 0 (some 2)) [2]
(q (.call 114) [4, 5]
(qt (.fld 2 (some 2)) [2] 6
(qt (.fld 2 (some 2)) [3] 6
(qt (.call 114) [7, 8] 6
(q (.pick) [6, 9, .k (.bool false)]
(.ret [10]))))))))))
def H77 : List (Nat × Nat) := [(13, 5), (11, 4), (7, 4), (5, 5), (3, 5), (2, 4)]
def T78 : T :=
(.p .box [0] none
(q (.fld 0 (some 4)) [3]
(q (.call 116) [4, 1, 2]
(q (.bin .neq) [5, .k (.int .i64 0)]
(.ite (.v 6) (.ret [.k (.str []), 5])
(q (.fld 0 (some 2)) [3]
(q (.call 117) [7, 1, 2]
(q (.fld 0 (some 2)) [3]
(q (.fld 2 (some 2)) [3]
(q (.eqa false [.i .i64, .i .u64]) [9, 10]
(.ite (.v 11) (.ret [8, .k (.int .i64 0)])
(q (.bin .add) [8, .k (.str [45])]
(q (.fld 2 (some 2)) [3]
(q (.call 117) [13, 1, 2]
(q (.bin .add) [12, 14]
(.ret [15, .k (.int .i64 0)]))))))))))))))))
def H78 : List (Nat × Nat) := [(30, 5), (24, 5), (22, 5), (17, 5), (3, 5)]
def T79 : T :=
(.p .box [0] none
(q (.bin .eql) [1, .k (.int .i64 0)]
(.ite (.v 3) (.ret [.k (.int .i64 0)])
(.loop 0 [.k (.int .i64 0), .k (.int .i64 0)] (q (.fld 9 none) [2]
(q (.lenSl) [6]
(q (.bin .lss) [4, 7]
(.ite (.v 8) (q (.fld 9 none) [2]
(q (.idxS 10) [9, 4]
(q (.ldE (some 10)) [10]
(q (.bin .sub) [1, .k (.int .i64 1)]
(q (.call 79) [11, 12]
(q (.mx) [5, 13]
(q (.bin .add) [4, .k (.int .i64 1)]
(.next 0 [15, 14]))))))))
(q (.bin .add) [5, .k (.int .i64 1)]
(.ret [9]))))))))))
def H79 : List (Nat × Nat) := [(20, 1), (17, 4), (10, 4), (2, 4)]
def T80 : T :=
(.loop 0 [.k (.int .i64 0), .k (.int .i64 0)] (q (.lenSl) [0]
(q (.bin .lss) [2, 4]
(.ite (.v 5) (q (.idxS 1) [0, 2]
(q (.ldE none) [6]
(q (.call 118) [7]
(q (.un .not) [8]
(.ite (.v 9) (.ret [.k (.int .i64 10)])
(q (.idxS 1) [0, 2]
(q (.ldE none) [10]
(q (.slcV 1 false true false) [0, 2]
(q (.call 119) [11, 12]
(qf (.mv) [0] 13
(qf (.mv) [2] 13
(qf (.idxS 1) [14, 15] 13
(qf (.ldE none) [16] 13
(qf (.mv) [1] 13
(qf (.call 119) [17, 18] 13
(q (.pick) [13, .k (.bool true), 19]
(.ite (.v 20) (.ret [.k (.int .i64 12)])
(q (.bin .add) [2, .k (.int .i64 1)]
(.next 0 [21, 3])))))))))))))))))))
(.ret [.k (.int .i64 0)])))))
def H80 : List (Nat × Nat) := [(31, 1), (22, 1), (15, 1)]
def T81 : T :=
(.p .box [0] none
(.loop 0 [.k (.int .i64 0), .k .nils] (q (.bin .lss) [3, 1]
(.ite (.v 5) (q (.fld 1 none) [2]
(q (.idxS 3) [6, 3]
(q (.off 0) [7]
(q (.ldE none) [8]
(q (.bslice false 1) [9]
(.s (.app false 1) [4, 10] none
(q (.fld 1 none) [2]
(q (.idxS 3) [12, 3]
(q (.off 1) [13]
(q (.ldE none) [14]
(.s (.app false 1) [11, 15] none
(q (.bin .add) [3, .k (.int .i64 1)]
(.next 0 [17, 16])))))))))))))
(.ret [4])))))
def H81 : List (Nat × Nat) := [(26, 1), (25, 1), (22, 4), (17, 1), (16, 1), (13, 4), (2, 4)]
def T82 : T :=
(.p .box [0] none
(q (.fld 0 (some 4)) [2]
(q (.build [(.int .u64 0), (.int .u64 0), (.int .u64 0), (.int .u64 0)] []) []
(q (.eqa true [.i .u64, .i .u64, .i .u64, .i .u64]) [3, 4]
(q (.fld 0 (some 4)) [2]
(q (.call 83) [1]
(q (.call 84) [6, 7]
(.ret [5, 8]))))))))
def H82 : List (Nat × Nat) := [(2, 4)]
def T83 : T :=
(q (.build [(.int .u64 0), (.int .u64 0), (.int .u64 0), (.int .u64 0)] []) []
(.p (.wr 0 4) [.k (.agg [(.int .u64 0), (.int .u64 0), (.int .u64 0), (.int .u64 0)]), 1] none
(.loop 0 [.k (.int .i64 0), 2] (q (.bin .lss) [3, 0]
(qt (.mv) [3] 5
(qt (.bin .lss) [6, .k (.int .i64 256)] 5
(q (.pick) [5, 7, .k (.bool false)]
(.ite (.v 8) (q (.fld 0 (some 4)) [4]
(q (.call 120) [9, 3]
(.p (.wr 0 4) [4, 10] none
(q (.bin .add) [3, .k (.int .i64 1)]
(.next 0 [12, 11])))))
(q (.fld 0 (some 4)) [4]
(.p (.wr 0 4) [.k (.agg [(.int .u64 0), (.int .u64 0), (.int .u64 0), (.int .u64 0)]), 9] none
(q (.fld 0 (some 4)) [10]
(.ret [11]))))))))))))
def H83 : List (Nat × Nat) := [(3, 5), (2, 4)]
def T84 : T :=
(.p .box [0] none
(.p .box [1] none
(q (.fld 0 (some 4)) [2]
(q (.fld 0 (some 4)) [3]
(q (.call 121) [4, 5]
(q (.build [(.int .u64 0), (.int .u64 0), (.int .u64 0), (.int .u64 0)] []) []
(q (.eqa false [.i .u64, .i .u64, .i .u64, .i .u64]) [6, 7]
(.ret [8]))))))))
def H84 : List (Nat × Nat) := [(3, 5), (2, 4)]
def T85 : T :=
(.p .box [0] none
(.p .box [1] none
(q (.fld 0 (some 4)) [3]
(q (.fld 3 none) [2]
(q (.lenSl) [5]
(q (.call 83) [6]
(q (.call 122) [7, .k (.int .i64 0)]
(q (.call 84) [4, 8]
(.ret [9])))))))))
def H85 : List (Nat × Nat) := [(6, 4), (3, 5), (2, 4)]
def T86 : T :=
(.p .box [0] none
(.p .box [1] none
(q (.fld 0 (some 17)) [2]
(q (.fld 0 (some 2)) [3]
(q (.call 87) [4, 5]
(qt (.fld 0 (some 17)) [2] 6
(qt (.fld 2 (some 2)) [3] 6
(qt (.call 87) [7, 8] 6
(q (.pick) [6, 9, .k (.bool false)]
(qt (.fld 2 (some 2)) [3] 10
(qt (.fld 0 (some 2)) [3] 10
(qt (.call 88) [11, 12] 10
(q (.pick) [10, 13, .k (.bool false)]
(.ret [14]))))))))))))))
def H86 : List (Nat × Nat) := [(18, 5), (16, 5), (11, 5), (6, 5), (3, 5), (2, 4)]
def T87 : T :=
(.p .box [0] none
(.p .box [1] none
(q (.fld 0 none) [3]
(q (.fld 6 none) [2]
(q (.lenSl) [5]
(q (.call 92) [4, 6]
(qt (.fld 7 none) [2] 7
(qt (.lenSl) [8] 7
(qt (.bin .geq) [9, .k (.int .i64 64)] 7
(qt (.mv) [10] 7
(qf (.fld 1 none) [3] 11
(qf (.fld 7 none) [2] 11
(qf (.lenSl) [13] 11
(qf (.bin .shr) [12, 14] 11
(qf (.bin .eql) [15, .k (.int .u64 0)] 11
(qt (.pick) [11, .k (.bool true), 16] 7
(q (.pick) [7, 17, .k (.bool false)]
(.ret [18]))))))))))))))))))
def H87 : List (Nat × Nat) := [(19, 4), (17, 5), (12, 4), (7, 4), (5, 5), (3, 5), (2, 4)]
def T88 : T :=
(.p .box [0] none
(.p .box [1] none
(q (.fld 0 none) [2]
(q (.fld 0 none) [3]
(q (.bin .geq) [4, 5]
(qt (.fld 1 none) [3] 6
(qt (.fld 1 none) [2] 6
(qt (.bin .andNot) [7, 8] 6
(qt (.bin .eql) [9, .k (.int .u64 0)] 6
(q (.pick) [6, 10, .k (.bool false)]
(.ret [11])))))))))))
def H88 : List (Nat × Nat) := [(13, 4), (11, 5), (7, 5), (5, 4), (3, 5), (2, 4)]
def T89 : T :=
(.p .box [0] none
(.p .box [1] none
(q (.fld 0 (some 10)) [3]
(q (.call 47) [4]
(q (.bin .gtr) [5, .k (.int .i64 12)]
(.ite (.v 6) (.ret [.k (.int .i64 4)])
(q (.fld 0 (some 17)) [2]
(q (.fld 0 (some 10)) [3]
(q (.call 123) [7, 8]
(.ret [9]))))))))))
def H89 : List (Nat × Nat) := [(3, 5), (2, 4)]
def T90 : T :=
(.p .box [0] none
(q (.fld 0 none) [3]
(q (.lenSl) [4]
(q (.call 92) [1, 5]
(qt (.fld 0 none) [3] 6
(qt (.mv) [1] 6
(qt (.idxS 2) [7, 8] 6
(qt (.off 1) [9] 6
(qt (.ldE none) [10] 6
(qt (.lenSl) [11] 6
(qt (.bin .geq) [12, .k (.int .i64 32)] 6
(qt (.mv) [13] 6
(qf (.mv) [2] 14
(qf (.fld 0 none) [3] 14
(qf (.mv) [1] 14
(qf (.idxS 2) [16, 17] 14
(qf (.off 1) [18] 14
(qf (.ldE none) [19] 14
(qf (.lenSl) [20] 14
(qf (.bin .shr) [15, 21] 14
(qf (.bin .eql) [22, .k (.int .u32 0)] 14
(qt (.pick) [14, .k (.bool true), 23] 6
(q (.pick) [6, 24, .k (.bool false)]
(.ret [25]))))))))))))))))))))))))
def H90 : List (Nat × Nat) := [(27, 1), (26, 1), (23, 5), (17, 1), (16, 1), (13, 5), (8, 5), (3, 5)]
def T91 : T :=
(.p .box [0] none
(q (.fld 8 none) [2]
(q (.lenSl) [3]
(q (.un .neg) [4]
(q (.bin .geq) [1, 5]
(qt (.mv) [1] 6
(qt (.fld 8 none) [2] 6
(qt (.lenSl) [8] 6
(qt (.bin .leq) [7, 9] 6
(q (.pick) [6, 10, .k (.bool false)]
(.ret [11])))))))))))
def H91 : List (Nat × Nat) := [(13, 4), (6, 4), (2, 4)]
def T92 : T :=
(q (.bin .geq) [0, .k (.int .i64 0)]
(qt (.mv) [0] 2
(qt (.mv) [1] 2
(qt (.bin .lss) [3, 4] 2
(q (.pick) [2, 5, .k (.bool false)]
(.ret [6]))))))
def H92 : List (Nat × Nat) := []
def T93 : T :=
(.loop 0 [.k (.int .i64 0), .k (.bool false)] (q (.lenStr) [0]
(q (.bin .lss) [1, 3]
(.ite (.v 4) (q (.idxStr) [0, 1]
(q (.bin .lss) [5, .k (.int .u8 33)]
(qf (.mv) [0] 6
(qf (.mv) [1] 6
(qf (.idxStr) [7, 8] 6
(qf (.bin .gtr) [9, .k (.int .u8 126)] 6
(q (.pick) [6, .k (.bool true), 10]
(qf (.mv) [0] 11
(qf (.mv) [1] 11
(qf (.idxStr) [12, 13] 11
(qf (.bin .eql) [14, .k (.int .u8 34)] 11
(q (.pick) [11, .k (.bool true), 15]
(qf (.mv) [0] 16
(qf (.mv) [1] 16
(qf (.idxStr) [17, 18] 16
(qf (.bin .eql) [19, .k (.int .u8 47)] 16
(q (.pick) [16, .k (.bool true), 20]
(.ite (.v 21) (.ret [.k (.bool false)])
(q (.bin .add) [1, .k (.int .i64 1)]
(.next 0 [22, 2]))))))))))))))))))))
(q (.lenStr) [0]
(q (.bin .geq) [5, .k (.int .i64 1)]
(qt (.mv) [0] 6
(qt (.lenStr) [7] 6
(qt (.bin .leq) [8, .k (.int .i64 32)] 6
(q (.pick) [6, 9, .k (.bool false)]
(.ret [10])))))))))))
def H93 : List (Nat × Nat) := []
def T94 : T :=
(.p .box [0] none
(.p .box [1] none
(q (.fld 0 (some 10)) [4]
(q (.call 47) [5]
(q (.bin .gtr) [6, .k (.int .i64 12)]
(.ite (.v 7) (.ret [.k (.int .i64 4)])
(.ite (.v 2) (q (.fld 0 (some 17)) [3]
(q (.fld 0 (some 10)) [4]
(q (.call 124) [8, 9, .k (.int .i64 15)]
(.ret [10]))))
(q (.fld 0 (some 17)) [3]
(q (.fld 0 (some 10)) [4]
(q (.call 124) [8, 9, .k (.int .i64 10)]
(.ret [10])))))))))))
def H94 : List (Nat × Nat) := [(4, 6), (3, 5)]
def T95 : T :=
(.p .box [0] none
(.p .box [1] none
(q (.fld 0 none) [3]
(q (.fld 4 none) [2]
(q (.lenSl) [5]
(q (.call 92) [4, 6]
(q (.un .not) [7]
(qf (.fld 1 none) [3] 8
(qf (.fld 3 none) [2] 8
(qf (.lenSl) [10] 8
(qf (.call 92) [9, 11] 8
(qf (.un .not) [12] 8
(q (.pick) [8, .k (.bool true), 13]
(qf (.fld 2 none) [3] 14
(qf (.fld 1 none) [2] 14
(qf (.lenSl) [16] 14
(qf (.call 92) [15, 17] 14
(qf (.un .not) [18] 14
(q (.pick) [14, .k (.bool true), 19]
(.ite (.v 20) (.ret [.k (.int .i64 3)])
(q (.fld 0 (some 17)) [2]
(q (.fld 3 (some 4)) [3]
(q (.call 86) [21, 22]
(q (.un .not) [23]
(.ite (.v 24) (.ret [.k (.int .i64 18)])
(q (.fld 1 none) [3]
(q (.bin .eql) [25, .k (.int .i64 0)]
(.ite (.v 26) (.ret [.k (.int .i64 0)])
(q (.fld 4 none) [2]
(q (.fld 0 none) [3]
(q (.idxS 11) [27, 28]
(q (.ldE (some 11)) [29]
(.p (.wr 0 11) [.k (.agg [(.str []), (.int .u64 0), (.int .u64 0), (.int .u64 0), (.int .u64 0), (.int .i64 0), (.int .u64 0), (.int .i64 0), (.int .u64 0), (.int .i64 0), (.int .u64 0)]), 30] none
(q (.fld 3 (some 2)) [3]
(q (.fld 7 (some 2)) [31]
(q (.call 88) [32, 33]
(qt (.fld 9 (some 2)) [31] 34
(qt (.fld 5 (some 2)) [3] 34
(qt (.call 88) [35, 36] 34
(q (.pick) [34, 37, .k (.bool false)]
(q (.un .not) [38]
(qf (.fld 1 (some 4)) [31] 39
(qf (.fld 1 none) [3] 39
(qf (.call 103) [40, 41] 39
(qf (.un .not) [42] 39
(q (.pick) [39, .k (.bool true), 43]
(qf (.fld 3 none) [2] 44
(qf (.fld 1 none) [3] 44
(qf (.idxS 9) [45, 46] 44
(qf (.off 1) [47] 44
(qf (.ldE (some 4)) [48] 44
(qf (.fld 2 none) [3] 44
(qf (.call 103) [49, 50] 44
(qf (.un .not) [51] 44
(q (.pick) [44, .k (.bool true), 52]
(.ite (.v 53) (.ret [.k (.int .i64 19)])
(.ret [.k (.int .i64 0)])))))))))))))))))))))))))))))))))))))))))))))))))))))))))
def H95 : List (Nat × Nat) := [(80, 5), (78, 1), (77, 1), (75, 5), (73, 4), (67, 5), (65, 7), (58, 5), (57, 5), (55, 7), (54, 7), (50, 7), (49, 7), (47, 5), (46, 5), (5, 7), (44, 1), (42, 5), (40, 4), (37, 5), (33, 5), (26, 4), (24, 5), (17, 4), (15, 5), (9, 4), (7, 5), (3, 5), (2, 4)]
def T96 : T :=
(.p .box [0] none
(q (.fld 0 none) [1]
(q (.bin .eql) [2, .k (.int .i64 0)]
(.ite (.v 3) (q (.fld 1 none) [1]
(q (.bin .eql) [4, .k (.str [])]
(.ret [5])))
(q (.bin .eql) [2, .k (.int .i64 1)]
(.ite (.v 4) (q (.fld 1 none) [1]
(q (.call 125) [5]
(.ret [6])))
(q (.bin .eql) [2, .k (.int .i64 2)]
(.ite (.v 5) (q (.fld 1 none) [1]
(q (.call 126) [6]
(.ret [7])))
(q (.bin .eql) [2, .k (.int .i64 3)]
(.ite (.v 6) (q (.fld 1 none) [1]
(q (.call 127) [7]
(.ret [8])))
(q (.bin .eql) [2, .k (.int .i64 4)]
(.ite (.v 7) (q (.fld 1 none) [1]
(q (.call 128) [8, .k (.str [123, 32, 125, 32, 40, 32, 41, 32, 59, 32, 58, 32, 44, 32, 46, 32, 45, 32, 126, 32, 42, 32, 33, 32, 61, 61, 32, 33, 61, 32, 38, 38, 32, 124, 124, 32, 94, 32])]
(.ret [9])))
(.ret [.k (.bool false)])))))))))))))
def H96 : List (Nat × Nat) := [(27, 3), (22, 3), (17, 3), (12, 3), (7, 3), (3, 3), (1, 3)]
def T97 : T :=
(q (.lenSl) [0]
(.loop 0 [.k (.int .i64 0), .k (.int .i64 0)] (q (.bin .lss) [3, 2]
(.ite (.v 5) (q (.idxS 8) [0, 3]
(q (.ldE (some 8)) [6]
(.s (.callV) [1, 7] none
(.ite (.v 8) (.ret [3])
(q (.bin .add) [3, .k (.int .i64 1)]
(.next 0 [9, 4]))))))
(.ret [.k (.int .i64 (-1))])))))
def H97 : List (Nat × Nat) := [(14, 1)]
def T98 : T :=
(q (.isnil 0 false) [0]
(.ite (.v 1) (.ret [.k .nils])
(q (.bslice false 9) []
(.s (.app false 9) [2, 0] none
(.ret [3])))))
def H98 : List (Nat × Nat) := []
def T99 : T :=
(q (.isnil 0 false) [0]
(.ite (.v 1) (.ret [.k .nils])
(q (.bslice false 11) []
(.s (.app false 11) [2, 0] none
(.ret [3])))))
def H99 : List (Nat × Nat) := []
def T100 : T :=
(q (.isnil 0 false) [0]
(.ite (.v 1) (.ret [.k .nils])
(q (.bslice false 1) []
(.s (.app false 1) [2, 0] none
(.ret [3])))))
def H100 : List (Nat × Nat) := []
def T101 : T :=
(q (.bin .geq) [0, .k (.int .i64 0)]
(qt (.mv) [0] 2
(qt (.mv) [1] 2
(qt (.bin .lss) [3, 4] 2
(q (.pick) [2, 5, .k (.bool false)]
(.ret [6]))))))
def H101 : List (Nat × Nat) := []
def T102 : T :=
(.p .box [0] none
(q (.fld 0 (some 2)) [3]
(q (.call 129) [4, 1, 2]
(qt (.fld 2 (some 2)) [3] 5
(qt (.mv) [1] 5
(qt (.mv) [2] 5
(qt (.call 129) [6, 7, 8] 5
(q (.pick) [5, 9, .k (.bool false)]
(qt (.fld 2 (some 2)) [3] 10
(qt (.fld 0 (some 2)) [3] 10
(qt (.call 130) [11, 12] 10
(q (.pick) [10, 13, .k (.bool false)]
(.ret [14])))))))))))))
def H102 : List (Nat × Nat) := [(22, 5), (20, 5), (13, 5), (7, 5), (3, 5)]
def T103 : T :=
(.s (.box) [0] none
(q (.bin .geq) [1, .k (.int .i64 0)]
(qt (.mv) [1] 3
(qt (.bin .lss) [4, .k (.int .i64 256)] 3
(q (.pick) [3, 5, .k (.bool false)]
(qt (.mv) [1] 6
(qt (.bin .quo) [7, .k (.int .i64 64)] 6
(qt (.idxA 4 1) [2, 8] 6
(.s (.ld none) [9] (some (6, true))
(qt (.mv) [1] 6
(qt (.call 131) [11] 6
(qt (.bin .and) [10, 12] 6
(qt (.bin .neq) [13, .k (.int .u64 0)] 6
(q (.pick) [6, 14, .k (.bool false)]
(.ret [15])))))))))))))))
def H103 : List (Nat × Nat) := []
def T104 : T :=
(.p .box [0] none
(.p .box [1] none
(q (.fld 0 (some 2)) [3]
(q (.fld 0 (some 2)) [2]
(q (.call 130) [4, 5]
(qt (.fld 2 (some 2)) [2] 6
(qt (.fld 2 (some 2)) [3] 6
(qt (.call 130) [7, 8] 6
(q (.pick) [6, 9, .k (.bool false)]
(.ret [10]))))))))))
def H104 : List (Nat × Nat) := [(13, 5), (11, 4), (7, 4), (5, 5), (3, 5), (2, 4)]
def T105 : T :=
(.p .box [0] none
(q (.fld 0 (some 4)) [3]
(q (.call 132) [4, 1, 2]
(q (.ext 0) [5]
(q (.ext 1) [5]
(.p (.wr 0 4) [.k (.agg [(.str []), .nils, (.str []), .nils]), 6] none
(q (.bin .neq) [7, .k (.int .i64 0)]
(.ite (.v 9) (.ret [.k (.str []), 7])
(q (.fld 0 (some 2)) [8]
(q (.call 133) [10]
(q (.fld 2 none) [8]
(q (.bin .neq) [12, .k (.str [])]
(.ite (.v 13) (q (.bin .add) [11, .k (.str [45])]
(q (.fld 2 (some 2)) [8]
(q (.call 133) [15]
(q (.bin .add) [14, 16]
(.ret [17, .k (.int .i64 0)])))))
(.ret [11, .k (.int .i64 0)]))))))))))))))
def H105 : List (Nat × Nat) := [(30, 10), (25, 10), (24, 10), (21, 10), (8, 10), (3, 5)]
def T106 : T :=
(.p .box [0] none
(q (.fld 14 none) [2]
(q (.lenSl) [3]
(.loop 0 [.k (.int .i64 0), .k (.bool false), .k (.agg [(.int .i64 0), (.int .i64 0), (.int .i64 0), (.int .i64 0), (.int .u64 0), (.int .i64 0), (.int .u64 0)])] (q (.bin .lss) [5, 4]
(.ite (.v 8) (q (.idxS 8) [3, 5]
(q (.ldE (some 8)) [9]
(.p (.wr 0 8) [.k (.agg [(.str []), (.int .i64 0), (.int .i64 0), (.int .i64 0), (.int .i64 0), (.int .u64 0), (.int .i64 0), (.int .u64 0)]), 10] none
(q (.fld 0 none) [11]
(q (.bin .eql) [12, 1]
(.ite (.v 13) (q (.fld 1 (some 7)) [11]
(.p (.wr 0 7) [7, 14] none
(q (.fld 0 (some 7)) [15]
(.ret [16, .k (.bool true)]))))
(q (.bin .add) [5, .k (.int .i64 1)]
(.next 0 [14, 6, 7]))))))))
(q (.build [(.int .i64 0), (.int .i64 0), (.int .i64 0), (.int .i64 0), (.int .u64 0), (.int .i64 0), (.int .u64 0)] []) []
(.p (.wr 0 7) [7, 9] none
(q (.fld 0 (some 7)) [10]
(.ret [11, .k (.bool false)]))))))))))
def H106 : List (Nat × Nat) := [(19, 9), (15, 9), (7, 9), (13, 1), (8, 4), (4, 6), (2, 4)]
def T107 : T :=
(.p .box [0] none
(.s (.box) [1] none
(q (.fld 4 none) [2]
(q (.mkfunc 135) [3]
(.s (.callI 134) [4, 5] none
(.ret [6]))))))
def H107 : List (Nat × Nat) := [(5, 4), (2, 4)]
def T108 : T :=
(.p .box [0] none
(.s (.box) [1] none
(q (.fld 3 none) [2]
(q (.mkfunc 137) [3]
(.s (.callI 136) [4, 5] none
(.ret [6]))))))
def H108 : List (Nat × Nat) := [(5, 4), (2, 4)]
def T109 : T :=
(.p .box [0] none
(.s (.box) [1] none
(q (.fld 1 none) [2]
(q (.mkfunc 139) [3]
(.s (.callI 138) [4, 5] none
(.ret [6]))))))
def H109 : List (Nat × Nat) := [(5, 4), (2, 4)]
def T110 : T :=
(.p .box [0] none
(.p .box [1] none
(.p .box [2] none
(q (.fld 6 none) [4]
(q (.fld 6 none) [3]
(q (.fld 0 none) [5]
(q (.idxS 1) [7, 8]
(q (.ldE none) [9]
(q (.call 141) [6, 10]
(q (.build [(.int .i64 0), (.int .u64 0)] [(0, 1)]) [11]
(.p (.wr 0 2) [.k (.agg [(.int .i64 0), (.int .u64 0)]), 12] none
(q (.fld 0 none) [13]
(q (.bin .geq) [14, .k (.int .i64 0)]
(q (.fld 7 none) [3]
(q (.lenSl) [16]
(.loop 0 [.k (.int .i64 0), 15, 13] (q (.bin .lss) [18, 17]
(.ite (.v 21) (q (.idxS 1) [16, 18]
(q (.ldE none) [22]
(q (.fld 1 none) [5]
(q (.bin .shr) [24, 18]
(q (.bin .and) [25, .k (.int .u64 1)]
(q (.bin .eql) [26, .k (.int .u64 0)]
(.ite (.v 27) (q (.bin .add) [18, .k (.int .i64 1)]
(.next 0 [28, 19, 20]))
(q (.fld 7 none) [4]
(q (.call 141) [28, 23]
(qt (.mv) [29] 19
(qt (.bin .geq) [30, .k (.int .i64 0)] 19
(q (.pick) [19, 31, .k (.bool false)]
(q (.bin .geq) [29, .k (.int .i64 0)]
(.ite (.v 33) (q (.fld 1 none) [20]
(q (.bin .shl) [.k (.int .u64 1), 29]
(q (.bin .or) [34, 35]
(.p (.wr 1 1) [20, 36] none
(q (.bin .add) [18, .k (.int .i64 1)]
(.next 0 [38, 32, 37]))))))
(q (.bin .add) [18, .k (.int .i64 1)]
(.next 0 [34, 32, 20]))))))))))))))))
(q (.fld 0 (some 2)) [20]
(.p (.wr 0 2) [.k (.agg [(.int .i64 0), (.int .u64 0)]), 22] none
(q (.fld 0 (some 2)) [23]
(.ret [24, 19]))))))))))))))))))))))
def H110 : List (Nat × Nat) := [(56, 10), (51, 10), (40, 6), (34, 7), (32, 1), (26, 5), (23, 10), (8, 10), (19, 1), (17, 7), (15, 5), (13, 6), (6, 8), (5, 7), (4, 6), (3, 5)]
def T111 : T :=
(.p .box [0] none
(q (.fld 0 (some 17)) [4]
(q (.call 142) [5, 1]
(q (.ext 0) [6]
(q (.ext 1) [6]
(q (.fld 0 (some 17)) [4]
(q (.call 143) [9, 2]
(q (.ext 0) [10]
(q (.ext 1) [10]
(q (.fld 1 none) [4]
(q (.fld 2 none) [4]
(q (.build [.nils, .nils] [(0, 1), (1, 1)]) [13, 14]
(q (.call 144) [3, 15]
(q (.ext 0) [16]
(q (.ext 1) [16]
(q (.build [(.int .i64 0), (.int .i64 0), (.int .i64 0), (.int .i64 0), (.int .u64 0), (.int .i64 0), (.int .u64 0)] [(0, 1), (1, 1), (2, 1)]) [7, 11, 17]
(qt (.mv) [12] 8
(q (.pick) [8, 20, .k (.bool false)]
(qt (.mv) [18] 21
(q (.pick) [21, 22, .k (.bool false)]
(.p (.wr 0 7) [.k (.agg [(.int .i64 0), (.int .i64 0), (.int .i64 0), (.int .i64 0), (.int .u64 0), (.int .i64 0), (.int .u64 0)]), 19] none
(q (.fld 0 (some 7)) [24]
(.ret [25, 23])))))))))))))))))))))))
def H111 : List (Nat × Nat) := [(32, 6), (30, 6), (8, 10), (4, 6)]
def T112 : T :=
(.p .box [0] none
(.p .box [1] none
(.p .box [2] none
(q (.fld 6 none) [4]
(q (.fld 6 none) [3]
(q (.fld 0 none) [5]
(q (.idxS 1) [7, 8]
(q (.ldE none) [9]
(q (.call 145) [6, 10]
(q (.ext 0) [11]
(q (.ext 1) [11]
(q (.build [(.int .i64 0), (.int .u64 0)] [(0, 1)]) [12]
(.p (.wr 0 2) [.k (.agg [(.int .i64 0), (.int .u64 0)]), 14] none
(.loop 0 [.k (.int .i64 0), 13, 15] (q (.fld 7 none) [3]
(q (.lenSl) [19]
(q (.bin .lss) [16, 20]
(qt (.mv) [16] 21
(qt (.bin .lss) [22, .k (.int .i64 64)] 21
(q (.pick) [21, 23, .k (.bool false)]
(.ite (.v 24) (q (.fld 1 none) [5]
(q (.bin .shr) [25, 16]
(q (.bin .and) [26, .k (.int .u64 1)]
(q (.bin .eql) [27, .k (.int .u64 0)]
(.ite (.v 28) (q (.bin .add) [16, .k (.int .i64 1)]
(.next 0 [29, 17, 18]))
(q (.fld 7 none) [4]
(q (.fld 7 none) [3]
(q (.idxS 1) [30, 16]
(q (.ldE none) [31]
(q (.call 145) [29, 32]
(q (.ext 0) [33]
(q (.ext 1) [33]
(qt (.mv) [35] 17
(q (.pick) [17, 36, .k (.bool false)]
(q (.fld 1 none) [18]
(q (.bin .shl) [.k (.int .u64 1), 34]
(q (.bin .or) [38, 39]
(.p (.wr 1 1) [18, 40] none
(q (.bin .add) [16, .k (.int .i64 1)]
(.next 0 [42, 37, 41]))))))))))))))))))))
(q (.fld 0 (some 2)) [18]
(.p (.wr 0 2) [.k (.agg [(.int .i64 0), (.int .u64 0)]), 25] none
(q (.fld 0 (some 2)) [26]
(.ret [27, 17])))))))))))))))))))))))))
def H112 : List (Nat × Nat) := [(65, 12), (60, 12), (51, 1), (48, 5), (46, 6), (39, 7), (29, 5), (10, 12), (21, 1), (19, 7), (17, 5), (15, 6), (6, 8), (5, 7), (4, 6), (3, 5)]
def T113 : T :=
(.p .box [0] none
(q (.fld 0 none) [3]
(q (.bin .lss) [4, .k (.int .i64 0)]
(qf (.fld 0 none) [3] 5
(qf (.mv) [1] 5
(qf (.bin .geq) [6, 7] 5
(q (.pick) [5, .k (.bool true), 8]
(.ite (.v 9) (.ret [.k (.bool false)])
(q (.bin .geq) [2, .k (.int .i64 64)]
(.ite (.v 10) (.ret [.k (.bool true)])
(q (.fld 1 none) [3]
(q (.mx) [2, .k (.int .i64 0)]
(q (.bin .shr) [11, 12]
(q (.bin .eql) [13, .k (.int .u64 0)]
(.ret [14])))))))))))))))
def H113 : List (Nat × Nat) := [(18, 5), (11, 5), (7, 5), (3, 5)]
def T114 : T :=
(.p .box [0] none
(.p .box [1] none
(q (.fld 0 none) [2]
(q (.fld 0 none) [3]
(q (.bin .geq) [4, 5]
(qt (.fld 1 none) [2] 6
(qt (.fld 1 none) [3] 6
(qt (.bin .and) [7, 8] 6
(qt (.fld 1 none) [3] 6
(qt (.bin .eql) [9, 10] 6
(q (.pick) [6, 11, .k (.bool false)]
(.ret [12]))))))))))))
def H114 : List (Nat × Nat) := [(16, 5), (13, 5), (11, 4), (7, 5), (5, 4), (3, 5), (2, 4)]
def T115 : T :=
(q (.bin .geq) [0, .k (.int .i64 0)]
(qt (.mv) [0] 1
(qt (.bin .lss) [2, .k (.int .i64 256)] 1
(q (.pick) [1, 3, .k (.bool false)]
(.ret [4])))))
def H115 : List (Nat × Nat) := []
def T116 : T :=
(.p .box [0] none
(q (.call 146) [1, 2]
(q (.un .not) [4]
(.ite (.v 5) (.ret [.k (.int .i64 2)])
(q (.fld 0 (some 4)) [3]
(q (.lenSl) [1]
(q (.lenSl) [2]
(q (.call 74) [6, 7, 8]
(q (.un .not) [9]
(.ite (.v 10) (.ret [.k (.int .i64 18)])
(.ret [.k (.int .i64 0)])))))))))))
def H116 : List (Nat × Nat) := [(3, 5)]
def T117 : T :=
(.p .box [0] none
(q (.fld 1 none) [3]
(q (.call 147) [4]
(q (.lenSl) [5]
(.loop 0 [.k (.int .i64 0), .k .nils] (q (.bin .lss) [7, 6]
(.ite (.v 9) (q (.idxS 2) [5, 7]
(q (.ldE (some 2)) [10]
(.p (.wr 0 2) [.k (.agg [(.int .i64 0), (.int .i64 0)]), 11] none
(q (.fld 0 none) [12]
(q (.fld 1 none) [12]
(q (.bin .eql) [13, 14]
(.ite (.v 15) (q (.fld 0 none) [12]
(q (.idxS 1) [2, 16]
(q (.ldE none) [17]
(q (.bslice false 1) [18]
(.s (.app false 1) [8, 19] none
(q (.bin .add) [7, .k (.int .i64 1)]
(.next 0 [21, 20])))))))
(q (.fld 0 none) [12]
(q (.idxS 1) [2, 16]
(q (.ldE none) [17]
(q (.bin .add) [18, .k (.str [46])]
(q (.fld 1 none) [12]
(q (.idxS 1) [2, 20]
(q (.ldE none) [21]
(q (.bin .add) [19, 22]
(q (.bslice false 1) [23]
(.s (.app false 1) [8, 24] none
(q (.bin .add) [7, .k (.int .i64 1)]
(.next 0 [26, 25])))))))))))))))))))
(q (.lenSl) [8]
(q (.bin .eql) [10, .k (.int .i64 0)]
(.ite (.v 11) (q (.fld 0 none) [3]
(q (.idxS 1) [1, 12]
(q (.ldE none) [13]
(.ret [14]))))
(q (.fld 0 none) [3]
(q (.idxS 1) [1, 12]
(q (.ldE none) [13]
(q (.bin .add) [14, .k (.str [58])]
(q (.call 148) [8, .k (.str [44])]
(q (.bin .add) [15, 16]
(.ret [17])))))))))))))))))
def H117 : List (Nat × Nat) := [(58, 1), (56, 5), (53, 1), (51, 5), (41, 1), (39, 11), (35, 1), (33, 11), (27, 1), (25, 11), (20, 11), (18, 11), (9, 11), (16, 1), (10, 5), (3, 5)]
def T118 : T :=
(q (.call 149) [0]
(.ret [1]))
def H118 : List (Nat × Nat) := []
def T119 : T :=
(.loop 0 [.k (.int .i64 0), .k (.bool false)] (q (.lenSl) [1]
(q (.bin .lss) [2, 4]
(.ite (.v 5) (q (.idxS 1) [1, 2]
(q (.ldE none) [6]
(q (.bin .eql) [7, 0]
(.ite (.v 8) (.ret [.k (.bool true)])
(q (.bin .add) [2, .k (.int .i64 1)]
(.next 0 [9, 3]))))))
(.ret [.k (.bool false)])))))
def H119 : List (Nat × Nat) := [(14, 1)]
def T120 : T :=
(.s (.box) [0] none
(q (.bin .geq) [1, .k (.int .i64 0)]
(qt (.mv) [1] 3
(qt (.bin .lss) [4, .k (.int .i64 256)] 3
(q (.pick) [3, 5, .k (.bool false)]
(.ite (.v 6) (q (.bin .quo) [1, .k (.int .i64 64)]
(q (.bin .quo) [1, .k (.int .i64 64)]
(q (.idxA 4 1) [2, 8]
(.s (.ld none) [9] none
(q (.call 131) [1]
(q (.bin .or) [10, 11]
(q (.idxA 4 1) [2, 7]
(.s (.st 1) [13, 12] none
(.s (.ld (some 4)) [2] none
(.p (.wr 0 4) [.k (.agg [(.int .u64 0), (.int .u64 0), (.int .u64 0), (.int .u64 0)]), 15] none
(q (.fld 0 (some 4)) [16]
(.ret [17]))))))))))))
(.s (.ld (some 4)) [2] none
(.p (.wr 0 4) [.k (.agg [(.int .u64 0), (.int .u64 0), (.int .u64 0), (.int .u64 0)]), 7] none
(q (.fld 0 (some 4)) [8]
(.ret [9]))))))))))
def H120 : List (Nat × Nat) := [(4, 6)]
def T121 : T :=
(.s (.box) [0] none
(.s (.box) [1] none
(.loop 0 [.k (.int .i64 0)] (q (.bin .lss) [4, .k (.int .i64 4)]
(.ite (.v 5) (q (.idxA 4 1) [2, 4]
(.s (.ld none) [6] none
(q (.idxA 4 1) [3, 4]
(.s (.ld none) [8] none
(q (.bin .andNot) [7, 9]
(q (.idxA 4 1) [2, 4]
(.s (.st 1) [11, 10] none
(q (.bin .add) [4, .k (.int .i64 1)]
(.next 0 [13])))))))))
(.s (.ld (some 4)) [2] none
(.p (.wr 0 4) [.k (.agg [(.int .u64 0), (.int .u64 0), (.int .u64 0), (.int .u64 0)]), 6] none
(q (.fld 0 (some 4)) [7]
(.ret [8])))))))))
def H121 : List (Nat × Nat) := [(4, 6)]
def T122 : T :=
(.s (.box) [0] none
(q (.bin .geq) [1, .k (.int .i64 0)]
(qt (.mv) [1] 3
(qt (.bin .lss) [4, .k (.int .i64 256)] 3
(q (.pick) [3, 5, .k (.bool false)]
(.ite (.v 6) (q (.bin .quo) [1, .k (.int .i64 64)]
(q (.bin .quo) [1, .k (.int .i64 64)]
(q (.idxA 4 1) [2, 8]
(.s (.ld none) [9] none
(q (.call 131) [1]
(q (.bin .andNot) [10, 11]
(q (.idxA 4 1) [2, 7]
(.s (.st 1) [13, 12] none
(.s (.ld (some 4)) [2] none
(.p (.wr 0 4) [.k (.agg [(.int .u64 0), (.int .u64 0), (.int .u64 0), (.int .u64 0)]), 15] none
(q (.fld 0 (some 4)) [16]
(.ret [17]))))))))))))
(.s (.ld (some 4)) [2] none
(.p (.wr 0 4) [.k (.agg [(.int .u64 0), (.int .u64 0), (.int .u64 0), (.int .u64 0)]), 7] none
(q (.fld 0 (some 4)) [8]
(.ret [9]))))))))))
def H122 : List (Nat × Nat) := [(4, 6)]
def T123 : T :=
(.p .box [0] none
(.p .box [1] none
(q (.fld 0 none) [3]
(q (.bin .eql) [4, .k (.int .i64 8)]
(qf (.fld 0 none) [3] 5
(qf (.bin .eql) [6, .k (.int .i64 9)] 5
(q (.pick) [5, .k (.bool true), 7]
(qf (.fld 0 none) [3] 8
(qf (.call 150) [9] 8
(qf (.fld 9 none) [3] 8
(qf (.lenSl) [11] 8
(qf (.bin .neq) [10, 12] 8
(q (.pick) [8, .k (.bool true), 13]
(qf (.fld 2 none) [3] 14
(qf (.bin .neq) [15, .k (.int .i64 0)] 14
(q (.pick) [14, .k (.bool true), 16]
(qf (.fld 3 none) [3] 17
(qf (.bin .neq) [18, .k (.int .i64 0)] 17
(q (.pick) [17, .k (.bool true), 19]
(qf (.fld 4 none) [3] 20
(qf (.lenSl) [21] 20
(qf (.bin .gtr) [22, .k (.int .i64 0)] 20
(q (.pick) [20, .k (.bool true), 23]
(qf (.fld 5 (some 4)) [3] 24
(qf (.build [(.int .u64 0), (.int .u64 0), (.int .u64 0), (.int .u64 0)] []) [] 24
(qf (.eqa true [.i .u64, .i .u64, .i .u64, .i .u64]) [25, 26] 24
(q (.pick) [24, .k (.bool true), 27]
(qf (.fld 0 none) [3] 28
(qf (.bin .neq) [29, .k (.int .i64 1)] 28
(qf (.mv) [30] 28
(qt (.fld 1 none) [3] 31
(qt (.bin .neq) [32, .k (.int .i64 0)] 31
(qf (.pick) [31, 33, .k (.bool false)] 28
(q (.pick) [28, .k (.bool true), 34]
(.ite (.v 35) (.ret [.k (.int .i64 2)])
(q (.fld 0 none) [3]
(q (.bin .eql) [36, .k (.int .i64 1)]
(qt (.fld 1 none) [3] 37
(qt (.fld 5 none) [2] 37
(qt (.lenSl) [39] 37
(qt (.call 92) [38, 40] 37
(qt (.un .not) [41] 37
(q (.pick) [37, 42, .k (.bool false)]
(.ite (.v 43) (.ret [.k (.int .i64 3)])
(.loop 0 [.k (.int .i64 0), .k (.int .i64 0)] (q (.fld 9 none) [3]
(q (.lenSl) [46]
(q (.bin .lss) [44, 47]
(.ite (.v 48) (q (.fld 0 (some 17)) [2]
(q (.fld 9 none) [3]
(q (.idxS 10) [50, 44]
(q (.ldE (some 10)) [51]
(q (.call 123) [49, 52]
(q (.bin .neq) [53, .k (.int .i64 0)]
(.ite (.v 54) (.ret [53])
(q (.bin .add) [44, .k (.int .i64 1)]
(.next 0 [55, 45])))))))))
(.ret [.k (.int .i64 0)]))))))))))))))))))))))))))))))))))))))))))))))))))
def H123 : List (Nat × Nat) := [(79, 1), (76, 5), (69, 5), (62, 4), (60, 5), (56, 5), (51, 5), (47, 5), (41, 5), (35, 5), (30, 5), (25, 5), (19, 5), (16, 5), (11, 5), (7, 5), (3, 5), (2, 4)]
def T124 : T :=
(.p .box [0] none
(.p .box [1] none
(q (.fld 0 (some 10)) [4]
(q (.call 151) [5]
(q (.un .not) [6]
(.ite (.v 7) (.ret [.k (.int .i64 2)])
(q (.fld 0 none) [4]
(q (.bin .eql) [8, .k (.int .i64 8)]
(.ite (.v 9) (q (.fld 0 (some 10)) [4]
(q (.call 152) [10, 2]
(.ret [11])))
(q (.fld 0 none) [4]
(q (.bin .eql) [10, .k (.int .i64 9)]
(.join 0 1 (.ite (.v 11) (q (.fld 1 none) [4]
(q (.call 92) [12, 2]
(q (.un .not) [13]
(.ite (.v 14) (.ret [.k (.int .i64 3)])
(q (.fld 0 (some 17)) [3]
(q (.fld 1 none) [4]
(q (.call 153) [15, 16]
(q (.bin .lss) [17, .k (.int .i64 0)]
(.ite (.v 18) (.ret [.k (.int .i64 13)])
(q (.fld 5 (some 4)) [4]
(q (.call 82) [19, 17]
(q (.ext 0) [20]
(q (.ext 1) [20]
(q (.un .not) [22]
(.ite (.v 23) (.ret [.k (.int .i64 3)])
(q (.un .not) [21]
(.ite (.v 24) (.ret [.k (.int .i64 2)])
(.next 0 [.k (.int .i64 0)]))))))))))))))))))
(.next 0 [.k (.int .i64 0)]))
(.loop 0 [.k (.int .i64 0), 12] (q (.fld 9 none) [4]
(q (.lenSl) [15]
(q (.bin .lss) [13, 16]
(.ite (.v 17) (q (.fld 0 (some 17)) [3]
(q (.fld 9 none) [4]
(q (.idxS 10) [19, 13]
(q (.ldE (some 10)) [20]
(q (.call 124) [18, 21, 2]
(q (.bin .neq) [22, .k (.int .i64 0)]
(.ite (.v 23) (.ret [22])
(q (.bin .add) [13, .k (.int .i64 1)]
(.next 0 [24, 14])))))))))
(.ret [.k (.int .i64 0)]))))))))))))))))))
def H124 : List (Nat × Nat) := [(57, 1), (54, 6), (47, 6), (36, 6), (30, 6), (24, 6), (21, 6), (15, 6), (4, 6), (3, 5)]
def T125 : T :=
(.loop 0 [.k (.int .i64 0), .k (.bool false)] (q (.lenStr) [0]
(q (.bin .lss) [1, 3]
(.ite (.v 4) (q (.idxStr) [0, 1]
(q (.call 154) [5]
(q (.un .not) [6]
(qt (.mv) [1] 7
(qt (.bin .eql) [8, .k (.int .i64 0)] 7
(qt (.mv) [9] 7
(qf (.mv) [0] 10
(qf (.mv) [1] 10
(qf (.idxStr) [11, 12] 10
(qf (.call 155) [13] 10
(qf (.un .not) [14] 10
(qt (.pick) [10, .k (.bool true), 15] 7
(q (.pick) [7, 16, .k (.bool false)]
(.ite (.v 17) (.ret [.k (.bool false)])
(q (.bin .add) [1, .k (.int .i64 1)]
(.next 0 [18, 2]))))))))))))))))
(q (.lenStr) [0]
(q (.bin .geq) [5, .k (.int .i64 1)]
(qt (.mv) [0] 6
(qt (.lenStr) [7] 6
(qt (.bin .leq) [8, .k (.int .i64 32)] 6
(q (.pick) [6, 9, .k (.bool false)]
(.ret [10])))))))))))
def H125 : List (Nat × Nat) := []
def T126 : T :=
(.loop 0 [.k (.int .i64 0), .k (.bool false)] (q (.lenStr) [0]
(q (.bin .lss) [1, 3]
(.ite (.v 4) (q (.idxStr) [0, 1]
(q (.call 155) [5]
(q (.un .not) [6]
(.ite (.v 7) (.ret [.k (.bool false)])
(q (.bin .add) [1, .k (.int .i64 1)]
(.next 0 [8, 2]))))))
(q (.lenStr) [0]
(q (.bin .geq) [5, .k (.int .i64 1)]
(qt (.mv) [0] 6
(qt (.lenStr) [7] 6
(qt (.bin .leq) [8, .k (.int .i64 9)] 6
(q (.pick) [6, 9, .k (.bool false)]
(qt (.mv) [0] 10
(qt (.lenStr) [11] 10
(qt (.bin .eql) [12, .k (.int .i64 1)] 10
(qt (.mv) [13] 10
(qf (.mv) [0] 14
(qf (.idxStr) [15, .k (.int .i64 0)] 14
(qf (.bin .neq) [16, .k (.int .u8 48)] 14
(qt (.pick) [14, .k (.bool true), 17] 10
(q (.pick) [10, 18, .k (.bool false)]
(.ret [19]))))))))))))))))))))
def H126 : List (Nat × Nat) := []
def T127 : T :=
(.loop 0 [.k (.int .i64 0), .k (.bool false)] (q (.lenStr) [0]
(q (.bin .lss) [1, 3]
(.ite (.v 4) (q (.idxStr) [0, 1]
(q (.bin .lss) [5, .k (.int .u8 32)]
(qf (.mv) [0] 6
(qf (.mv) [1] 6
(qf (.idxStr) [7, 8] 6
(qf (.bin .gtr) [9, .k (.int .u8 126)] 6
(q (.pick) [6, .k (.bool true), 10]
(qf (.mv) [0] 11
(qf (.mv) [1] 11
(qf (.idxStr) [12, 13] 11
(qf (.bin .eql) [14, .k (.int .u8 34)] 11
(q (.pick) [11, .k (.bool true), 15]
(.ite (.v 16) (.ret [.k (.bool false)])
(q (.bin .add) [1, .k (.int .i64 1)]
(.next 0 [17, 2])))))))))))))))
(q (.lenStr) [0]
(q (.bin .leq) [5, .k (.int .i64 256)]
(.ret [6])))))))
def H127 : List (Nat × Nat) := []
def T128 : T :=
(.loop 0 [.k (.int .i64 0), .k (.int .i64 0), .k (.bool false)] (q (.lenStr) [1]
(q (.bin .lss) [2, 5]
(.ite (.v 6) (q (.idxStr) [1, 2]
(q (.bin .neq) [7, .k (.int .u8 32)]
(.ite (.v 8) (q (.bin .add) [2, .k (.int .i64 1)]
(.next 0 [9, 3, 4]))
(q (.slcS true true) [1, 3, 2]
(q (.bin .eql) [9, 0]
(qt (.mv) [0] 10
(qt (.bin .neq) [11, .k (.str [])] 10
(q (.pick) [10, 12, .k (.bool false)]
(.ite (.v 13) (.ret [.k (.bool true)])
(q (.bin .add) [2, .k (.int .i64 1)]
(q (.bin .add) [2, .k (.int .i64 1)]
(.next 0 [15, 14, 4]))))))))))))
(.ret [.k (.bool false)])))))
def H128 : List (Nat × Nat) := []
def T129 : T :=
(.p .box [0] none
(.loop 0 [.k (.int .i64 0), .k (.bool false)] (q (.bin .lss) [4, .k (.int .i64 64)]
(.ite (.v 6) (q (.fld 0 (some 2)) [3]
(q (.call 156) [7, 4]
(qt (.mv) [4] 8
(qt (.mv) [2] 8
(qt (.bin .geq) [9, 10] 8
(q (.pick) [8, 11, .k (.bool false)]
(.ite (.v 12) (.ret [.k (.bool false)])
(q (.bin .add) [4, .k (.int .i64 1)]
(.next 0 [13, 5])))))))))
(q (.fld 0 none) [3]
(q (.bin .geq) [7, .k (.int .i64 0)]
(qt (.fld 0 none) [3] 8
(qt (.mv) [1] 8
(qt (.bin .lss) [9, 10] 8
(q (.pick) [8, 11, .k (.bool false)]
(.ret [12])))))))))))
def H129 : List (Nat × Nat) := [(24, 5), (20, 5), (3, 5)]
def T130 : T :=
(.p .box [0] none
(.p .box [1] none
(.loop 0 [.k (.int .i64 0), .k (.bool false)] (q (.bin .lss) [4, .k (.int .i64 64)]
(.ite (.v 6) (q (.fld 0 (some 2)) [3]
(q (.call 156) [7, 4]
(qt (.fld 0 (some 2)) [2] 8
(qt (.mv) [4] 8
(qt (.call 156) [9, 10] 8
(qt (.un .not) [11] 8
(q (.pick) [8, 12, .k (.bool false)]
(.ite (.v 13) (.ret [.k (.bool false)])
(q (.bin .add) [4, .k (.int .i64 1)]
(.next 0 [14, 5]))))))))))
(q (.fld 0 none) [2]
(q (.fld 0 none) [3]
(q (.bin .geq) [7, 8]
(.ret [9])))))))))
def H130 : List (Nat × Nat) := [(21, 5), (19, 4), (3, 5), (2, 4)]
def T131 : T :=
(q (.bin .rem) [0, .k (.int .i64 64)]
(q (.bin .shl) [.k (.int .u64 1), 1]
(.ret [2])))
def H131 : List (Nat × Nat) := []
def T132 : T :=
(.p .box [0] none
(q (.call 157) [1, 2]
(q (.un .not) [4]
(.ite (.v 5) (q (.build [(.str []), .nils, (.str []), .nils] []) []
(.p (.wr 0 4) [.k (.agg [(.str []), .nils, (.str []), .nils]), 6] none
(q (.fld 0 (some 4)) [7]
(.ret [8, .k (.int .i64 2)]))))
(q (.fld 0 (some 4)) [3]
(q (.lenSl) [1]
(q (.lenSl) [2]
(q (.call 102) [6, 7, 8]
(q (.un .not) [9]
(.ite (.v 10) (q (.build [(.str []), .nils, (.str []), .nils] []) []
(.p (.wr 0 4) [.k (.agg [(.str []), .nils, (.str []), .nils]), 11] none
(q (.fld 0 (some 4)) [12]
(.ret [13, .k (.int .i64 18)]))))
(q (.fld 0 none) [3]
(q (.idxS 1) [1, 11]
(q (.ldE none) [12]
(q (.fld 0 (some 2)) [3]
(q (.call 158) [14, 2]
(q (.build [(.str []), .nils] [(0, 1), (1, 1)]) [13, 15]
(q (.build [(.str []), .nils, (.str []), .nils] [(0, 2)]) [16]
(.p (.wr 0 4) [.k (.agg [(.str []), .nils, (.str []), .nils]), 17] none
(q (.fld 2 (some 2)) [3]
(q (.fld 0 (some 2)) [3]
(q (.eqa true [.i .i64, .i .u64]) [19, 20]
(.ite (.v 21) (q (.fld 2 none) [3]
(q (.idxS 1) [1, 22]
(q (.ldE none) [23]
(q (.fld 2 (some 2)) [3]
(q (.call 158) [25, 2]
(q (.build [(.str []), .nils] [(0, 1), (1, 1)]) [24, 26]
(.p (.wr 2 2) [18, 27] none
(q (.fld 0 (some 4)) [28]
(.p (.wr 0 4) [.k (.agg [(.str []), .nils, (.str []), .nils]), 29] none
(q (.fld 0 (some 4)) [30]
(.ret [31, .k (.int .i64 0)])))))))))))
(q (.fld 0 (some 4)) [18]
(.p (.wr 0 4) [.k (.agg [(.str []), .nils, (.str []), .nils]), 22] none
(q (.fld 0 (some 4)) [23]
(.ret [24, .k (.int .i64 0)]))))))))))))))))))))))))))
def H132 : List (Nat × Nat) := [(50, 10), (45, 5), (43, 1), (41, 5), (40, 5), (36, 5), (34, 5), (8, 10), (28, 5), (26, 1), (24, 5), (23, 5), (6, 8), (3, 5)]
def T133 : T :=
(.p .box [0] none
(q (.fld 0 none) [1]
(.loop 0 [.k (.int .i64 0), 2] (q (.fld 1 none) [1]
(q (.lenSl) [5]
(q (.bin .lss) [3, 6]
(.ite (.v 7) (q (.bin .eql) [3, .k (.int .i64 0)]
(.join 1 1 (.ite (.v 8) (q (.bin .add) [4, .k (.str [58])]
(.next 1 [9]))
(q (.bin .add) [4, .k (.str [44])]
(.next 1 [9])))
(q (.fld 1 none) [1]
(q (.idxS 2) [10, 3]
(q (.off 0) [11]
(q (.ldE none) [12]
(q (.bin .add) [9, 13]
(q (.fld 1 none) [1]
(q (.idxS 2) [15, 3]
(q (.off 1) [16]
(q (.ldE none) [17]
(q (.bin .neq) [18, .k (.str [])]
(.ite (.v 19) (q (.bin .add) [14, .k (.str [46])]
(q (.fld 1 none) [1]
(q (.idxS 2) [21, 3]
(q (.off 1) [22]
(q (.ldE none) [23]
(q (.bin .add) [20, 24]
(q (.bin .add) [3, .k (.int .i64 1)]
(.next 0 [26, 25]))))))))
(q (.bin .add) [3, .k (.int .i64 1)]
(.next 0 [20, 14])))))))))))))))
(.ret [4]))))))))
def H133 : List (Nat × Nat) := [(41, 1), (40, 1), (37, 3), (32, 1), (31, 1), (28, 3), (25, 1), (24, 1), (21, 3), (8, 3), (5, 3), (1, 3)]
def T134 : T :=
(q (.lenSl) [0]
(.loop 0 [.k (.int .i64 0), .k (.int .i64 0)] (q (.bin .lss) [3, 2]
(.ite (.v 5) (q (.idxS 11) [0, 3]
(q (.ldE (some 11)) [6]
(.s (.callV) [1, 7] none
(.ite (.v 8) (.ret [3])
(q (.bin .add) [3, .k (.int .i64 1)]
(.next 0 [9, 4]))))))
(.ret [.k (.int .i64 (-1))])))))
def H134 : List (Nat × Nat) := [(14, 1)]
def T135 : T :=
(.p .box [0] none
(q (.fld 0 none) [2]
(.s (.ld none) [1] none
(q (.bin .eql) [3, 4]
(.ret [5])))))
def H135 : List (Nat × Nat) := [(4, 4), (2, 4)]
def T136 : T :=
(q (.lenSl) [0]
(.loop 0 [.k (.int .i64 0), .k (.int .i64 0)] (q (.bin .lss) [3, 2]
(.ite (.v 5) (q (.idxS 9) [0, 3]
(q (.ldE (some 9)) [6]
(.s (.callV) [1, 7] none
(.ite (.v 8) (.ret [3])
(q (.bin .add) [3, .k (.int .i64 1)]
(.next 0 [9, 4]))))))
(.ret [.k (.int .i64 (-1))])))))
def H136 : List (Nat × Nat) := [(14, 1)]
def T137 : T :=
(.p .box [0] none
(q (.fld 0 none) [2]
(.s (.ld none) [1] none
(q (.bin .eql) [3, 4]
(.ret [5])))))
def H137 : List (Nat × Nat) := [(4, 4), (2, 4)]
def T138 : T :=
(q (.lenSl) [0]
(.loop 0 [.k (.int .i64 0), .k (.int .i64 0)] (q (.bin .lss) [3, 2]
(.ite (.v 5) (q (.idxS 3) [0, 3]
(q (.ldE (some 3)) [6]
(.s (.callV) [1, 7] none
(.ite (.v 8) (.ret [3])
(q (.bin .add) [3, .k (.int .i64 1)]
(.next 0 [9, 4]))))))
(.ret [.k (.int .i64 (-1))])))))
def H138 : List (Nat × Nat) := [(14, 1)]
def T139 : T :=
(.p .box [0] none
(q (.fld 0 none) [2]
(.s (.ld none) [1] none
(q (.bin .eql) [3, 4]
(qf (.fld 1 none) [2] 5
(.s (.ld none) [1] (some (5, false))
(qf (.call 140) [6, 7] 5
(q (.pick) [5, .k (.bool true), 8]
(.ret [9])))))))))
def H139 : List (Nat × Nat) := [(9, 4), (4, 4), (2, 4)]
def T140 : T :=
(q (.call 141) [0, 1]
(q (.bin .geq) [2, .k (.int .i64 0)]
(.ret [3])))
def H140 : List (Nat × Nat) := []
def T141 : T :=
(q (.lenSl) [0]
(.loop 0 [.k (.int .i64 0), .k (.int .i64 0)] (q (.bin .lss) [3, 2]
(.ite (.v 5) (q (.idxS 1) [0, 3]
(q (.ldE none) [6]
(q (.bin .eql) [1, 7]
(.ite (.v 8) (.ret [3])
(q (.bin .add) [3, .k (.int .i64 1)]
(.next 0 [9, 4]))))))
(.ret [.k (.int .i64 (-1))])))))
def H141 : List (Nat × Nat) := [(14, 1)]
def T142 : T :=
(.p .box [0] none
(.loop 0 [.k (.int .i64 0), .k (.bool false), .k (.int .i64 0)] (q (.fld 4 none) [2]
(q (.lenSl) [6]
(q (.bin .lss) [3, 7]
(.ite (.v 8) (q (.fld 4 none) [2]
(q (.idxS 11) [9, 3]
(q (.off 0) [10]
(q (.ldE none) [11]
(q (.bin .eql) [12, 1]
(.ite (.v 13) (.ret [3, .k (.bool true)])
(q (.bin .add) [3, .k (.int .i64 1)]
(.next 0 [14, 4, 5]))))))))
(.ret [.k (.int .i64 0), .k (.bool false)])))))))
def H142 : List (Nat × Nat) := [(18, 1), (17, 1), (14, 4), (8, 4), (2, 4)]
def T143 : T :=
(.p .box [0] none
(.loop 0 [.k (.int .i64 0), .k (.bool false), .k (.int .i64 0)] (q (.fld 3 none) [2]
(q (.lenSl) [6]
(q (.bin .lss) [3, 7]
(.ite (.v 8) (q (.fld 3 none) [2]
(q (.idxS 9) [9, 3]
(q (.off 0) [10]
(q (.ldE none) [11]
(q (.bin .eql) [12, 1]
(.ite (.v 13) (.ret [3, .k (.bool true)])
(q (.bin .add) [3, .k (.int .i64 1)]
(.next 0 [14, 4, 5]))))))))
(.ret [.k (.int .i64 0), .k (.bool false)])))))))
def H143 : List (Nat × Nat) := [(18, 1), (17, 1), (14, 4), (8, 4), (2, 4)]
def T144 : T :=
(.p .box [1] none
(.loop 0 [.k (.int .i64 0), .k (.bool false), .k (.int .i64 0)] (q (.fld 0 none) [2]
(q (.lenSl) [6]
(q (.bin .lss) [3, 7]
(.ite (.v 8) (q (.fld 0 none) [2]
(q (.idxS 3) [9, 3]
(q (.off 0) [10]
(q (.ldE none) [11]
(q (.bin .eql) [12, 0]
(qf (.fld 0 none) [2] 13
(qf (.mv) [3] 13
(qf (.idxS 3) [14, 15] 13
(qf (.off 1) [16] 13
(qf (.ldE none) [17] 13
(qf (.mv) [0] 13
(qf (.call 159) [18, 19] 13
(qf (.bin .geq) [20, .k (.int .i64 0)] 13
(q (.pick) [13, .k (.bool true), 21]
(.ite (.v 22) (.ret [3, .k (.bool true)])
(q (.bin .add) [3, .k (.int .i64 1)]
(.next 0 [23, 4, 5])))))))))))))))))
(.ret [.k (.int .i64 0), .k (.bool false)])))))))
def H144 : List (Nat × Nat) := [(27, 1), (26, 1), (23, 5), (18, 1), (17, 1), (14, 5), (8, 5), (3, 5)]
def T145 : T :=
(.loop 0 [.k (.int .i64 0), .k (.bool false), .k (.int .i64 0)] (q (.lenSl) [0]
(q (.bin .lss) [2, 5]
(.ite (.v 6) (q (.idxS 1) [0, 2]
(q (.ldE none) [7]
(q (.bin .eql) [8, 1]
(.ite (.v 9) (.ret [2, .k (.bool true)])
(q (.bin .add) [2, .k (.int .i64 1)]
(.next 0 [10, 3, 4]))))))
(.ret [.k (.int .i64 0), .k (.bool false)])))))
def H145 : List (Nat × Nat) := [(15, 1)]
def T146 : T :=
(q (.call 160) [0, .k (.int .i64 16)]
(qt (.mv) [1] 2
(qt (.call 160) [3, .k (.int .i64 64)] 2
(q (.pick) [2, 4, .k (.bool false)]
(.ret [5])))))
def H146 : List (Nat × Nat) := []
def T147 : T :=
(.loop 0 [.k (.int .i64 0), .k .nils] (q (.bin .lss) [1, .k (.int .i64 64)]
(.ite (.v 3) (q (.bin .shr) [0, 1]
(q (.bin .and) [4, .k (.int .u64 1)]
(q (.bin .eql) [5, .k (.int .u64 0)]
(.ite (.v 6) (q (.bin .add) [1, .k (.int .i64 1)]
(.next 0 [7, 2]))
(q (.build [(.int .i64 0), (.int .i64 0)] [(0, 1), (1, 1)]) [1, 1]
(.p (.wr 0 2) [.k (.agg [(.int .i64 0), (.int .i64 0)]), 7] none
(.loop 1 [8] (q (.fld 1 none) [9]
(q (.bin .add) [10, .k (.int .i64 1)]
(q (.bin .lss) [11, .k (.int .i64 64)]
(qt (.mv) [0] 12
(qt (.fld 1 none) [9] 12
(qt (.bin .add) [14, .k (.int .i64 1)] 12
(qt (.bin .shr) [13, 15] 12
(qt (.bin .and) [16, .k (.int .u64 1)] 12
(qt (.bin .eql) [17, .k (.int .u64 1)] 12
(q (.pick) [12, 18, .k (.bool false)]
(.ite (.v 19) (q (.fld 1 none) [9]
(q (.bin .add) [20, .k (.int .i64 1)]
(.p (.wr 1 1) [9, 21] none
(.next 1 [22]))))
(q (.fld 0 (some 2)) [9]
(q (.bslice false 2) [20]
(.s (.app false 2) [2, 21] none
(q (.fld 1 none) [9]
(q (.bin .add) [23, .k (.int .i64 1)]
(.next 0 [24, 22]))))))))))))))))))))))))
(.ret [2]))))
def H147 : List (Nat × Nat) := [(39, 7), (34, 7), (31, 7), (24, 7), (18, 7), (5, 7)]
def T149 : T :=
(q (.call 125) [0]
(qt (.mv) [0] 1
(qt (.call 164) [2] 1
(qt (.un .not) [3] 1
(q (.pick) [1, 4, .k (.bool false)]
(.ret [5]))))))
def H149 : List (Nat × Nat) := []
def T150 : T :=
(q (.bin .eql) [0, .k (.int .i64 1)]
(.join 0 1 (.ite (.v 1) (.next 0 [1])
(q (.bin .eql) [0, .k (.int .i64 8)]
(.ite (.v 2) (.next 0 [2])
(q (.bin .eql) [0, .k (.int .i64 9)]
(.next 0 [3])))))
(.ite (.v 2) (.ret [.k (.int .i64 0)])
(q (.bin .eql) [0, .k (.int .i64 2)]
(.ite (.v 3) (.ret [.k (.int .i64 1)])
(q (.bin .eql) [0, .k (.int .i64 3)]
(.ite (.v 4) (.ite (.v 4) (.ret [.k (.int .i64 2)])
(.ret [.k (.int .i64 (-1))]))
(q (.bin .eql) [0, .k (.int .i64 4)]
(.ite (.v 5) (.ite (.v 5) (.ret [.k (.int .i64 2)])
(.ret [.k (.int .i64 (-1))]))
(q (.bin .eql) [0, .k (.int .i64 5)]
(.ite (.v 6) (.ite (.v 6) (.ret [.k (.int .i64 2)])
(.ret [.k (.int .i64 (-1))]))
(q (.bin .eql) [0, .k (.int .i64 6)]
(.ite (.v 7) (.ite (.v 7) (.ret [.k (.int .i64 2)])
(.ret [.k (.int .i64 (-1))]))
(q (.bin .eql) [0, .k (.int .i64 7)]
(.ite (.v 8) (.ret [.k (.int .i64 2)])
(.ret [.k (.int .i64 (-1))]))))))))))))))))
def H150 : List (Nat × Nat) := []
def T151 : T :=
(.p .box [0] none
(q (.fld 0 none) [1]
(q (.bin .eql) [2, .k (.int .i64 2)]
(.join 0 1 (.ite (.v 3) (.next 0 [3])
(q (.bin .eql) [2, .k (.int .i64 3)]
(.ite (.v 4) (.next 0 [4])
(q (.bin .eql) [2, .k (.int .i64 4)]
(.next 0 [5])))))
(.ite (.v 4) (q (.fld 9 none) [1]
(q (.lenSl) [5]
(q (.fld 0 none) [1]
(q (.call 150) [7]
(q (.bin .eql) [6, 8]
(qt (.fld 1 none) [1] 9
(qt (.bin .eql) [10, .k (.int .i64 0)] 9
(q (.pick) [9, 11, .k (.bool false)]
(qt (.fld 2 none) [1] 12
(qt (.bin .eql) [13, .k (.int .i64 0)] 12
(q (.pick) [12, 14, .k (.bool false)]
(qt (.fld 3 none) [1] 15
(qt (.bin .eql) [16, .k (.int .i64 0)] 15
(q (.pick) [15, 17, .k (.bool false)]
(qt (.fld 4 none) [1] 18
(qt (.lenSl) [19] 18
(qt (.bin .eql) [20, .k (.int .i64 0)] 18
(q (.pick) [18, 21, .k (.bool false)]
(qt (.fld 5 (some 4)) [1] 22
(qt (.build [(.int .u64 0), (.int .u64 0), (.int .u64 0), (.int .u64 0)] []) [] 22
(qt (.eqa false [.i .u64, .i .u64, .i .u64, .i .u64]) [23, 24] 22
(q (.pick) [22, 25, .k (.bool false)]
(.ret [26])))))))))))))))))))))))
(q (.bin .eql) [2, .k (.int .i64 8)]
(.ite (.v 5) (q (.fld 9 none) [1]
(q (.lenSl) [6]
(q (.bin .eql) [7, .k (.int .i64 0)]
(qt (.fld 4 none) [1] 8
(qt (.lenSl) [9] 8
(qt (.bin .eql) [10, .k (.int .i64 0)] 8
(q (.pick) [8, 11, .k (.bool false)]
(qt (.fld 5 (some 4)) [1] 12
(qt (.build [(.int .u64 0), (.int .u64 0), (.int .u64 0), (.int .u64 0)] []) [] 12
(qt (.eqa false [.i .u64, .i .u64, .i .u64, .i .u64]) [13, 14] 12
(q (.pick) [12, 15, .k (.bool false)]
(.ret [16]))))))))))))
(q (.bin .eql) [2, .k (.int .i64 9)]
(.ite (.v 6) (q (.fld 9 none) [1]
(q (.lenSl) [7]
(q (.bin .eql) [8, .k (.int .i64 0)]
(qt (.fld 2 none) [1] 9
(qt (.bin .eql) [10, .k (.int .i64 0)] 9
(q (.pick) [9, 11, .k (.bool false)]
(qt (.fld 3 none) [1] 12
(qt (.bin .eql) [13, .k (.int .i64 0)] 12
(q (.pick) [12, 14, .k (.bool false)]
(qt (.fld 4 none) [1] 15
(qt (.lenSl) [16] 15
(qt (.bin .eql) [17, .k (.int .i64 0)] 15
(q (.pick) [15, 18, .k (.bool false)]
(.ret [19]))))))))))))))
(.ret [.k (.bool false)]))))))))))
def H151 : List (Nat × Nat) := [(78, 3), (73, 3), (68, 3), (63, 3), (56, 3), (50, 3), (45, 3), (38, 3), (32, 3), (27, 3), (22, 3), (17, 3), (12, 3), (9, 3), (3, 3), (1, 3)]
def T152 : T :=
(.p .box [0] none
(q (.fld 1 none) [2]
(q (.call 92) [3, 1]
(q (.un .not) [4]
(qf (.fld 3 none) [2] 5
(qf (.mv) [1] 5
(qf (.call 92) [6, 7] 5
(qf (.un .not) [8] 5
(q (.pick) [5, .k (.bool true), 9]
(qf (.fld 2 none) [2] 10
(qf (.call 92) [11, .k (.int .i64 5)] 10
(qf (.un .not) [12] 10
(q (.pick) [10, .k (.bool true), 13]
(.ite (.v 14) (.ret [.k (.int .i64 3)])
(q (.fld 1 none) [2]
(q (.bin .rem) [15, .k (.int .i64 5)]
(q (.fld 3 none) [2]
(q (.bin .rem) [17, .k (.int .i64 5)]
(q (.bin .geq) [16, .k (.int .i64 3)]
(qt (.mv) [18] 19
(qt (.bin .geq) [20, .k (.int .i64 3)] 19
(q (.pick) [19, 21, .k (.bool false)]
(.ite (.v 22) (.ret [.k (.int .i64 0)])
(q (.bin .neq) [16, 18]
(qf (.fld 2 none) [2] 23
(qf (.bin .gtr) [24, .k (.int .i64 1)] 23
(q (.pick) [23, .k (.bool true), 25]
(.ite (.v 26) (.ret [.k (.int .i64 13)])
(.ret [.k (.int .i64 0)])))))))))))))))))))))))))))))
def H152 : List (Nat × Nat) := [(41, 4), (28, 4), (25, 4), (20, 4), (13, 4), (7, 4), (2, 4)]
def T153 : T :=
(.p .box [0] none
(q (.bin .rem) [1, .k (.int .i64 5)]
(q (.bin .eql) [3, .k (.int .i64 0)]
(.ite (.v 4) (q (.fld 4 none) [2]
(q (.lenSl) [5]
(.ret [6])))
(q (.bin .eql) [3, .k (.int .i64 1)]
(.ite (.v 5) (q (.fld 3 none) [2]
(q (.lenSl) [6]
(.ret [7])))
(q (.bin .eql) [3, .k (.int .i64 2)]
(.ite (.v 6) (q (.fld 1 none) [2]
(q (.lenSl) [7]
(.ret [8])))
(.ret [.k (.int .i64 (-1))])))))))))
def H153 : List (Nat × Nat) := [(19, 4), (14, 4), (9, 4), (2, 4)]
def T154 : T :=
(q (.bin .geq) [0, .k (.int .u8 65)]
(qt (.mv) [0] 1
(qt (.bin .leq) [2, .k (.int .u8 90)] 1
(q (.pick) [1, 3, .k (.bool false)]
(qf (.mv) [0] 4
(qf (.bin .geq) [5, .k (.int .u8 97)] 4
(qf (.mv) [6] 4
(qt (.mv) [0] 7
(qt (.bin .leq) [8, .k (.int .u8 122)] 7
(qf (.pick) [7, 9, .k (.bool false)] 4
(q (.pick) [4, .k (.bool true), 10]
(qf (.mv) [0] 11
(qf (.bin .eql) [12, .k (.int .u8 95)] 11
(q (.pick) [11, .k (.bool true), 13]
(.ret [14])))))))))))))))
def H154 : List (Nat × Nat) := []
def T155 : T :=
(q (.bin .geq) [0, .k (.int .u8 48)]
(qt (.mv) [0] 1
(qt (.bin .leq) [2, .k (.int .u8 57)] 1
(q (.pick) [1, 3, .k (.bool false)]
(.ret [4])))))
def H155 : List (Nat × Nat) := []
def T156 : T :=
(.p .box [0] none
(q (.bin .geq) [1, .k (.int .i64 0)]
(qt (.mv) [1] 3
(qt (.bin .lss) [4, .k (.int .i64 64)] 3
(q (.pick) [3, 5, .k (.bool false)]
(qt (.fld 1 none) [2] 6
(qt (.mv) [1] 6
(qt (.conv .u64) [8] 6
(qt (.bin .shr) [7, 9] 6
(qt (.bin .and) [10, .k (.int .u64 1)] 6
(qt (.bin .eql) [11, .k (.int .u64 1)] 6
(q (.pick) [6, 12, .k (.bool false)]
(.ret [13])))))))))))))
def H156 : List (Nat × Nat) := [(12, 4), (2, 4)]
def T157 : T :=
(q (.call 165) [0, .k (.int .i64 16)]
(qt (.mv) [1] 2
(qt (.call 165) [3, .k (.int .i64 64)] 2
(q (.pick) [2, 4, .k (.bool false)]
(.ret [5])))))
def H157 : List (Nat × Nat) := []
def T158 : T :=
(.p .box [0] none
(.loop 0 [.k (.int .i64 0), .k .nils] (q (.lenSl) [1]
(q (.bin .lss) [3, 5]
(.ite (.v 6) (q (.fld 0 (some 2)) [2]
(q (.call 156) [7, 3]
(q (.un .not) [8]
(.ite (.v 9) (q (.bin .add) [3, .k (.int .i64 1)]
(.next 0 [10, 4]))
(q (.idxS 1) [1, 3]
(q (.ldE none) [10]
(q (.build [(.str []), (.str [])] [(0, 1)]) [11]
(.p (.wr 0 2) [.k (.agg [(.str []), (.str [])]), 12] none
(.loop 1 [3, 13] (q (.fld 0 (some 2)) [2]
(q (.bin .add) [14, .k (.int .i64 1)]
(q (.call 156) [16, 17]
(.ite (.v 18) (q (.bin .add) [14, .k (.int .i64 1)]
(q (.idxS 1) [1, 19]
(q (.ldE none) [20]
(.p (.wr 1 1) [15, 21] none
(.next 1 [19, 22])))))
(q (.fld 0 (some 2)) [15]
(q (.bslice false 2) [19]
(.s (.app false 2) [4, 20] none
(q (.bin .add) [14, .k (.int .i64 1)]
(.next 0 [22, 21]))))))))))))))))))
(.ret [4]))))))
def H158 : List (Nat × Nat) := [(33, 9), (31, 1), (7, 9), (20, 1), (2, 4)]
def T159 : T :=
(.loop 0 [.k (.int .i64 0), .k (.int .i64 0)] (q (.lenSl) [0]
(q (.bin .lss) [2, 4]
(.ite (.v 5) (q (.idxS 1) [0, 2]
(q (.ldE none) [6]
(q (.bin .eql) [7, 1]
(.ite (.v 8) (.ret [2])
(q (.bin .add) [2, .k (.int .i64 1)]
(.next 0 [9, 3]))))))
(.ret [.k (.int .i64 (-1))])))))
def H159 : List (Nat × Nat) := [(14, 1)]
def T160 : T :=
(q (.lenSl) [0]
(q (.bin .gtr) [2, 1]
(.ite (.v 3) (.ret [.k (.bool false)])
(q (.lenSl) [0]
(.loop 0 [.k (.int .i64 0), .k (.bool false)] (q (.bin .lss) [5, 4]
(.ite (.v 7) (q (.idxS 1) [0, 5]
(q (.ldE none) [8]
(q (.lenStr) [9]
(q (.bin .gtr) [10, .k (.int .i64 32)]
(qf (.mv) [9] 11
(qf (.call 166) [12] 11
(qf (.un .not) [13] 11
(q (.pick) [11, .k (.bool true), 14]
(qf (.mv) [0] 15
(qf (.mv) [5] 15
(qf (.slcV 1 false true false) [16, 17] 15
(qf (.mv) [9] 15
(qf (.call 140) [18, 19] 15
(q (.pick) [15, .k (.bool true), 20]
(.ite (.v 21) (.ret [.k (.bool false)])
(q (.bin .add) [5, .k (.int .i64 1)]
(.next 0 [22, 6])))))))))))))))))
(.ret [.k (.bool true)]))))))))
def H160 : List (Nat × Nat) := [(16, 1)]
def T164 : T :=
(q (.call 128) [0, .k (.str [109, 111, 100, 117, 108, 101, 32, 99, 108, 97, 115, 115, 32, 116, 121, 112, 101, 32, 97, 108, 105, 97, 115, 32, 116, 121, 112, 101, 97, 116, 116, 114, 105, 98, 117, 116, 101, 32, 97, 116, 116, 114, 105, 98, 117, 116, 101, 32, 114, 111, 108, 101, 32, 116, 121, 112, 101, 115, 32, 114, 111, 108, 101, 97, 108, 108, 111, 119, 32, 114, 111, 108, 101, 95, 116, 114, 97, 110, 115, 105, 116, 105, 111, 110, 32, 117, 115, 101, 114, 32, 114, 111, 108, 101, 115, 32, 108, 101, 118, 101, 108, 32, 114, 97, 110, 103, 101, 32, 98, 111, 111, 108, 32, 116, 114, 117, 101, 32, 102, 97, 108, 115, 101, 32, 115, 101, 110, 115, 105, 116, 105, 118, 105, 116, 121, 32, 99, 97, 116, 101, 103, 111, 114, 121, 32, 97, 108, 108, 111, 119, 32, 97, 117, 100, 105, 116, 97, 108, 108, 111, 119, 32, 100, 111, 110, 116, 97, 117, 100, 105, 116, 32, 110, 101, 118, 101, 114, 97, 108, 108, 111, 119, 32, 116, 121, 112, 101, 95, 116, 114, 97, 110, 115, 105, 116, 105, 111, 110, 32, 116, 121, 112, 101, 95, 99, 104, 97, 110, 103, 101, 32, 116, 121, 112, 101, 95, 109, 101, 109, 98, 101, 114, 32, 114, 97, 110, 103, 101, 95, 116, 114, 97, 110, 115, 105, 116, 105, 111, 110, 32, 99, 111, 110, 115, 116, 114, 97, 105, 110, 32, 118, 97, 108, 105, 100, 97, 116, 101, 116, 114, 97, 110, 115, 32, 105, 102, 32, 101, 108, 115, 101, 32, 111, 112, 116, 105, 111, 110, 97, 108, 32, 114, 101, 113, 117, 105, 114, 101, 32, 115, 105, 100, 32, 102, 105, 108, 101, 99, 111, 110, 32, 112, 101, 114, 109, 105, 115, 115, 105, 118, 101, 32, 97, 115, 115, 101, 114, 116, 32, 115, 101, 108, 102, 32, 105, 110, 32])]
(.ret [1]))
def H164 : List (Nat × Nat) := []
def T165 : T :=
(q (.lenSl) [0]
(q (.bin .gtr) [2, 1]
(.ite (.v 3) (.ret [.k (.bool false)])
(.loop 0 [.k (.int .i64 0), .k (.bool false)] (q (.lenSl) [0]
(q (.bin .lss) [4, 6]
(.ite (.v 7) (q (.idxS 1) [0, 4]
(q (.ldE none) [8]
(q (.lenStr) [9]
(q (.bin .lss) [10, .k (.int .i64 1)]
(qf (.mv) [0] 11
(qf (.mv) [4] 11
(qf (.idxS 1) [12, 13] 11
(qf (.ldE none) [14] 11
(qf (.lenStr) [15] 11
(qf (.bin .gtr) [16, .k (.int .i64 32)] 11
(q (.pick) [11, .k (.bool true), 17]
(qf (.mv) [0] 18
(qf (.mv) [0] 18
(qf (.mv) [4] 18
(qf (.idxS 1) [20, 21] 18
(qf (.ldE none) [22] 18
(qf (.call 169) [19, 23] 18
(qf (.mv) [4] 18
(qf (.bin .lss) [24, 25] 18
(q (.pick) [18, .k (.bool true), 26]
(.ite (.v 27) (.ret [.k (.bool false)])
(.loop 1 [.k (.int .i64 0), 5] (q (.idxS 1) [0, 4]
(q (.ldE none) [30]
(q (.lenStr) [31]
(q (.bin .lss) [28, 32]
(.ite (.v 33) (q (.idxS 1) [0, 4]
(q (.ldE none) [34]
(q (.idxStr) [35, 28]
(q (.call 170) [36]
(q (.un .not) [37]
(.ite (.v 38) (.ret [.k (.bool false)])
(q (.bin .add) [28, .k (.int .i64 1)]
(.next 1 [39, 29]))))))))
(q (.bin .add) [4, .k (.int .i64 1)]
(.next 0 [34, 29])))))))))))))))))))))))))))))
(.ret [.k (.bool true)]))))))))
def H165 : List (Nat × Nat) := [(52, 1), (44, 1), (35, 1), (26, 1), (19, 1)]
def T166 : T :=
(q (.lenStr) [0]
(.loop 0 [.k (.int .i64 0), .k (.bool false)] (q (.bin .lss) [2, 1]
(.ite (.v 4) (q (.idxStr) [0, 2]
(q (.call 171) [5]
(q (.un .not) [6]
(.ite (.v 7) (.ret [.k (.bool false)])
(q (.bin .add) [2, .k (.int .i64 1)]
(.next 0 [8, 3]))))))
(q (.bin .neq) [0, .k (.str [])]
(.ret [5]))))))
def H166 : List (Nat × Nat) := []
def T169 : T :=
(.loop 0 [.k (.int .i64 0), .k (.int .i64 0)] (q (.lenSl) [0]
(q (.bin .lss) [2, 4]
(.ite (.v 5) (q (.idxS 1) [0, 2]
(q (.ldE none) [6]
(q (.bin .eql) [7, 1]
(.ite (.v 8) (.ret [2])
(q (.bin .add) [2, .k (.int .i64 1)]
(.next 0 [9, 3]))))))
(.ret [.k (.int .i64 (-1))])))))
def H169 : List (Nat × Nat) := [(14, 1)]
def T170 : T :=
(q (.bin .geq) [0, .k (.int .u8 65)]
(qt (.mv) [0] 1
(qt (.bin .leq) [2, .k (.int .u8 90)] 1
(q (.pick) [1, 3, .k (.bool false)]
(qf (.mv) [0] 4
(qf (.bin .geq) [5, .k (.int .u8 97)] 4
(qf (.mv) [6] 4
(qt (.mv) [0] 7
(qt (.bin .leq) [8, .k (.int .u8 122)] 7
(qf (.pick) [7, 9, .k (.bool false)] 4
(q (.pick) [4, .k (.bool true), 10]
(qf (.mv) [0] 11
(qf (.bin .geq) [12, .k (.int .u8 48)] 11
(qf (.mv) [13] 11
(qt (.mv) [0] 14
(qt (.bin .leq) [15, .k (.int .u8 57)] 14
(qf (.pick) [14, 16, .k (.bool false)] 11
(q (.pick) [11, .k (.bool true), 17]
(qf (.mv) [0] 18
(qf (.bin .eql) [19, .k (.int .u8 95)] 18
(q (.pick) [18, .k (.bool true), 20]
(.ret [21]))))))))))))))))))))))
def H170 : List (Nat × Nat) := []
def T171 : T :=
(q (.bin .geq) [0, .k (.int .u8 97)]
(qt (.mv) [0] 1
(qt (.bin .leq) [2, .k (.int .u8 122)] 1
(q (.pick) [1, 3, .k (.bool false)]
(qf (.mv) [0] 4
(qf (.bin .geq) [5, .k (.int .u8 65)] 4
(qf (.mv) [6] 4
(qt (.mv) [0] 7
(qt (.bin .leq) [8, .k (.int .u8 90)] 7
(qf (.pick) [7, 9, .k (.bool false)] 4
(q (.pick) [4, .k (.bool true), 10]
(qf (.mv) [0] 11
(qf (.bin .geq) [12, .k (.int .u8 48)] 11
(qf (.mv) [13] 11
(qt (.mv) [0] 14
(qt (.bin .leq) [15, .k (.int .u8 57)] 14
(qf (.pick) [14, 16, .k (.bool false)] 11
(q (.pick) [11, .k (.bool true), 17]
(qf (.mv) [0] 18
(qf (.bin .eql) [19, .k (.int .u8 95)] 18
(q (.pick) [18, .k (.bool true), 20]
(.ret [21]))))))))))))))))))))))
def H171 : List (Nat × Nat) := []
end Go.Proofs.YtdibpeknpmhknaaGreat
