/- What a tree answers, the code that it was made of answers. -/
import Derived.Test.YtdnoonnanhnkaaaDoorTree
set_option linter.unusedVariables false
set_option linter.unusedSimpArgs false
namespace Go.Proofs.YtdnoonnanhnkaaaDoor
open Go

theorem lookup_mem {α : Type} {k : Nat} {v : α} : ∀ {l : List (Nat × α)}, l.lookup k = some v → (k, v) ∈ l
  | [], h => by simp at h
  | (a, b) :: l, h => by
    rw [List.lookup_cons] at h
    split at h
    · rename_i e
      have e : k = a := by simpa using e
      simp only [Option.some.injEq] at h
      subst h e
      exact List.mem_cons_self
    · exact List.mem_cons_of_mem _ (lookup_mem h)

def Gok (n : Nat) : Gd → Prop
  | none => True
  | some (i, _) => i < n

def SVok (ρ : List DVal) (L : Nat → Nat × DVal) (x : DVal) : SV → Prop
  | .ex e => e.ok ρ.length = true ∧ x = e.val ρ
  | .ptr r off g => Gok ρ.length g ∧ (gB ρ g = true → x = .loc r (L r).1 off)

structure Corr (s : SS) (ρ : List DVal) (st : St) : Prop where
  len : ρ.length = s.nv
  env : ∀ t sv, (t, sv) ∈ s.env → SVok ρ st.loc (st.env t) sv
  loc : ∀ r e g, (r, (e, g)) ∈ s.loc → e.ok ρ.length = true ∧ Gok ρ.length g ∧ (gB ρ g = true → (st.loc r).2 = e.val ρ)

theorem ok_append {ρ vs : List DVal} {e : Ex} (h : e.ok ρ.length = true) : e.ok (ρ ++ vs).length = true ∧ e.val (ρ ++ vs) = e.val ρ := by
  cases e with
  | k d => exact ⟨rfl, rfl⟩
  | v i =>
    have hi : i < ρ.length := by simpa [Ex.ok, Nat.blt_eq] using h
    refine ⟨by simp [Ex.ok, Nat.blt_eq]; omega, ?_⟩
    simp [Ex.val, List.getD_eq_getElem?_getD, List.getElem?_append_left hi]

theorem gok_append {ρ vs : List DVal} {g : Gd} (h : Gok ρ.length g) : Gok (ρ ++ vs).length g ∧ gB (ρ ++ vs) g = gB ρ g := by
  cases g with
  | none => exact ⟨trivial, rfl⟩
  | some p =>
    obtain ⟨i, b⟩ := p
    simp only [Gok] at h
    refine ⟨by simp only [Gok, List.length_append]; omega, ?_⟩
    simp [gB, List.getD_eq_getElem?_getD, List.getElem?_append_left h]

theorem SVok.append {ρ vs : List DVal} {L : Nat → Nat × DVal} {x : DVal} {sv : SV} (h : SVok ρ L x sv) : SVok (ρ ++ vs) L x sv := by
  cases sv with
  | ex e => simp only [SVok] at h ⊢; exact ⟨(ok_append h.1).1, by rw [(ok_append h.1).2]; exact h.2⟩
  | ptr r off g => simp only [SVok] at h ⊢; exact ⟨(gok_append h.1).1, by rw [(gok_append h.1).2]; exact h.2⟩

theorem Corr.more {s : SS} {ρ vs : List DVal} {st : St} (h : Corr s ρ st) {k : Nat} (hk : vs.length = k) : Corr (s.more k) (ρ ++ vs) st :=
  ⟨by simp [SS.more, h.len, hk], fun t sv hm => (h.env t sv hm).append, fun r e g hm => by
    obtain ⟨h1, h2, h3⟩ := h.loc r e g hm
    exact ⟨(ok_append h1).1, (gok_append h2).1, by rw [(gok_append h2).2, (ok_append h1).2]; exact h3⟩⟩

theorem Corr.put {s : SS} {ρ : List DVal} {st : St} (h : Corr s ρ st) {d : Option Nat} {x : DVal} {sv : SV} (hx : SVok ρ st.loc x sv) : Corr (s.put d sv) ρ (st.put d x) := by
  cases d with
  | none => exact h
  | some t =>
    refine ⟨h.len, fun t' sv' hm => ?_, h.loc⟩
    simp only [SS.put, List.mem_cons, List.mem_filter, Prod.mk.injEq] at hm
    rcases hm with ⟨rfl, rfl⟩ | ⟨hm, hne⟩
    · simpa [St.put, upd] using hx
    · have : t' ≠ t := by simpa using hne
      simpa [St.put, upd, this] using h.env t' sv' hm

theorem put_sto (st : St) (d : Option Nat) (x : DVal) : (st.put d x).sto = st.sto := by cases d <;> rfl
theorem put_loc (st : St) (d : Option Nat) (x : DVal) : (st.put d x).loc = st.loc := by cases d <;> rfl

/-- A root is made anew. -/
theorem Corr.rebox {s : SS} {ρ : List DVal} {st : St} (h : Corr s ρ st) {r ep : Nat} {c : DVal} : Corr ({ s.drop r with loc := s.loc.filter fun p => p.1 != r }) ρ { st with loc := upd st.loc r (ep, c) } := by
  refine ⟨h.len, fun t sv hm => ?_, fun q e g hm => ?_⟩
  · simp only [SS.drop, List.mem_filter] at hm
    have := h.env t sv hm.1
    cases sv with
    | ex e => exact this
    | ptr q off g =>
      have hq : q ≠ r := by simpa [SV.notTo] using hm.2
      simpa [SVok, upd, hq] using this
  · simp only [List.mem_filter] at hm
    have hq : q ≠ r := by simpa using hm.2
    simpa [upd, hq] using h.loc q e g hm.1

/-- A root gets another content. -/
theorem Corr.setc {s : SS} {ρ : List DVal} {st : St} (h : Corr s ρ st) {r : Nat} {c : DVal} : Corr ({ s with loc := s.loc.filter fun p => p.1 != r }) ρ { st with loc := upd st.loc r ((st.loc r).1, c) } := by
  refine ⟨h.len, fun t sv hm => ?_, fun q e g hm => ?_⟩
  · have := h.env t sv hm
    cases sv with
    | ex e => exact this
    | ptr q off g =>
      by_cases hq : q = r
      · subst hq; simpa [SVok, upd] using this
      · simpa [SVok, upd, hq] using this
  · simp only [List.mem_filter] at hm
    have hq : q ≠ r := by simpa using hm.2
    simpa [upd, hq] using h.loc q e g hm.1

theorem Corr.addLoc {s : SS} {ρ : List DVal} {st : St} {r : Nat} {e : Ex} {g : Gd} (h : Corr { s with loc := s.loc.filter fun p => p.1 != r } ρ st) (he : e.ok ρ.length = true) (hg : Gok ρ.length g) (hv : gB ρ g = true → (st.loc r).2 = e.val ρ) :
    Corr (s.setLoc r e g) ρ st := by
  refine ⟨h.len, h.env, fun q e' g' hm => ?_⟩
  simp only [SS.setLoc, List.mem_cons, Prod.mk.injEq] at hm
  rcases hm with ⟨rfl, rfl, rfl⟩ | hm
  · exact ⟨he, hg, hv⟩
  · exact h.loc q e' g' hm

theorem Corr.sub {s s' : SS} {ρ : List DVal} {st : St} (h : Corr s ρ st) (h1 : ∀ p, p ∈ s'.env → p ∈ s.env) (h2 : ∀ p, p ∈ s'.loc → p ∈ s.loc) (h3 : s'.nv = s.nv) : Corr s' ρ st :=
  ⟨by rw [h3]; exact h.len, fun t sv hm => h.env t sv (h1 _ hm), fun r e g hm => h.loc r e g (h2 _ hm)⟩

theorem Corr.dep {s : SS} {ρ : List DVal} {st : St} (h : Corr s ρ st) (d : Nat) : Corr { s with dep := d } ρ st := ⟨h.len, h.env, h.loc⟩

theorem Corr.sto {s : SS} {ρ : List DVal} {st : St} (h : Corr s ρ st) (σ : Sto) : Corr s ρ { st with sto := σ } := ⟨h.len, h.env, h.loc⟩

theorem Corr.ex {s : SS} {ρ : List DVal} {st : St} (h : Corr s ρ st) {x : Opd} {e : Ex} (hx : s.ex x = some e) : e.ok ρ.length = true ∧ x.val st.env = e.val ρ := by
  cases x with
  | c v => simp only [SS.ex, Option.some.injEq] at hx; subst hx; exact ⟨rfl, rfl⟩
  | t n =>
    simp only [SS.ex] at hx
    split at hx
    · rename_i e' hs
      simp only [Option.some.injEq] at hx
      subst hx
      have := h.env n _ (lookup_mem hs)
      simpa [SVok, Opd.val] using this
    · cases hx

theorem Corr.exs {s : SS} {ρ : List DVal} {st : St} (h : Corr s ρ st) : ∀ {xs : List Opd} {es : List Ex}, s.exs xs = some es → xs.map (Opd.val st.env) = es.map (Ex.val ρ)
  | [], es, hx => by simp only [SS.exs, Option.some.injEq] at hx; subst hx; rfl
  | x :: xs, es, hx => by
    simp only [SS.exs] at hx
    split at hx
    · rename_i e es' h1 h2
      simp only [Option.some.injEq] at hx
      subst hx
      simp only [List.map_cons, (h.ex h1).2, h.exs h2]
    · cases hx

theorem okG_holds {ρ : List DVal} {g G : Gd} (h : okG g G = true) (hG : gB ρ G = true) : gB ρ g = true := by
  cases g with
  | none => rfl
  | some p =>
    obtain ⟨i, b⟩ := p
    cases G with
    | none => simp [okG] at h
    | some q =>
      obtain ⟨j, c⟩ := q
      simp only [okG, Bool.and_eq_true, beq_iff_eq] at h
      have h1 : i = j := Nat.eq_of_beq_eq_true h.1
      rw [h1, h.2]; exact hG

theorem Corr.ptr {s : SS} {ρ : List DVal} {st : St} (h : Corr s ρ st) {x : Opd} {G : Gd} {r off : Nat} (hx : s.ptr G x = some (r, off)) (hG : gB ρ G = true) : x.val st.env = .loc r (st.loc r).1 off := by
  cases x with
  | c v => simp [SS.ptr] at hx
  | t n =>
    simp only [SS.ptr] at hx
    split at hx
    · rename_i r' off' g hs
      split at hx
      · rename_i hok
        simp only [Option.some.injEq, Prod.mk.injEq] at hx
        obtain ⟨rfl, rfl⟩ := hx
        exact (h.env n _ (lookup_mem hs)).2 (okG_holds hok hG)
      · cases hx
    · cases hx

theorem Corr.cont {s : SS} {ρ : List DVal} {st : St} (h : Corr s ρ st) {G : Gd} {r : Nat} {e : Ex} (hx : s.cont G r = some e) : e.ok ρ.length = true ∧ (gB ρ G = true → (st.loc r).2 = e.val ρ) := by
  simp only [SS.cont] at hx
  split at hx
  · rename_i e' g hs
    split at hx
    · rename_i hok
      simp only [Option.some.injEq] at hx
      subst hx
      obtain ⟨h1, h2, h3⟩ := h.loc r _ _ (lookup_mem hs)
      exact ⟨h1, fun hG => h3 (okG_holds hok hG)⟩
    · cases hx
  · cases hx

def gS (st : St) : Option (Nat × Bool) → Bool
  | none => true
  | some (t, b) => (st.env t).isB b

theorem Corr.guard {s : SS} {ρ : List DVal} {st : St} (h : Corr s ρ st) {g : Option (Nat × Bool)} {G : Gd} (hx : s.guard g = some G) : Gok ρ.length G ∧ gS st g = gB ρ G := by
  cases g with
  | none => simp only [SS.guard, Option.some.injEq] at hx; subst hx; exact ⟨trivial, rfl⟩
  | some p =>
    obtain ⟨t, b⟩ := p
    simp only [SS.guard] at hx
    split at hx
    · rename_i i hs
      simp only [Option.some.injEq] at hx
      subst hx
      obtain ⟨h1, h2⟩ := h.env t _ (lookup_mem hs)
      refine ⟨by simpa [Ex.ok, Nat.blt_eq, Gok] using h1, ?_⟩
      simp only [gB, gS, h2, Ex.val]
    · cases hx

section
variable {cp : Nat → List DVal → Option DVal} {ci : Nat → List DVal → Sto → Option (DVal × Sto)}

def runIns (cp : Nat → List DVal → Option DVal) (ci : Nat → List DVal → Sto → Option (DVal × Sto)) : List JIns → List DVal → Sto → Option (List DVal × Sto)
  | [], ρ, σ => some (ρ, σ)
  | i :: is, ρ, σ => match i.op with
    | .p o => match guarded ρ i.g (o.sem cp (i.xs.map (Ex.val ρ))) with
      | some v => runIns cp ci is (ρ ++ [v]) σ
      | none => none
    | .s o => match guardedS ρ σ i.g (o.sem cp ci σ (i.xs.map (Ex.val ρ))) with
      | some (v, σ') => runIns cp ci is (ρ ++ [v]) σ'
      | none => none

theorem runIns_append : ∀ (is js : List JIns) (ρ : List DVal) (σ : Sto), runIns cp ci (is ++ js) ρ σ = (runIns cp ci is ρ σ).bind fun x => runIns cp ci js x.1 x.2
  | [], js, ρ, σ => rfl
  | i :: is, js, ρ, σ => by
    simp only [List.cons_append, runIns]
    split
    · split
      · rw [runIns_append is js]
      · rfl
    · split
      · rw [runIns_append is js]
      · rfl

theorem den_insTree {n : Nat} (t : T) : ∀ (is : List JIns) (ρ : List DVal) (σ : Sto), den cp ci n (insTree is t) ρ σ = (runIns cp ci is ρ σ).bind fun x => den cp ci n t x.1 x.2
  | [], ρ, σ => rfl
  | i :: is, ρ, σ => by
    obtain ⟨op, xs, g⟩ := i
    cases op with
    | p o =>
      simp only [insTree, JIns.tree, den, runIns, bndP]
      split
      · rename_i v e; rw [den_insTree t is]; simp only [e]
      · rename_i e; simp only [e]; rfl
    | s o =>
      simp only [insTree, JIns.tree, den, runIns, bndS]
      split
      · rename_i v σ' e; rw [den_insTree t is]; simp only [e]
      · rename_i e; simp only [e]; rfl

theorem guarded_eq {ρ : List DVal} {g : Gd} {x : Option DVal} : guarded ρ g x = if gB ρ g then x else some .undef := by
  cases g with
  | none => rfl
  | some p => rfl
theorem guardedS_eq {ρ : List DVal} {σ : Sto} {g : Gd} {x : Option (DVal × Sto)} : guardedS ρ σ g x = if gB ρ g then x else some (.undef, σ) := by
  cases g with
  | none => rfl
  | some p => rfl

theorem runIns_p {o : JOp} {es : List Ex} {G : Gd} {ρ ρ' : List DVal} {σ σ' : Sto} (h : runIns cp ci [⟨.p o, es, G⟩] ρ σ = some (ρ', σ')) :
    ∃ v, (if gB ρ G then o.sem cp (es.map (Ex.val ρ)) else some .undef) = some v ∧ ρ' = ρ ++ [v] ∧ σ' = σ := by
  simp only [runIns, guarded_eq] at h
  split at h
  · rename_i v e
    simp only [Option.some.injEq, Prod.mk.injEq] at h
    exact ⟨v, e, h.1.symm, h.2.symm⟩
  · cases h

theorem step_eq {s : SS} {ρ : List DVal} {st : St} (h : Corr s ρ st) {o : IOper} {G : Gd} (hg : s.guard o.guard = some G) :
    stepOp cp ci o st = if gB ρ G then execOp' cp ci o.dst o.op o.xs st else some (st.put o.dst .undef) := by
  have := (h.guard hg).2
  unfold stepOp
  split
  · rename_i e; rw [e] at this; simp only [gS] at this; rw [← this]; simp
  · rename_i g b e; rw [e] at this; simp only [gS] at this; rw [← this]

theorem v_last {ρ : List DVal} {v : DVal} : Ex.val (ρ ++ [v]) (.v ρ.length) = v := by simp [Ex.val]
theorem v_ok {ρ : List DVal} {v : DVal} : Ex.ok (ρ ++ [v]).length (.v ρ.length) = true := by simp [Ex.ok, Nat.blt_eq]

/-- A value that is bound last goes into a slot. -/
theorem Corr.bind {s : SS} {ρ : List DVal} {st : St} (h : Corr s ρ st) (d : Option Nat) (v : DVal) : Corr ((s.more 1).put d (.ex (.v s.nv))) (ρ ++ [v]) (st.put d v) := by
  refine (h.more (vs := [v]) rfl).put ?_
  rw [← h.len]
  exact ⟨v_ok, v_last.symm⟩

theorem mv_sem {st : St} {x : Opd} {r ep off n : Nat} {o : POp} (ho : isMv o = some n) (hx : x.val st.env = .loc r ep off) : o.sem cp ([x].map (Opd.val st.env)) = some (.loc r ep (off + n)) := by
  unfold isMv at ho
  split at ho <;> simp only [Option.some.injEq, reduceCtorEq] at ho
  · subst ho; simp [POp.sem, mvSem, hx]
  · subst ho; simp [POp.sem, nilchkSem, hx]
  · subst ho; simp [POp.sem, offSem, DVal.shift, hx]

theorem symbP_sound {s s' : SS} {G : Gd} {dst : Option Nat} {o : POp} {xs : List Opd} {is : List JIns} {ρ ρ' : List DVal} {st : St} {σ' : Sto} (hs : symbP s G dst o xs = some (is, s')) (h : Corr s ρ st) (hG : Gok ρ.length G)
    (hr : runIns cp ci is ρ st.sto = some (ρ', σ')) : ∃ st', (if gB ρ G then execOp' cp ci dst (.p o) xs st else some (st.put dst .undef)) = some st' ∧ st'.sto = σ' ∧ Corr s' ρ' st' := by
  unfold symbP at hs
  split at hs
  · rename_i r off hp
    simp only [Option.some.injEq, Prod.mk.injEq] at hs
    obtain ⟨rfl, rfl⟩ := hs
    simp only [runIns, Option.some.injEq, Prod.mk.injEq] at hr
    obtain ⟨rfl, rfl⟩ := hr
    split at hp
    · rename_i n x hm
      simp only [Option.map_eq_some_iff, Prod.mk.injEq] at hp
      obtain ⟨⟨r', off'⟩, hp, rfl, rfl⟩ := hp
      cases hb : gB ρ G with
      | true =>
        have hv := h.ptr hp hb
        refine ⟨st.put dst (.loc r' (st.loc r').1 (off' + n)), ?_, put_sto .., h.put ⟨hG, fun _ => rfl⟩⟩
        simp only [if_true, execOp', mv_sem (cp := cp) hm hv, Option.map_some]
      | false => exact ⟨st.put dst .undef, rfl, put_sto .., h.put ⟨hG, fun e => by rw [hb] at e; cases e⟩⟩
    · cases hp
  · split at hs
    · rename_i es hes
      have hval := h.exs hes
      split at hs
      · rename_i e _
        simp only [Option.some.injEq, Prod.mk.injEq] at hs
        obtain ⟨rfl, rfl⟩ := hs
        simp only [runIns, Option.some.injEq, Prod.mk.injEq] at hr
        obtain ⟨rfl, rfl⟩ := hr
        cases xs with
        | nil => simp [SS.exs] at hes
        | cons x xs =>
          cases xs with
          | cons y ys => simp only [SS.exs] at hes; split at hes <;> simp at hes; rename_i h2; split at h2 <;> simp at h2; simp [← h2] at hes
          | nil =>
            have hx : s.ex x = some e := by
              simp only [SS.exs] at hes
              split at hes
              · rename_i e' es' h1 h2
                simp only [Option.some.injEq, List.cons.injEq] at hes h2
                rw [h1, hes.1]
              · cases hes
            have := h.ex hx
            refine ⟨st.put dst (e.val ρ), ?_, put_sto .., h.put ⟨this.1, rfl⟩⟩
            simp [gB, execOp', POp.sem, mvSem, this.2]
      · simp only [Option.some.injEq, Prod.mk.injEq] at hs
        obtain ⟨rfl, rfl⟩ := hs
        obtain ⟨v, hv, rfl, rfl⟩ := runIns_p hr
        refine ⟨st.put dst v, ?_, put_sto .., h.bind dst v⟩
        cases hb : gB ρ G with
        | true => rw [hb] at hv; simp only [if_true, JOp.sem] at hv; simp only [if_true, execOp', hval, hv, Option.map_some]
        | false => rw [hb] at hv; simp at hv; subst hv; simp
    · cases hs

theorem more_drop (s : SS) (r k : Nat) : (s.more k).drop r = (s.drop r).more k := rfl

/-- A root is made anew and its address goes into a slot. -/
theorem rebox_corr {s : SS} {ρ : List DVal} {st : St} (h : Corr s ρ st) {r : Nat} {dst : Option Nat} {G : Gd} (hG : Gok ρ.length G) {c : DVal} {e : Ex} (he : e.ok ρ.length = true) (hc : gB ρ G = true → c = e.val ρ) :
    (gB ρ G = true → Corr (((s.drop r).put dst (.ptr r 0 G)).setLoc r e G) ρ ({ st with loc := upd st.loc r ((st.loc r).1 + 1, c) }.put dst (.loc r ((st.loc r).1 + 1) 0))) ∧
    (gB ρ G = false → Corr (((s.drop r).put dst (.ptr r 0 G)).setLoc r e G) ρ (st.put dst .undef)) := by
  constructor
  · intro hb
    refine Corr.addLoc ?_ he hG fun _ => ?_
    · have h1 := (h.rebox (r := r) (ep := (st.loc r).1 + 1) (c := c)).put (d := dst) (x := .loc r ((st.loc r).1 + 1) 0) (sv := .ptr r 0 G) ⟨hG, fun _ => by simp [upd]⟩
      refine h1.sub (fun p hp => ?_) (fun p hp => ?_) ?_
      · cases dst <;> simpa [SS.put, SS.drop] using hp
      · cases dst <;> simpa [SS.put, SS.drop] using hp
      · cases dst <;> rfl
    · rw [put_loc]; simp [upd, hc hb]
  · intro hb
    refine Corr.addLoc ?_ he hG fun e => by rw [hb] at e; cases e
    have h1 := h.put (d := dst) (x := .undef) (sv := .ptr r 0 G) ⟨hG, fun e => by rw [hb] at e; cases e⟩
    refine h1.sub (fun p hp => ?_) (fun p hp => ?_) ?_
    · cases dst with
      | none => simp only [SS.put, SS.drop, List.mem_filter] at hp ⊢; exact hp.1
      | some t =>
        simp only [SS.put, SS.drop, List.mem_cons, List.mem_filter] at hp ⊢
        rcases hp with hp | hp
        · exact .inl hp
        · exact .inr ⟨hp.1.1, hp.2⟩
    · cases dst <;> (simp only [SS.put, SS.drop, List.mem_filter] at hp ⊢; exact hp.1)
    · cases dst <;> rfl

theorem symbL_sound {s s' : SS} {G : Gd} {dst : Option Nat} {r : Nat} {o : LOp} {xs : List Opd} {is : List JIns} {ρ ρ' : List DVal} {st : St} {σ' : Sto} (hs : symbL s G dst r o xs = some (is, s')) (h : Corr s ρ st) (hG : Gok ρ.length G)
    (hr : runIns cp ci is ρ st.sto = some (ρ', σ')) : ∃ st', (if gB ρ G then execOp' cp ci dst (.lw r o) xs st else some (st.put dst .undef)) = some st' ∧ st'.sto = σ' ∧ Corr s' ρ' st' := by
  unfold symbL at hs
  split at hs
  · rename_i x
    simp only [Option.map_eq_some_iff, Prod.mk.injEq] at hs
    obtain ⟨e, he, rfl, rfl⟩ := hs
    obtain ⟨v, hv, rfl, rfl⟩ := runIns_p hr
    have hx := h.ex he
    have hm := h.more (vs := [v]) (k := 1) rfl
    have key := rebox_corr (r := r) (dst := dst) hm (gok_append (vs := [v]) hG).1 (c := v) (e := .v s.nv) (by rw [← h.len]; exact v_ok) (fun _ => by rw [← h.len]; exact v_last.symm)
    rw [(gok_append hG).2] at key
    cases hb : gB ρ G with
    | true =>
      rw [hb] at hv
      simp only [if_true, JOp.sem, List.map_cons, List.map_nil, jboxSem] at hv
      split at hv
      · rename_i hok
        simp only [Option.some.injEq] at hv
        refine ⟨_, ?_, ?_, key.1 hb⟩
        · simp only [if_true, execOp', LOp.sem, List.map_cons, List.map_nil, boxLSem, hx.2, hok, Option.map_some]
          rw [← hv]
        · rw [put_sto]
      · cases hv
    | false => exact ⟨_, rfl, put_sto .., key.2 hb⟩
  · rename_i z
    simp only [Option.some.injEq, Prod.mk.injEq] at hs
    obtain ⟨rfl, rfl⟩ := hs
    simp only [runIns, Option.some.injEq, Prod.mk.injEq] at hr
    obtain ⟨rfl, rfl⟩ := hr
    have key := rebox_corr (r := r) (dst := dst) h hG (c := .agg z) (e := .k (.agg z)) rfl (fun _ => rfl)
    cases hb : gB ρ G with
    | true =>
      refine ⟨_, ?_, ?_, key.1 hb⟩
      · simp only [if_true, execOp', LOp.sem, List.map_nil, allocLSem, Option.map_some]
      · rw [put_sto]
    | false => exact ⟨_, rfl, put_sto .., key.2 hb⟩
  · rename_i x
    simp only [Option.map_eq_some_iff, Prod.mk.injEq] at hs
    obtain ⟨e, he, rfl, rfl⟩ := hs
    obtain ⟨v, hv, rfl, rfl⟩ := runIns_p hr
    have hx := h.ex he
    have hm := h.more (vs := [v]) (k := 1) rfl
    have key := rebox_corr (r := r) (dst := dst) hm (gok_append (vs := [v]) hG).1 (c := v) (e := .v s.nv) (by rw [← h.len]; exact v_ok) (fun _ => by rw [← h.len]; exact v_last.symm)
    rw [(gok_append hG).2] at key
    cases hb : gB ρ G with
    | true =>
      rw [hb] at hv
      simp only [if_true, JOp.sem, List.map_cons, List.map_nil, ← hx.2] at hv
      unfold jrngSem at hv
      split at hv
      · rename_i q hq
        simp only [List.cons.injEq, and_true] at hq
        simp only [Option.some.injEq] at hv
        refine ⟨_, ?_, ?_, key.1 hb⟩
        · simp only [if_true, execOp', LOp.sem, List.map_cons, List.map_nil, rngSem, hq, Option.map_some]
          rw [← hv]
        · rw [put_sto]
      · cases hv
    | false => exact ⟨_, rfl, put_sto .., key.2 hb⟩
  · rename_i n p x
    split at hs
    · rename_i q off e c hp he hc
      split at hs
      · rename_i hq
        subst hq
        simp only [Option.some.injEq, Prod.mk.injEq] at hs
        obtain ⟨rfl, rfl⟩ := hs
        obtain ⟨v, hv, rfl, rfl⟩ := runIns_p hr
        have hx := h.ex he
        have hcv := h.cont hc
        have hundef : SVok (ρ ++ [v]) st.loc .undef (.ex (.k .undef)) := ⟨rfl, rfl⟩
        cases hb : gB ρ G with
        | true =>
          rw [hb] at hv
          have hp' := h.ptr hp hb
          have hc' := hcv.2 hb
          simp only [if_true, JOp.sem, List.map_cons, List.map_nil, ← hx.2, ← hc'] at hv
          unfold jwrSem at hv
          split at hv
          · rename_i cs u hq
            simp only [List.cons.injEq, and_true] at hq
            obtain ⟨hq1, hq2⟩ := hq
            split at hv
            · rename_i hcond
              simp only [Option.map_eq_some_iff] at hv
              obtain ⟨cs', hw, rfl⟩ := hv
              refine ⟨({ st with loc := upd st.loc q ((st.loc q).1, .agg cs') }).put dst .undef, ?_, by rw [put_sto], ?_⟩
              · simp only [if_true, execOp', LOp.sem, List.map_cons, List.map_nil, hp', stLSem, hq2]
                rw [if_pos ⟨trivial, trivial, hcond.1, hcond.2⟩, hq1]
                simp only [hw, Option.map_some]
              · refine Corr.addLoc ?_ ?_ (gok_append hG).1 fun _ => ?_
                · have h1 := ((h.setc (r := q) (c := .agg cs')).more (vs := [DVal.agg cs']) (k := 1) rfl).put (d := dst) (x := .undef) (sv := .ex (.k .undef)) ⟨rfl, rfl⟩
                  refine h1.sub (fun p hp => ?_) (fun p hp => ?_) ?_
                  · cases dst <;> exact hp
                  · cases dst <;> exact hp
                  · cases dst <;> rfl
                · rw [← h.len]; exact v_ok
                · rw [put_loc, ← h.len, v_last]; simp [upd]
            · cases hv
          · cases hv
        | false =>
          refine ⟨_, rfl, put_sto .., ?_⟩
          refine Corr.addLoc ?_ ?_ (gok_append hG).1 fun e => ?_
          · have h1 := (h.more (vs := [v]) (k := 1) rfl).put (d := dst) (x := .undef) (sv := .ex (.k .undef)) ⟨rfl, rfl⟩
            refine h1.sub (fun p hp => ?_) (fun p hp => ?_) ?_
            · cases dst <;> exact hp
            · cases dst <;> (simp only [SS.put, SS.more, List.mem_filter] at hp ⊢; exact hp.1)
            · cases dst <;> rfl
          · rw [← h.len]; exact v_ok
          · rw [(gok_append hG).2, hb] at e; cases e
      · cases hs
    · cases hs
  · rename_i p
    split at hs
    · rename_i q c hp hc
      split at hs
      · rename_i hq
        subst hq
        simp only [Option.some.injEq, Prod.mk.injEq] at hs
        obtain ⟨rfl, rfl⟩ := hs
        have hcv := h.cont hc
        simp only [runIns, guarded_eq, (gok_append hG).2, List.map_cons, List.map_nil, (ok_append hcv.1).2] at hr
        split at hr
        · rename_i v hv
          split at hr
          · rename_i u hu
            simp only [Option.some.injEq, Prod.mk.injEq, List.append_assoc, List.cons_append, List.nil_append] at hr
            obtain ⟨rfl, rfl⟩ := hr
            have e1 : Ex.ok (ρ ++ [v, u]).length (.v s.nv) = true := by simp [Ex.ok, Nat.blt_eq, h.len]
            have e2 : Ex.val (ρ ++ [v, u]) (.v s.nv) = v := by simp [Ex.val, ← h.len, List.getD_eq_getElem?_getD]
            have e3 : Ex.ok (ρ ++ [v, u]).length (.v (s.nv + 1)) = true := by simp [Ex.ok, Nat.blt_eq, h.len]
            have e4 : Ex.val (ρ ++ [v, u]) (.v (s.nv + 1)) = u := by simp [Ex.val, ← h.len, List.getD_eq_getElem?_getD]
            cases hb : gB ρ G with
            | true =>
              rw [hb] at hv hu
              have hp' := h.ptr hp hb
              have hc' := hcv.2 hb
              simp only [if_true, JOp.sem, ← hc'] at hv hu
              have hn : nextSem q (st.loc q) [.loc q (st.loc q).1 0] = some (v, ((st.loc q).1, u)) := by
                unfold jnxSem at hv hu
                split at hv
                · rename_i z pos hz
                  simp only [List.cons.injEq, and_true] at hz
                  rw [hz] at hu
                  simp only at hu
                  simp only [nextSem, true_and, if_true, hz]
                  by_cases hlt : pos < z.length
                  · simp only [hlt, if_true, Option.some.injEq] at hv hu ⊢
                    subst hv hu
                    simp
                  · simp only [hlt, if_false, Option.some.injEq] at hv hu ⊢
                    subst hv hu
                    simp [← hz]
                · cases hv
              refine ⟨({ st with loc := upd st.loc q ((st.loc q).1, u) }).put dst v, ?_, by rw [put_sto], ?_⟩
              · simp only [if_true, execOp', LOp.sem, List.map_cons, List.map_nil, hp', hn, Option.map_some]
              · refine Corr.addLoc ?_ e3 (gok_append hG).1 fun _ => ?_
                · have h1 := ((h.setc (r := q) (c := u)).more (vs := [v, u]) (k := 2) rfl).put (d := dst) (x := v) (sv := .ex (.v s.nv)) ⟨e1, e2.symm⟩
                  refine h1.sub (fun p hp => ?_) (fun p hp => ?_) ?_
                  · cases dst <;> exact hp
                  · cases dst <;> exact hp
                  · cases dst <;> rfl
                · rw [put_loc, e4]; simp [upd]
            | false =>
              rw [hb] at hv hu
              simp at hv hu
              subst hv hu
              refine ⟨_, rfl, put_sto .., ?_⟩
              refine Corr.addLoc ?_ e3 (gok_append hG).1 fun e => ?_
              · have h1 := (h.more (vs := [DVal.undef, DVal.undef]) (k := 2) rfl).put (d := dst) (x := .undef) (sv := .ex (.v s.nv)) ⟨e1, e2.symm⟩
                refine h1.sub (fun p hp => ?_) (fun p hp => ?_) ?_
                · cases dst <;> exact hp
                · cases dst <;> (simp only [SS.put, SS.more, List.mem_filter] at hp ⊢; exact hp.1)
                · cases dst <;> rfl
              · rw [(gok_append hG).2, hb] at e; cases e
          · cases hr
        · cases hr
      · cases hs
    · cases hs
  · cases hs

theorem symbOp_sound {s s' : SS} {o : IOper} {is : List JIns} {ρ ρ' : List DVal} {st : St} {σ' : Sto} (hs : symbOp s o = some (is, s')) (h : Corr s ρ st) (hr : runIns cp ci is ρ st.sto = some (ρ', σ')) :
    ∃ st', stepOp cp ci o st = some st' ∧ st'.sto = σ' ∧ Corr s' ρ' st' := by
  unfold symbOp at hs
  split at hs
  · cases hs
  · rename_i G hg
    have hG := (h.guard hg).1
    rw [step_eq h hg]
    split at hs
    · rename_i q e; rw [e]; exact symbP_sound hs h hG hr
    · rename_i r sz e
      rw [e]
      split at hs
      · rename_i x hxs
        split at hs
        · rename_i q off c hp hc
          split at hs
          · rename_i hq
            subst hq
            simp only [Option.some.injEq, Prod.mk.injEq] at hs
            obtain ⟨rfl, rfl⟩ := hs
            obtain ⟨v, hv, rfl, rfl⟩ := runIns_p hr
            refine ⟨st.put o.dst v, ?_, put_sto .., h.bind o.dst v⟩
            cases hb : gB ρ G with
            | true =>
              rw [hb] at hv
              have hp' := h.ptr hp hb
              have hc' := (h.cont hc).2 hb
              simp only [if_true, JOp.sem, POp.sem, List.map_cons, List.map_nil, ← hc'] at hv
              unfold fldSem at hv
              split at hv
              · rename_i cs hcs
                simp only [List.cons.injEq, and_true] at hcs
                simp only [if_true, execOp', hxs, List.map_cons, List.map_nil, hp', readLoc, true_and, hcs, hv, Option.map_some]
              · cases hv
            | false => rw [hb] at hv; simp at hv; subst hv; simp
          · cases hs
        · cases hs
      · cases hs
    · rename_i r q e; rw [e]; exact symbL_sound hs h hG hr
    · rename_i b q e
      rw [e]
      simp only [Option.map_eq_some_iff, Prod.mk.injEq] at hs
      obtain ⟨es, hes, rfl, rfl⟩ := hs
      have hval := h.exs hes
      simp only [runIns, guardedS_eq] at hr
      split at hr
      · rename_i v σ2 e2
        simp only [Option.some.injEq, Prod.mk.injEq] at hr
        obtain ⟨rfl, rfl⟩ := hr
        cases hb : gB ρ G with
        | true =>
          rw [hb] at e2
          simp only [if_true] at e2
          refine ⟨({ st with sto := σ2 }).put o.dst v, ?_, by rw [put_sto], (h.sto σ2).bind o.dst v⟩
          simp only [if_true, execOp', hval, e2, Option.map_some]
        | false =>
          rw [hb] at e2
          simp at e2
          obtain ⟨rfl, rfl⟩ := e2
          exact ⟨_, rfl, put_sto .., h.bind o.dst .undef⟩
      · cases hr

theorem symbOps_sound : ∀ {ops : List IOper} {s s' : SS} {is : List JIns} {ρ ρ' : List DVal} {st : St} {σ' : Sto}, symbOps ops s = some (is, s') → Corr s ρ st → runIns cp ci is ρ st.sto = some (ρ', σ') →
    ∃ st', runOps cp ci ops st = some st' ∧ st'.sto = σ' ∧ Corr s' ρ' st'
  | [], s, s', is, ρ, ρ', st, σ', hs, h, hr => by
    simp only [symbOps, Option.some.injEq, Prod.mk.injEq] at hs
    obtain ⟨rfl, rfl⟩ := hs
    simp only [runIns, Option.some.injEq, Prod.mk.injEq] at hr
    obtain ⟨rfl, rfl⟩ := hr
    exact ⟨st, rfl, rfl, h⟩
  | o :: os, s, s', is, ρ, ρ', st, σ', hs, h, hr => by
    simp only [symbOps] at hs
    split at hs
    · rename_i is1 s1 h1
      split at hs
      · rename_i is2 s2 h2
        simp only [Option.some.injEq, Prod.mk.injEq] at hs
        obtain ⟨rfl, rfl⟩ := hs
        rw [runIns_append] at hr
        simp only [Option.bind_eq_some_iff] at hr
        obtain ⟨⟨ρ1, σ1⟩, hr1, hr2⟩ := hr
        obtain ⟨st1, a1, rfl, a3⟩ := symbOp_sound h1 h hr1
        obtain ⟨st2, b1, b2, b3⟩ := symbOps_sound h2 a3 hr2
        exact ⟨st2, by simp only [runOps, a1, Option.bind_some, b1], b2, b3⟩
      · cases hs
    · cases hs

end

end Go.Proofs.YtdnoonnanhnkaaaDoor
