/- Texts of this proof, part 3: see the card for what is proved. -/
import Derived.Test.YtagkgekpfgepoaaDoorPf02
namespace Go.Proofs.YtagkgekpfgepoaaDoor
set_option linter.unusedVariables false
set_option linter.unusedSimpArgs false
open Go
theorem lookup_mem {α : Type} {k : Nat} {v : α} : ∀ {l : List (Nat × α)}, l.lookup k = some v → (k, v) ∈ l
  | [], h => by simp at h
  | (a, b) :: l, h => by
    rw [List.lookup_cons] at h
    split at h
    · rename_i e
      have e : k = a := by simpa using e
      simp only [Option.some.injEq] at h
      subst h e
      exact List.mem_cons_self
    · exact List.mem_cons_of_mem _ (lookup_mem h)
def Gok (n : Nat) : Gd → Prop
  | none => True
  | some (i, _) => i < n
def SVok (ρ : List DVal) (L : Nat → Nat × DVal) (x : DVal) : SV → Prop
  | .ex e => e.ok ρ.length = true ∧ x = e.val ρ
  | .ptr r off g => Gok ρ.length g ∧ (gB ρ g = true → x = .loc r (L r).1 off)
structure Corr (s : SS) (ρ : List DVal) (st : St) : Prop where
  len : ρ.length = s.nv
  env : ∀ t sv, (t, sv) ∈ s.env → SVok ρ st.loc (st.env t) sv
  loc : ∀ r e g, (r, (e, g)) ∈ s.loc → e.ok ρ.length = true ∧ Gok ρ.length g ∧ (gB ρ g = true → (st.loc r).2 = e.val ρ)
theorem ok_append {ρ vs : List DVal} {e : Ex} (h : e.ok ρ.length = true) : e.ok (ρ ++ vs).length = true ∧ e.val (ρ ++ vs) = e.val ρ := by
  cases e with
  | k d => exact ⟨rfl, rfl⟩
  | v i =>
    have hi : i < ρ.length := by simpa [Ex.ok, Nat.blt_eq] using h
    refine ⟨by simp [Ex.ok, Nat.blt_eq]; omega, ?_⟩
    simp [Ex.val, List.getD_eq_getElem?_getD, List.getElem?_append_left hi]
theorem gok_append {ρ vs : List DVal} {g : Gd} (h : Gok ρ.length g) : Gok (ρ ++ vs).length g ∧ gB (ρ ++ vs) g = gB ρ g := by
  cases g with
  | none => exact ⟨trivial, rfl⟩
  | some p =>
    obtain ⟨i, b⟩ := p
    simp only [Gok] at h
    refine ⟨by simp only [Gok, List.length_append]; omega, ?_⟩
    simp [gB, List.getD_eq_getElem?_getD, List.getElem?_append_left h]
theorem SVok.append {ρ vs : List DVal} {L : Nat → Nat × DVal} {x : DVal} {sv : SV} (h : SVok ρ L x sv) : SVok (ρ ++ vs) L x sv := by
  cases sv with
  | ex e => simp only [SVok] at h ⊢; exact ⟨(ok_append h.1).1, by rw [(ok_append h.1).2]; exact h.2⟩
  | ptr r off g => simp only [SVok] at h ⊢; exact ⟨(gok_append h.1).1, by rw [(gok_append h.1).2]; exact h.2⟩
theorem Corr.more {s : SS} {ρ vs : List DVal} {st : St} (h : Corr s ρ st) {k : Nat} (hk : vs.length = k) : Corr (s.more k) (ρ ++ vs) st :=
  ⟨by simp [SS.more, h.len, hk], fun t sv hm => (h.env t sv hm).append, fun r e g hm => by
    obtain ⟨h1, h2, h3⟩ := h.loc r e g hm
    exact ⟨(ok_append h1).1, (gok_append h2).1, by rw [(gok_append h2).2, (ok_append h1).2]; exact h3⟩⟩
theorem Corr.put {s : SS} {ρ : List DVal} {st : St} (h : Corr s ρ st) {d : Option Nat} {x : DVal} {sv : SV} (hx : SVok ρ st.loc x sv) : Corr (s.put d sv) ρ (st.put d x) := by
  cases d with
  | none => exact h
  | some t =>
    refine ⟨h.len, fun t' sv' hm => ?_, h.loc⟩
    simp only [SS.put, List.mem_cons, List.mem_filter, Prod.mk.injEq] at hm
    rcases hm with ⟨rfl, rfl⟩ | ⟨hm, hne⟩
    · simpa [St.put, upd] using hx
    · have : t' ≠ t := by simpa using hne
      simpa [St.put, upd, this] using h.env t' sv' hm
theorem put_sto (st : St) (d : Option Nat) (x : DVal) : (st.put d x).sto = st.sto := by cases d <;> rfl
theorem put_loc (st : St) (d : Option Nat) (x : DVal) : (st.put d x).loc = st.loc := by cases d <;> rfl
theorem Corr.rebox {s : SS} {ρ : List DVal} {st : St} (h : Corr s ρ st) {r ep : Nat} {c : DVal} : Corr ({ s.drop r with loc := s.loc.filter fun p => p.1 != r }) ρ { st with loc := upd st.loc r (ep, c) } := by
  refine ⟨h.len, fun t sv hm => ?_, fun q e g hm => ?_⟩
  · simp only [SS.drop, List.mem_filter] at hm
    have := h.env t sv hm.1
    cases sv with
    | ex e => exact this
    | ptr q off g =>
      have hq : q ≠ r := by simpa [SV.notTo] using hm.2
      simpa [SVok, upd, hq] using this
  · simp only [List.mem_filter] at hm
    have hq : q ≠ r := by simpa using hm.2
    simpa [upd, hq] using h.loc q e g hm.1
theorem Corr.setc {s : SS} {ρ : List DVal} {st : St} (h : Corr s ρ st) {r : Nat} {c : DVal} : Corr ({ s with loc := s.loc.filter fun p => p.1 != r }) ρ { st with loc := upd st.loc r ((st.loc r).1, c) } := by
  refine ⟨h.len, fun t sv hm => ?_, fun q e g hm => ?_⟩
  · have := h.env t sv hm
    cases sv with
    | ex e => exact this
    | ptr q off g =>
      by_cases hq : q = r
      · subst hq; simpa [SVok, upd] using this
      · simpa [SVok, upd, hq] using this
  · simp only [List.mem_filter] at hm
    have hq : q ≠ r := by simpa using hm.2
    simpa [upd, hq] using h.loc q e g hm.1
theorem Corr.addLoc {s : SS} {ρ : List DVal} {st : St} {r : Nat} {e : Ex} {g : Gd} (h : Corr { s with loc := s.loc.filter fun p => p.1 != r } ρ st) (he : e.ok ρ.length = true) (hg : Gok ρ.length g) (hv : gB ρ g = true → (st.loc r).2 = e.val ρ) :
    Corr (s.setLoc r e g) ρ st := by
  refine ⟨h.len, h.env, fun q e' g' hm => ?_⟩
  simp only [SS.setLoc, List.mem_cons, Prod.mk.injEq] at hm
  rcases hm with ⟨rfl, rfl, rfl⟩ | hm
  · exact ⟨he, hg, hv⟩
  · exact h.loc q e' g' hm
theorem Corr.sub {s s' : SS} {ρ : List DVal} {st : St} (h : Corr s ρ st) (h1 : ∀ p, p ∈ s'.env → p ∈ s.env) (h2 : ∀ p, p ∈ s'.loc → p ∈ s.loc) (h3 : s'.nv = s.nv) : Corr s' ρ st :=
  ⟨by rw [h3]; exact h.len, fun t sv hm => h.env t sv (h1 _ hm), fun r e g hm => h.loc r e g (h2 _ hm)⟩
theorem Corr.dep {s : SS} {ρ : List DVal} {st : St} (h : Corr s ρ st) (d : Nat) : Corr { s with dep := d } ρ st := ⟨h.len, h.env, h.loc⟩
theorem Corr.sto {s : SS} {ρ : List DVal} {st : St} (h : Corr s ρ st) (σ : Sto) : Corr s ρ { st with sto := σ } := ⟨h.len, h.env, h.loc⟩
theorem Corr.ex {s : SS} {ρ : List DVal} {st : St} (h : Corr s ρ st) {x : Opd} {e : Ex} (hx : s.ex x = some e) : e.ok ρ.length = true ∧ x.val st.env = e.val ρ := by
  cases x with
  | c v => simp only [SS.ex, Option.some.injEq] at hx; subst hx; exact ⟨rfl, rfl⟩
  | t n =>
    simp only [SS.ex] at hx
    split at hx
    · rename_i e' hs
      simp only [Option.some.injEq] at hx
      subst hx
      have := h.env n _ (lookup_mem hs)
      simpa [SVok, Opd.val] using this
    · cases hx
theorem Corr.exs {s : SS} {ρ : List DVal} {st : St} (h : Corr s ρ st) : ∀ {xs : List Opd} {es : List Ex}, s.exs xs = some es → xs.map (Opd.val st.env) = es.map (Ex.val ρ)
  | [], es, hx => by simp only [SS.exs, Option.some.injEq] at hx; subst hx; rfl
  | x :: xs, es, hx => by
    simp only [SS.exs] at hx
    split at hx
    · rename_i e es' h1 h2
      simp only [Option.some.injEq] at hx
      subst hx
      simp only [List.map_cons, (h.ex h1).2, h.exs h2]
    · cases hx
theorem okG_holds {ρ : List DVal} {g G : Gd} (h : okG g G = true) (hG : gB ρ G = true) : gB ρ g = true := by
  cases g with
  | none => rfl
  | some p =>
    obtain ⟨i, b⟩ := p
    cases G with
    | none => simp [okG] at h
    | some q =>
      obtain ⟨j, c⟩ := q
      simp only [okG, Bool.and_eq_true, beq_iff_eq] at h
      have h1 : i = j := Nat.eq_of_beq_eq_true h.1
      rw [h1, h.2]; exact hG
theorem Corr.ptr {s : SS} {ρ : List DVal} {st : St} (h : Corr s ρ st) {x : Opd} {G : Gd} {r off : Nat} (hx : s.ptr G x = some (r, off)) (hG : gB ρ G = true) : x.val st.env = .loc r (st.loc r).1 off := by
  cases x with
  | c v => simp [SS.ptr] at hx
  | t n =>
    simp only [SS.ptr] at hx
    split at hx
    · rename_i r' off' g hs
      split at hx
      · rename_i hok
        simp only [Option.some.injEq, Prod.mk.injEq] at hx
        obtain ⟨rfl, rfl⟩ := hx
        exact (h.env n _ (lookup_mem hs)).2 (okG_holds hok hG)
      · cases hx
    · cases hx
theorem Corr.cont {s : SS} {ρ : List DVal} {st : St} (h : Corr s ρ st) {G : Gd} {r : Nat} {e : Ex} (hx : s.cont G r = some e) : e.ok ρ.length = true ∧ (gB ρ G = true → (st.loc r).2 = e.val ρ) := by
  simp only [SS.cont] at hx
  split at hx
  · rename_i e' g hs
    split at hx
    · rename_i hok
      simp only [Option.some.injEq] at hx
      subst hx
      obtain ⟨h1, h2, h3⟩ := h.loc r _ _ (lookup_mem hs)
      exact ⟨h1, fun hG => h3 (okG_holds hok hG)⟩
    · cases hx
  · cases hx
def gS (st : St) : Option (Nat × Bool) → Bool
  | none => true
  | some (t, b) => (st.env t).isB b
theorem Corr.guard {s : SS} {ρ : List DVal} {st : St} (h : Corr s ρ st) {g : Option (Nat × Bool)} {G : Gd} (hx : s.guard g = some G) : Gok ρ.length G ∧ gS st g = gB ρ G := by
  cases g with
  | none => simp only [SS.guard, Option.some.injEq] at hx; subst hx; exact ⟨trivial, rfl⟩
  | some p =>
    obtain ⟨t, b⟩ := p
    simp only [SS.guard] at hx
    split at hx
    · rename_i i hs
      simp only [Option.some.injEq] at hx
      subst hx
      obtain ⟨h1, h2⟩ := h.env t _ (lookup_mem hs)
      refine ⟨by simpa [Ex.ok, Nat.blt_eq, Gok] using h1, ?_⟩
      simp only [gB, gS, h2, Ex.val]
    · cases hx
section
variable {cp : Nat → List DVal → Option DVal} {ci : Nat → List DVal → Sto → Option (DVal × Sto)}
def runIns (cp : Nat → List DVal → Option DVal) (ci : Nat → List DVal → Sto → Option (DVal × Sto)) : List JIns → List DVal → Sto → Option (List DVal × Sto)
  | [], ρ, σ => some (ρ, σ)
  | i :: is, ρ, σ => match i.op with
    | .p o => match guarded ρ i.g (o.sem cp (i.xs.map (Ex.val ρ))) with
      | some v => runIns cp ci is (ρ ++ [v]) σ
      | none => none
    | .s o => match guardedS ρ σ i.g (o.sem cp ci σ (i.xs.map (Ex.val ρ))) with
      | some (v, σ') => runIns cp ci is (ρ ++ [v]) σ'
      | none => none
theorem runIns_append : ∀ (is js : List JIns) (ρ : List DVal) (σ : Sto), runIns cp ci (is ++ js) ρ σ = (runIns cp ci is ρ σ).bind fun x => runIns cp ci js x.1 x.2
  | [], js, ρ, σ => rfl
  | i :: is, js, ρ, σ => by
    simp only [List.cons_append, runIns]
    split
    · split
      · rw [runIns_append is js]
      · rfl
    · split
      · rw [runIns_append is js]
      · rfl
theorem den_insTree {n : Nat} (t : T) : ∀ (is : List JIns) (ρ : List DVal) (σ : Sto), den cp ci n (insTree is t) ρ σ = (runIns cp ci is ρ σ).bind fun x => den cp ci n t x.1 x.2
  | [], ρ, σ => rfl
  | i :: is, ρ, σ => by
    obtain ⟨op, xs, g⟩ := i
    cases op with
    | p o =>
      simp only [insTree, JIns.tree, den, runIns, bndP]
      split
      · rename_i v e; rw [den_insTree t is]; simp only [e]
      · rename_i e; simp only [e]; rfl
    | s o =>
      simp only [insTree, JIns.tree, den, runIns, bndS]
      split
      · rename_i v σ' e; rw [den_insTree t is]; simp only [e]
      · rename_i e; simp only [e]; rfl
theorem guarded_eq {ρ : List DVal} {g : Gd} {x : Option DVal} : guarded ρ g x = if gB ρ g then x else some .undef := by
  cases g with
  | none => rfl
  | some p => rfl
theorem guardedS_eq {ρ : List DVal} {σ : Sto} {g : Gd} {x : Option (DVal × Sto)} : guardedS ρ σ g x = if gB ρ g then x else some (.undef, σ) := by
  cases g with
  | none => rfl
  | some p => rfl
theorem runIns_p {o : JOp} {es : List Ex} {G : Gd} {ρ ρ' : List DVal} {σ σ' : Sto} (h : runIns cp ci [⟨.p o, es, G⟩] ρ σ = some (ρ', σ')) :
    ∃ v, (if gB ρ G then o.sem cp (es.map (Ex.val ρ)) else some .undef) = some v ∧ ρ' = ρ ++ [v] ∧ σ' = σ := by
  simp only [runIns, guarded_eq] at h
  split at h
  · rename_i v e
    simp only [Option.some.injEq, Prod.mk.injEq] at h
    exact ⟨v, e, h.1.symm, h.2.symm⟩
  · cases h
theorem step_eq {s : SS} {ρ : List DVal} {st : St} (h : Corr s ρ st) {o : IOper} {G : Gd} (hg : s.guard o.guard = some G) :
    stepOp cp ci o st = if gB ρ G then execOp' cp ci o.dst o.op o.xs st else some (st.put o.dst .undef) := by
  have := (h.guard hg).2
  unfold stepOp
  split
  · rename_i e; rw [e] at this; simp only [gS] at this; rw [← this]; simp
  · rename_i g b e; rw [e] at this; simp only [gS] at this; rw [← this]
theorem v_last {ρ : List DVal} {v : DVal} : Ex.val (ρ ++ [v]) (.v ρ.length) = v := by simp [Ex.val]
theorem v_ok {ρ : List DVal} {v : DVal} : Ex.ok (ρ ++ [v]).length (.v ρ.length) = true := by simp [Ex.ok, Nat.blt_eq]
theorem Corr.bind {s : SS} {ρ : List DVal} {st : St} (h : Corr s ρ st) (d : Option Nat) (v : DVal) : Corr ((s.more 1).put d (.ex (.v s.nv))) (ρ ++ [v]) (st.put d v) := by
  refine (h.more (vs := [v]) rfl).put ?_
  rw [← h.len]
  exact ⟨v_ok, v_last.symm⟩
theorem mv_sem {st : St} {x : Opd} {r ep off n : Nat} {o : POp} (ho : isMv o = some n) (hx : x.val st.env = .loc r ep off) : o.sem cp ([x].map (Opd.val st.env)) = some (.loc r ep (off + n)) := by
  unfold isMv at ho
  split at ho <;> simp only [Option.some.injEq, reduceCtorEq] at ho
  · subst ho; simp [POp.sem, mvSem, hx]
  · subst ho; simp [POp.sem, nilchkSem, hx]
  · subst ho; simp [POp.sem, offSem, DVal.shift, hx]
theorem symbP_sound {s s' : SS} {G : Gd} {dst : Option Nat} {o : POp} {xs : List Opd} {is : List JIns} {ρ ρ' : List DVal} {st : St} {σ' : Sto} (hs : symbP s G dst o xs = some (is, s')) (h : Corr s ρ st) (hG : Gok ρ.length G)
    (hr : runIns cp ci is ρ st.sto = some (ρ', σ')) : ∃ st', (if gB ρ G then execOp' cp ci dst (.p o) xs st else some (st.put dst .undef)) = some st' ∧ st'.sto = σ' ∧ Corr s' ρ' st' := by
  unfold symbP at hs
  split at hs
  · rename_i r off hp
    simp only [Option.some.injEq, Prod.mk.injEq] at hs
    obtain ⟨rfl, rfl⟩ := hs
    simp only [runIns, Option.some.injEq, Prod.mk.injEq] at hr
    obtain ⟨rfl, rfl⟩ := hr
    split at hp
    · rename_i n x hm
      simp only [Option.map_eq_some_iff, Prod.mk.injEq] at hp
      obtain ⟨⟨r', off'⟩, hp, rfl, rfl⟩ := hp
      cases hb : gB ρ G with
      | true =>
        have hv := h.ptr hp hb
        refine ⟨st.put dst (.loc r' (st.loc r').1 (off' + n)), ?_, put_sto .., h.put ⟨hG, fun _ => rfl⟩⟩
        simp only [if_true, execOp', mv_sem (cp := cp) hm hv, Option.map_some]
      | false => exact ⟨st.put dst .undef, rfl, put_sto .., h.put ⟨hG, fun e => by rw [hb] at e; cases e⟩⟩
    · cases hp
  · split at hs
    · rename_i es hes
      have hval := h.exs hes
      split at hs
      · rename_i e _
        simp only [Option.some.injEq, Prod.mk.injEq] at hs
        obtain ⟨rfl, rfl⟩ := hs
        simp only [runIns, Option.some.injEq, Prod.mk.injEq] at hr
        obtain ⟨rfl, rfl⟩ := hr
        cases xs with
        | nil => simp [SS.exs] at hes
        | cons x xs =>
          cases xs with
          | cons y ys => simp only [SS.exs] at hes; split at hes <;> simp at hes; rename_i h2; split at h2 <;> simp at h2; simp [← h2] at hes
          | nil =>
            have hx : s.ex x = some e := by
              simp only [SS.exs] at hes
              split at hes
              · rename_i e' es' h1 h2
                simp only [Option.some.injEq, List.cons.injEq] at hes h2
                rw [h1, hes.1]
              · cases hes
            have := h.ex hx
            refine ⟨st.put dst (e.val ρ), ?_, put_sto .., h.put ⟨this.1, rfl⟩⟩
            simp [gB, execOp', POp.sem, mvSem, this.2]
      · simp only [Option.some.injEq, Prod.mk.injEq] at hs
        obtain ⟨rfl, rfl⟩ := hs
        obtain ⟨v, hv, rfl, rfl⟩ := runIns_p hr
        refine ⟨st.put dst v, ?_, put_sto .., h.bind dst v⟩
        cases hb : gB ρ G with
        | true => rw [hb] at hv; simp only [if_true, JOp.sem] at hv; simp only [if_true, execOp', hval, hv, Option.map_some]
        | false => rw [hb] at hv; simp at hv; subst hv; simp
    · cases hs
theorem rebox_corr {s : SS} {ρ : List DVal} {st : St} (h : Corr s ρ st) {r : Nat} {dst : Option Nat} {G : Gd} (hG : Gok ρ.length G) {c : DVal} {e : Ex} (he : e.ok ρ.length = true) (hc : gB ρ G = true → c = e.val ρ) :
    (gB ρ G = true → Corr (((s.drop r).put dst (.ptr r 0 G)).setLoc r e G) ρ ({ st with loc := upd st.loc r ((st.loc r).1 + 1, c) }.put dst (.loc r ((st.loc r).1 + 1) 0))) ∧
    (gB ρ G = false → Corr (((s.drop r).put dst (.ptr r 0 G)).setLoc r e G) ρ (st.put dst .undef)) := by
  constructor
  · intro hb
    refine Corr.addLoc ?_ he hG fun _ => ?_
    · have h1 := (h.rebox (r := r) (ep := (st.loc r).1 + 1) (c := c)).put (d := dst) (x := .loc r ((st.loc r).1 + 1) 0) (sv := .ptr r 0 G) ⟨hG, fun _ => by simp [upd]⟩
      refine h1.sub (fun p hp => ?_) (fun p hp => ?_) ?_
      · cases dst <;> simpa [SS.put, SS.drop] using hp
      · cases dst <;> simpa [SS.put, SS.drop] using hp
      · cases dst <;> rfl
    · rw [put_loc]; simp [upd, hc hb]
  · intro hb
    refine Corr.addLoc ?_ he hG fun e => by rw [hb] at e; cases e
    have h1 := h.put (d := dst) (x := .undef) (sv := .ptr r 0 G) ⟨hG, fun e => by rw [hb] at e; cases e⟩
    refine h1.sub (fun p hp => ?_) (fun p hp => ?_) ?_
    · cases dst with
      | none => simp only [SS.put, SS.drop, List.mem_filter] at hp ⊢; exact hp.1
      | some t =>
        simp only [SS.put, SS.drop, List.mem_cons, List.mem_filter] at hp ⊢
        rcases hp with hp | hp
        · exact .inl hp
        · exact .inr ⟨hp.1.1, hp.2⟩
    · cases dst <;> (simp only [SS.put, SS.drop, List.mem_filter] at hp ⊢; exact hp.1)
    · cases dst <;> rfl
theorem symbL_sound {s s' : SS} {G : Gd} {dst : Option Nat} {r : Nat} {o : LOp} {xs : List Opd} {is : List JIns} {ρ ρ' : List DVal} {st : St} {σ' : Sto} (hs : symbL s G dst r o xs = some (is, s')) (h : Corr s ρ st) (hG : Gok ρ.length G)
    (hr : runIns cp ci is ρ st.sto = some (ρ', σ')) : ∃ st', (if gB ρ G then execOp' cp ci dst (.lw r o) xs st else some (st.put dst .undef)) = some st' ∧ st'.sto = σ' ∧ Corr s' ρ' st' := by
  unfold symbL at hs
  split at hs
  · rename_i x
    simp only [Option.map_eq_some_iff, Prod.mk.injEq] at hs
    obtain ⟨e, he, rfl, rfl⟩ := hs
    obtain ⟨v, hv, rfl, rfl⟩ := runIns_p hr
    have hx := h.ex he
    have hm := h.more (vs := [v]) (k := 1) rfl
    have key := rebox_corr (r := r) (dst := dst) hm (gok_append (vs := [v]) hG).1 (c := v) (e := .v s.nv) (by rw [← h.len]; exact v_ok) (fun _ => by rw [← h.len]; exact v_last.symm)
    rw [(gok_append hG).2] at key
    cases hb : gB ρ G with
    | true =>
      rw [hb] at hv
      simp only [if_true, JOp.sem, List.map_cons, List.map_nil, jboxSem] at hv
      split at hv
      · rename_i hok
        simp only [Option.some.injEq] at hv
        refine ⟨_, ?_, ?_, key.1 hb⟩
        · simp only [if_true, execOp', LOp.sem, List.map_cons, List.map_nil, boxLSem, hx.2, hok, Option.map_some]
          rw [← hv]
        · rw [put_sto]
      · cases hv
    | false => exact ⟨_, rfl, put_sto .., key.2 hb⟩
  · rename_i z
    simp only [Option.some.injEq, Prod.mk.injEq] at hs
    obtain ⟨rfl, rfl⟩ := hs
    simp only [runIns, Option.some.injEq, Prod.mk.injEq] at hr
    obtain ⟨rfl, rfl⟩ := hr
    have key := rebox_corr (r := r) (dst := dst) h hG (c := .agg z) (e := .k (.agg z)) rfl (fun _ => rfl)
    cases hb : gB ρ G with
    | true =>
      refine ⟨_, ?_, ?_, key.1 hb⟩
      · simp only [if_true, execOp', LOp.sem, List.map_nil, allocLSem, Option.map_some]
      · rw [put_sto]
    | false => exact ⟨_, rfl, put_sto .., key.2 hb⟩
  · rename_i x
    simp only [Option.map_eq_some_iff, Prod.mk.injEq] at hs
    obtain ⟨e, he, rfl, rfl⟩ := hs
    obtain ⟨v, hv, rfl, rfl⟩ := runIns_p hr
    have hx := h.ex he
    have hm := h.more (vs := [v]) (k := 1) rfl
    have key := rebox_corr (r := r) (dst := dst) hm (gok_append (vs := [v]) hG).1 (c := v) (e := .v s.nv) (by rw [← h.len]; exact v_ok) (fun _ => by rw [← h.len]; exact v_last.symm)
    rw [(gok_append hG).2] at key
    cases hb : gB ρ G with
    | true =>
      rw [hb] at hv
      simp only [if_true, JOp.sem, List.map_cons, List.map_nil, ← hx.2] at hv
      unfold jrngSem at hv
      split at hv
      · rename_i q hq
        simp only [List.cons.injEq, and_true] at hq
        simp only [Option.some.injEq] at hv
        refine ⟨_, ?_, ?_, key.1 hb⟩
        · simp only [if_true, execOp', LOp.sem, List.map_cons, List.map_nil, rngSem, hq, Option.map_some]
          rw [← hv]
        · rw [put_sto]
      · cases hv
    | false => exact ⟨_, rfl, put_sto .., key.2 hb⟩
  · rename_i n p x
    split at hs
    · rename_i q off e c hp he hc
      split at hs
      · rename_i hq
        subst hq
        simp only [Option.some.injEq, Prod.mk.injEq] at hs
        obtain ⟨rfl, rfl⟩ := hs
        obtain ⟨v, hv, rfl, rfl⟩ := runIns_p hr
        have hx := h.ex he
        have hcv := h.cont hc
        have hundef : SVok (ρ ++ [v]) st.loc .undef (.ex (.k .undef)) := ⟨rfl, rfl⟩
        cases hb : gB ρ G with
        | true =>
          rw [hb] at hv
          have hp' := h.ptr hp hb
          have hc' := hcv.2 hb
          simp only [if_true, JOp.sem, List.map_cons, List.map_nil, ← hx.2, ← hc'] at hv
          unfold jwrSem at hv
          split at hv
          · rename_i cs u hq
            simp only [List.cons.injEq, and_true] at hq
            obtain ⟨hq1, hq2⟩ := hq
            split at hv
            · rename_i hcond
              simp only [Option.map_eq_some_iff] at hv
              obtain ⟨cs', hw, rfl⟩ := hv
              refine ⟨({ st with loc := upd st.loc q ((st.loc q).1, .agg cs') }).put dst .undef, ?_, by rw [put_sto], ?_⟩
              · simp only [if_true, execOp', LOp.sem, List.map_cons, List.map_nil, hp', stLSem, hq2]
                rw [if_pos ⟨trivial, trivial, hcond.1, hcond.2⟩, hq1]
                simp only [hw, Option.map_some]
              · refine Corr.addLoc ?_ ?_ (gok_append hG).1 fun _ => ?_
                · have h1 := ((h.setc (r := q) (c := .agg cs')).more (vs := [DVal.agg cs']) (k := 1) rfl).put (d := dst) (x := .undef) (sv := .ex (.k .undef)) ⟨rfl, rfl⟩
                  refine h1.sub (fun p hp => ?_) (fun p hp => ?_) ?_
                  · cases dst <;> exact hp
                  · cases dst <;> exact hp
                  · cases dst <;> rfl
                · rw [← h.len]; exact v_ok
                · rw [put_loc, ← h.len, v_last]; simp [upd]
            · cases hv
          · cases hv
        | false =>
          refine ⟨_, rfl, put_sto .., ?_⟩
          refine Corr.addLoc ?_ ?_ (gok_append hG).1 fun e => ?_
          · have h1 := (h.more (vs := [v]) (k := 1) rfl).put (d := dst) (x := .undef) (sv := .ex (.k .undef)) ⟨rfl, rfl⟩
            refine h1.sub (fun p hp => ?_) (fun p hp => ?_) ?_
            · cases dst <;> exact hp
            · cases dst <;> (simp only [SS.put, SS.more, List.mem_filter] at hp ⊢; exact hp.1)
            · cases dst <;> rfl
          · rw [← h.len]; exact v_ok
          · rw [(gok_append hG).2, hb] at e; cases e
      · cases hs
    · cases hs
  · rename_i p
    split at hs
    · rename_i q c hp hc
      split at hs
      · rename_i hq
        subst hq
        simp only [Option.some.injEq, Prod.mk.injEq] at hs
        obtain ⟨rfl, rfl⟩ := hs
        have hcv := h.cont hc
        simp only [runIns, guarded_eq, (gok_append hG).2, List.map_cons, List.map_nil, (ok_append hcv.1).2] at hr
        split at hr
        · rename_i v hv
          split at hr
          · rename_i u hu
            simp only [Option.some.injEq, Prod.mk.injEq, List.append_assoc, List.cons_append, List.nil_append] at hr
            obtain ⟨rfl, rfl⟩ := hr
            have e1 : Ex.ok (ρ ++ [v, u]).length (.v s.nv) = true := by simp [Ex.ok, Nat.blt_eq, h.len]
            have e2 : Ex.val (ρ ++ [v, u]) (.v s.nv) = v := by simp [Ex.val, ← h.len, List.getD_eq_getElem?_getD]
            have e3 : Ex.ok (ρ ++ [v, u]).length (.v (s.nv + 1)) = true := by simp [Ex.ok, Nat.blt_eq, h.len]
            have e4 : Ex.val (ρ ++ [v, u]) (.v (s.nv + 1)) = u := by simp [Ex.val, ← h.len, List.getD_eq_getElem?_getD]
            cases hb : gB ρ G with
            | true =>
              rw [hb] at hv hu
              have hp' := h.ptr hp hb
              have hc' := hcv.2 hb
              simp only [if_true, JOp.sem, ← hc'] at hv hu
              have hn : nextSem q (st.loc q) [.loc q (st.loc q).1 0] = some (v, ((st.loc q).1, u)) := by
                unfold jnxSem at hv hu
                split at hv
                · rename_i z pos hz
                  simp only [List.cons.injEq, and_true] at hz
                  rw [hz] at hu
                  simp only at hu
                  simp only [nextSem, true_and, if_true, hz]
                  by_cases hlt : pos < z.length
                  · simp only [hlt, if_true, Option.some.injEq] at hv hu ⊢
                    subst hv hu
                    simp
                  · simp only [hlt, if_false, Option.some.injEq] at hv hu ⊢
                    subst hv hu
                    simp [← hz]
                · cases hv
              refine ⟨({ st with loc := upd st.loc q ((st.loc q).1, u) }).put dst v, ?_, by rw [put_sto], ?_⟩
              · simp only [if_true, execOp', LOp.sem, List.map_cons, List.map_nil, hp', hn, Option.map_some]
              · refine Corr.addLoc ?_ e3 (gok_append hG).1 fun _ => ?_
                · have h1 := ((h.setc (r := q) (c := u)).more (vs := [v, u]) (k := 2) rfl).put (d := dst) (x := v) (sv := .ex (.v s.nv)) ⟨e1, e2.symm⟩
                  refine h1.sub (fun p hp => ?_) (fun p hp => ?_) ?_
                  · cases dst <;> exact hp
                  · cases dst <;> exact hp
                  · cases dst <;> rfl
                · rw [put_loc, e4]; simp [upd]
            | false =>
              rw [hb] at hv hu
              simp at hv hu
              subst hv hu
              refine ⟨_, rfl, put_sto .., ?_⟩
              refine Corr.addLoc ?_ e3 (gok_append hG).1 fun e => ?_
              · have h1 := (h.more (vs := [DVal.undef, DVal.undef]) (k := 2) rfl).put (d := dst) (x := .undef) (sv := .ex (.v s.nv)) ⟨e1, e2.symm⟩
                refine h1.sub (fun p hp => ?_) (fun p hp => ?_) ?_
                · cases dst <;> exact hp
                · cases dst <;> (simp only [SS.put, SS.more, List.mem_filter] at hp ⊢; exact hp.1)
                · cases dst <;> rfl
              · rw [(gok_append hG).2, hb] at e; cases e
          · cases hr
        · cases hr
      · cases hs
    · cases hs
  · cases hs
theorem symbOp_sound {s s' : SS} {o : IOper} {is : List JIns} {ρ ρ' : List DVal} {st : St} {σ' : Sto} (hs : symbOp s o = some (is, s')) (h : Corr s ρ st) (hr : runIns cp ci is ρ st.sto = some (ρ', σ')) :
    ∃ st', stepOp cp ci o st = some st' ∧ st'.sto = σ' ∧ Corr s' ρ' st' := by
  unfold symbOp at hs
  split at hs
  · cases hs
  · rename_i G hg
    have hG := (h.guard hg).1
    rw [step_eq h hg]
    split at hs
    · rename_i q e; rw [e]; exact symbP_sound hs h hG hr
    · rename_i r sz e
      rw [e]
      split at hs
      · rename_i x hxs
        split at hs
        · rename_i q off c hp hc
          split at hs
          · rename_i hq
            subst hq
            simp only [Option.some.injEq, Prod.mk.injEq] at hs
            obtain ⟨rfl, rfl⟩ := hs
            obtain ⟨v, hv, rfl, rfl⟩ := runIns_p hr
            refine ⟨st.put o.dst v, ?_, put_sto .., h.bind o.dst v⟩
            cases hb : gB ρ G with
            | true =>
              rw [hb] at hv
              have hp' := h.ptr hp hb
              have hc' := (h.cont hc).2 hb
              simp only [if_true, JOp.sem, POp.sem, List.map_cons, List.map_nil, ← hc'] at hv
              unfold fldSem at hv
              split at hv
              · rename_i cs hcs
                simp only [List.cons.injEq, and_true] at hcs
                simp only [if_true, execOp', hxs, List.map_cons, List.map_nil, hp', readLoc, true_and, hcs, hv, Option.map_some]
              · cases hv
            | false => rw [hb] at hv; simp at hv; subst hv; simp
          · cases hs
        · cases hs
      · cases hs
    · rename_i r q e; rw [e]; exact symbL_sound hs h hG hr
    · rename_i b q e
      rw [e]
      simp only [Option.map_eq_some_iff, Prod.mk.injEq] at hs
      obtain ⟨es, hes, rfl, rfl⟩ := hs
      have hval := h.exs hes
      simp only [runIns, guardedS_eq] at hr
      split at hr
      · rename_i v σ2 e2
        simp only [Option.some.injEq, Prod.mk.injEq] at hr
        obtain ⟨rfl, rfl⟩ := hr
        cases hb : gB ρ G with
        | true =>
          rw [hb] at e2
          simp only [if_true] at e2
          refine ⟨({ st with sto := σ2 }).put o.dst v, ?_, by rw [put_sto], (h.sto σ2).bind o.dst v⟩
          simp only [if_true, execOp', hval, e2, Option.map_some]
        | false =>
          rw [hb] at e2
          simp at e2
          obtain ⟨rfl, rfl⟩ := e2
          exact ⟨_, rfl, put_sto .., h.bind o.dst .undef⟩
      · cases hr
theorem symbOps_sound : ∀ {ops : List IOper} {s s' : SS} {is : List JIns} {ρ ρ' : List DVal} {st : St} {σ' : Sto}, symbOps ops s = some (is, s') → Corr s ρ st → runIns cp ci is ρ st.sto = some (ρ', σ') →
    ∃ st', runOps cp ci ops st = some st' ∧ st'.sto = σ' ∧ Corr s' ρ' st'
  | [], s, s', is, ρ, ρ', st, σ', hs, h, hr => by
    simp only [symbOps, Option.some.injEq, Prod.mk.injEq] at hs
    obtain ⟨rfl, rfl⟩ := hs
    simp only [runIns, Option.some.injEq, Prod.mk.injEq] at hr
    obtain ⟨rfl, rfl⟩ := hr
    exact ⟨st, rfl, rfl, h⟩
  | o :: os, s, s', is, ρ, ρ', st, σ', hs, h, hr => by
    simp only [symbOps] at hs
    split at hs
    · rename_i is1 s1 h1
      split at hs
      · rename_i is2 s2 h2
        simp only [Option.some.injEq, Prod.mk.injEq] at hs
        obtain ⟨rfl, rfl⟩ := hs
        rw [runIns_append] at hr
        simp only [Option.bind_eq_some_iff] at hr
        obtain ⟨⟨ρ1, σ1⟩, hr1, hr2⟩ := hr
        obtain ⟨st1, a1, rfl, a3⟩ := symbOp_sound h1 h hr1
        obtain ⟨st2, b1, b2, b3⟩ := symbOps_sound h2 a3 hr2
        exact ⟨st2, by simp only [runOps, a1, Option.bind_some, b1], b2, b3⟩
      · cases hs
    · cases hs
end
end Go.Proofs.YtagkgekpfgepoaaDoor
namespace Go.Proofs.YtagkgekpfgepoaaDoor
set_option linter.unusedVariables false
set_option linter.unusedSimpArgs false
open Go
structure Fr (W WR WB : List Nat) (st st' : St) : Prop where
  env : ∀ t, t ∉ W → st'.env t = st.env t
  loc : ∀ r, r ∉ WR → (st'.loc r).2 = (st.loc r).2
  ep : ∀ r, r ∉ WB → (st'.loc r).1 = (st.loc r).1
theorem Fr.refl (W WR WB : List Nat) (st : St) : Fr W WR WB st st := ⟨fun _ _ => rfl, fun _ _ => rfl, fun _ _ => rfl⟩
theorem Fr.trans {W WR WB : List Nat} {a b c : St} (h : Fr W WR WB a b) (h' : Fr W WR WB b c) : Fr W WR WB a c :=
  ⟨fun t ht => (h'.env t ht).trans (h.env t ht), fun r hr => (h'.loc r hr).trans (h.loc r hr), fun r hr => (h'.ep r hr).trans (h.ep r hr)⟩
theorem Fr.wider {W WR WB W' WR' WB' : List Nat} {a b : St} (h : Fr W WR WB a b) (h1 : ∀ x, x ∈ W → x ∈ W') (h2 : ∀ x, x ∈ WR → x ∈ WR') (h3 : ∀ x, x ∈ WB → x ∈ WB') : Fr W' WR' WB' a b :=
  ⟨fun t ht => h.env t fun hm => ht (h1 t hm), fun r hr => h.loc r fun hm => hr (h2 r hm), fun r hr => h.ep r fun hm => hr (h3 r hm)⟩
def frCode (c : ICode) (st st' : St) : Prop := Fr (c.wr IOper.dst) (c.wr IOper.root) (c.wr IOper.boxed) st st'
section
variable {cp : Nat → List DVal → Option DVal} {ci : Nat → List DVal → Sto → Option (DVal × Sto)} {n : Nat}
theorem put_env {st : St} {d : Option Nat} {x : DVal} {t : Nat} (h : d ≠ some t) : (st.put d x).env t = st.env t := by
  cases d with
  | none => rfl
  | some u =>
    have : t ≠ u := fun e => h (by rw [e])
    simp [St.put, upd, this]
theorem op_frame {o : IOper} {st st' : St} (h : stepOp cp ci o st = some st') : (∀ t, o.dst ≠ some t → st'.env t = st.env t) ∧ (∀ r, o.root ≠ some r → (st'.loc r).2 = (st.loc r).2) ∧ (∀ r, o.boxed ≠ some r → (st'.loc r).1 = (st.loc r).1) := by
  have hput : ∀ (st0 : St) (x : DVal), st0.loc = st.loc → st0.env = st.env → st' = st0.put o.dst x → (∀ t, o.dst ≠ some t → st'.env t = st.env t) ∧ (∀ r, o.root ≠ some r → (st'.loc r).2 = (st.loc r).2) ∧ (∀ r, o.boxed ≠ some r → (st'.loc r).1 = (st.loc r).1) := by
    rintro st0 x h1 h2 rfl
    exact ⟨fun t ht => by rw [put_env ht, h2], fun r _ => by rw [put_loc, h1], fun r _ => by rw [put_loc, h1]⟩
  have hexec : execOp' cp ci o.dst o.op o.xs st = some st' → (∀ t, o.dst ≠ some t → st'.env t = st.env t) ∧ (∀ r, o.root ≠ some r → (st'.loc r).2 = (st.loc r).2) ∧ (∀ r, o.boxed ≠ some r → (st'.loc r).1 = (st.loc r).1) := by
    clear h
    intro h
    obtain ⟨dst, op, xs, g⟩ := o
    simp only at h hput
    unfold execOp' at h
    split at h
    · simp only [Option.map_eq_some_iff] at h
      obtain ⟨x, -, rfl⟩ := h
      exact hput st x rfl rfl rfl
    · simp only [Option.map_eq_some_iff] at h
      obtain ⟨x, -, rfl⟩ := h
      exact hput st x rfl rfl rfl
    · rename_i r q
      simp only [Option.map_eq_some_iff] at h
      obtain ⟨x, hx, rfl⟩ := h
      refine ⟨fun t ht => put_env (st := { st with loc := upd st.loc r x.2 }) ht, fun p hp => ?_, fun p hp => ?_⟩
      · have : p ≠ r := fun e => hp (by simp [IOper.root, e])
        rw [put_loc]; simp [upd, this]
      · by_cases e : p = r
        · subst e
          rw [put_loc]
          simp only [upd, if_true]
          cases q with
          | box => simp [IOper.boxed] at hp
          | alloc z => simp [IOper.boxed] at hp
          | rng => simp [IOper.boxed] at hp
          | st k =>
            simp only [LOp.sem] at hx
            unfold stLSem at hx
            split at hx
            · split at hx
              · split at hx
                · simp only [Option.map_eq_some_iff] at hx
                  obtain ⟨_, -, rfl⟩ := hx
                  rfl
                · cases hx
              · cases hx
            · cases hx
          | next =>
            simp only [LOp.sem] at hx
            unfold nextSem at hx
            split at hx
            · split at hx
              · split at hx
                · split at hx <;> (simp only [Option.some.injEq] at hx; rw [← hx])
                · cases hx
              · cases hx
            · cases hx
        · rw [put_loc]; simp [upd, e]
    · simp only [Option.map_eq_some_iff] at h
      obtain ⟨x, -, rfl⟩ := h
      exact hput { st with sto := x.2 } x.1 rfl rfl rfl
  unfold stepOp at h
  split at h
  · exact hexec h
  · split at h
    · exact hexec h
    · simp only [Option.some.injEq] at h
      exact hput st .undef rfl rfl h.symm
theorem ops_frame : ∀ {ops : List IOper} {st st' : St}, runOps cp ci ops st = some st' → Fr (ops.filterMap IOper.dst) (ops.filterMap IOper.root) (ops.filterMap IOper.boxed) st st'
  | [], st, st', h => by simp only [runOps, Option.some.injEq] at h; subst h; exact Fr.refl ..
  | o :: os, st, st', h => by
    simp only [runOps, Option.bind_eq_some_iff] at h
    obtain ⟨st1, h1, h2⟩ := h
    obtain ⟨a1, a2, a3⟩ := op_frame h1
    have b := ops_frame h2
    have sub : ∀ (f : IOper → Option Nat) x, x ∈ os.filterMap f → x ∈ (o :: os).filterMap f := fun f x hx => by
      simp only [List.mem_filterMap] at hx ⊢
      obtain ⟨y, h1, h2⟩ := hx
      exact ⟨y, List.mem_cons_of_mem _ h1, h2⟩
    have hd : ∀ (f : IOper → Option Nat) x, x ∉ (o :: os).filterMap f → f o ≠ some x := fun f x hx e => hx (by simp only [List.mem_filterMap]; exact ⟨o, List.mem_cons_self, e⟩)
    exact Fr.trans ⟨fun t ht => a1 t (hd _ t ht), fun r hr => a2 r (hd _ r hr), fun r hr => a3 r (hd _ r hr)⟩ (b.wider (sub _) (sub _) (sub _))
theorem code_frame : ∀ (c : ICode) {st st' : St} {e : Exit}, runCode cp ci n c st = some (e, st') → frCode c st st'
  | .skip, st, st', e, h => by simp only [runCode, Option.some.injEq, Prod.mk.injEq] at h; obtain ⟨-, rfl⟩ := h; exact Fr.refl ..
  | .ret, st, st', e, h => by simp only [runCode, Option.some.injEq, Prod.mk.injEq] at h; obtain ⟨-, rfl⟩ := h; exact Fr.refl ..
  | .exit i, st, st', e, h => by simp only [runCode, Option.some.injEq, Prod.mk.injEq] at h; obtain ⟨-, rfl⟩ := h; exact Fr.refl ..
  | .reg ops, st, st', e, h => by
    simp only [runCode, Option.map_eq_some_iff, Prod.mk.injEq] at h
    obtain ⟨s, h1, -, rfl⟩ := h
    exact ops_frame h1
  | .seq a b, st, st', e, h => by
    have wl : ∀ {x y : St}, frCode a x y → frCode (.seq a b) x y := fun h => h.wider (fun x hx => by simp [ICode.wr, hx]) (fun x hx => by simp [ICode.wr, hx]) (fun x hx => by simp [ICode.wr, hx])
    have wr : ∀ {x y : St}, frCode b x y → frCode (.seq a b) x y := fun h => h.wider (fun x hx => by simp [ICode.wr, hx]) (fun x hx => by simp [ICode.wr, hx]) (fun x hx => by simp [ICode.wr, hx])
    simp only [runCode] at h
    split at h
    · rename_i s hs
      exact (wl (code_frame a hs)).trans (wr (code_frame b h))
    · exact wl (code_frame a h)
  | .cond c a b, st, st', e, h => by
    simp only [runCode] at h
    split at h
    · exact (code_frame a h).wider (fun x hx => by simp [ICode.wr, hx]) (fun x hx => by simp [ICode.wr, hx]) (fun x hx => by simp [ICode.wr, hx])
    · exact (code_frame b h).wider (fun x hx => by simp [ICode.wr, hx]) (fun x hx => by simp [ICode.wr, hx]) (fun x hx => by simp [ICode.wr, hx])
    · cases h
  | .block id a, st, st', e, h => by
    simp only [runCode] at h
    split at h
    · rename_i i s hs
      have := code_frame a hs
      split at h <;> (simp only [Option.some.injEq, Prod.mk.injEq] at h; obtain ⟨-, rfl⟩ := h; exact this)
    · exact code_frame a h
  | .loop a, st, st', e, h => by
    simp only [runCode] at h
    have aux : ∀ m st, iter (runCode cp ci n a) m st = some (e, st') → frCode a st st' := by
      intro m
      induction m with
      | zero => intro st h; simp [iter] at h
      | succ m ih =>
        intro st h
        simp only [iter] at h
        split at h
        · rename_i s hs
          exact (code_frame a hs).trans (ih s h)
        · exact code_frame a h
    exact aux n st h
theorem varsEnv_ok {ρ : List DVal} {L : Nat → Nat × DVal} {env : Nat → DVal} {vs us : List DVal} : ∀ {ts : List Nat} {b : Nat}, ρ.length + vs.length = b → ∀ t sv, (t, sv) ∈ varsEnv b ts → SVok (ρ ++ (vs ++ (ts.map env ++ us))) L (env t) sv
  | [], b, hb, t, sv, hm => by simp [varsEnv] at hm
  | d :: ds, b, hb, t, sv, hm => by
    simp only [varsEnv, List.mem_cons, Prod.mk.injEq] at hm
    rcases hm with ⟨rfl, rfl⟩ | hm
    · refine ⟨by simp [Ex.ok, Nat.blt_eq]; omega, ?_⟩
      subst hb
      simp [Ex.val, List.getD_eq_getElem?_getD]
    · have := varsEnv_ok (ρ := ρ) (vs := vs ++ [env d]) (us := us) (ts := ds) (b := b + 1) (L := L) (env := env) (by simp; omega) t sv hm
      simpa using this
theorem varsLoc_ok {ρ : List DVal} {f : Nat → DVal} {vs : List DVal} : ∀ {rs : List Nat} {b : Nat}, ρ.length + vs.length = b → ∀ r e g, (r, (e, g)) ∈ varsLoc b rs → g = none ∧ e.ok (ρ ++ (vs ++ rs.map f)).length = true ∧ f r = e.val (ρ ++ (vs ++ rs.map f))
  | [], b, hb, r, e, g, hm => by simp [varsLoc] at hm
  | d :: ds, b, hb, r, e, g, hm => by
    simp only [varsLoc, List.mem_cons, Prod.mk.injEq] at hm
    rcases hm with ⟨rfl, rfl, rfl⟩ | hm
    · refine ⟨rfl, by simp [Ex.ok, Nat.blt_eq]; omega, ?_⟩
      subst hb
      simp [Ex.val, List.getD_eq_getElem?_getD]
    · have := varsLoc_ok (ρ := ρ) (f := f) (vs := vs ++ [f d]) (rs := ds) (b := b + 1) (by simp; omega) r e g hm
      simpa using this
def valsOf (a : ICode) (s : SS) (st : St) : List DVal :=
  (slotVars (a.wr IOper.dst) s.env).map st.env ++ (rootVars (a.wr IOper.root) s.loc).map fun r => (st.loc r).2
theorem valsOf_length {a : ICode} {s : SS} {st : St} : (valsOf a s st).length = numVals a s := by simp [valsOf, numVals]
theorem padFrom_drop {vs : List DVal} : ∀ {m i : Nat}, i + m = vs.length → padFrom vs i m = vs.drop i
  | 0, i, h => by rw [List.drop_eq_nil_of_le (by omega)]; rfl
  | m + 1, i, h => by
    rw [padFrom, padFrom_drop (by omega), List.drop_eq_getElem_cons (by omega : i < vs.length)]
    rw [List.getD_eq_getElem?_getD, List.getElem?_eq_getElem (by omega : i < vs.length)]
    rfl
@[simp] theorem padFrom_vals {a : ICode} {s : SS} {st : St} : padFrom (valsOf a s st) 0 (numVals a s) = valsOf a s st := by
  rw [padFrom_drop (by rw [valsOf_length]; omega)]; rfl
def PtrsOk (a : ICode) (s : SS) (st : St) : Prop := ∀ t r off, (t, (r, off)) ∈ ptrVars (a.wr IOper.dst) s.env → st.env t = .loc r (st.loc r).1 off
theorem head_corr {a : ICode} {s : SS} {ρ : List DVal} {st0 st : St} (h : Corr s ρ st0) (hf : frCode a st0 st) (hp : PtrsOk a s st) (dep : Nat) : Corr (headOf a s dep) (ρ ++ valsOf a s st) st := by
  refine ⟨?_, fun t sv hm => ?_, fun r e g hm => ?_⟩
  · simp [headOf, valsOf, h.len]
  · simp only [headOf, List.mem_append, List.mem_map] at hm
    rcases hm with (hm | ⟨⟨t', r, off⟩, hm, he⟩) | hm
    · have := varsEnv_ok (ρ := ρ) (vs := []) (us := (rootVars (a.wr IOper.root) s.loc).map fun r => (st.loc r).2) (L := st.loc) (env := st.env) (by simp [h.len]) t sv hm
      simpa [valsOf] using this
    · simp only [Prod.mk.injEq] at he
      obtain ⟨rfl, rfl⟩ := he
      exact ⟨trivial, fun _ => hp _ _ _ hm⟩
    · simp only [keepEnv, List.mem_filter, Bool.and_eq_true, Bool.not_eq_true', List.contains_eq_mem, decide_eq_false_iff_not] at hm
      obtain ⟨hm, hw, hb⟩ := hm
      have := (h.env t sv hm).append (vs := valsOf a s st)
      rw [hf.env t hw]
      cases sv with
      | ex e => exact this
      | ptr r off g =>
        simp only at hb
        refine ⟨this.1, fun hg => ?_⟩
        rw [hf.ep r (by simpa using hb)]
        exact this.2 hg
  · simp only [headOf, List.mem_append] at hm
    rcases hm with hm | hm
    · have := varsLoc_ok (ρ := ρ) (f := fun r => (st.loc r).2) (vs := (slotVars (a.wr IOper.dst) s.env).map st.env) (by simp [h.len]) r e g hm
      obtain ⟨rfl, h1, h2⟩ := this
      exact ⟨h1, trivial, fun _ => h2⟩
    · simp only [keepLoc, List.mem_filter, Bool.not_eq_true', List.contains_eq_mem, decide_eq_false_iff_not] at hm
      obtain ⟨h1, h2, h3⟩ := h.loc r e g hm.1
      refine ⟨(ok_append h1).1, (gok_append h2).1, fun hg => ?_⟩
      rw [(gok_append h2).2] at hg
      rw [hf.loc r hm.2, (ok_append h1).2]
      exact h3 hg
theorem getSlots_ok {s : SS} {ρ : List DVal} {st : St} (h : Corr s ρ st) : ∀ {ts : List Nat} {es : List Ex}, getSlots s ts = some es → es.map (Ex.val ρ) = ts.map st.env
  | [], es, hs => by simp only [getSlots, Option.some.injEq] at hs; subst hs; rfl
  | t :: ts, es, hs => by
    simp only [getSlots] at hs
    split at hs
    · rename_i e es' h1 h2
      simp only [Option.some.injEq] at hs
      subst hs
      simp only [List.map_cons, getSlots_ok h h2, ← (h.ex h1).2, Opd.val]
    · cases hs
theorem getRoots_ok {s : SS} {ρ : List DVal} {st : St} (h : Corr s ρ st) : ∀ {ts : List Nat} {es : List Ex}, getRoots s ts = some es → es.map (Ex.val ρ) = ts.map fun r => (st.loc r).2
  | [], es, hs => by simp only [getRoots, Option.some.injEq] at hs; subst hs; rfl
  | t :: ts, es, hs => by
    simp only [getRoots] at hs
    split at hs
    · rename_i e es' h1 h2
      simp only [Option.some.injEq] at hs
      subst hs
      simp only [List.map_cons, getRoots_ok h h2, (h.cont h1).2 rfl]
    · cases hs
theorem samePtrs_ok {s : SS} {ρ : List DVal} {st : St} (h : Corr s ρ st) : ∀ {ps : List (Nat × (Nat × Nat))}, samePtrs s ps = true → ∀ t r off, (t, (r, off)) ∈ ps → st.env t = .loc r (st.loc r).1 off
  | [], _, t, r, off, hm => by simp at hm
  | (u, (q, o)) :: ps, hs, t, r, off, hm => by
    simp only [samePtrs, Bool.and_eq_true] at hs
    simp only [List.mem_cons, Prod.mk.injEq] at hm
    rcases hm with ⟨rfl, rfl, rfl⟩ | hm
    · have h1 := hs.1
      split at h1
      · rename_i q' o' hp
        simp only [Bool.and_eq_true] at h1
        have e1 := Nat.eq_of_beq_eq_true h1.1
        have e2 := Nat.eq_of_beq_eq_true h1.2
        subst e1 e2
        exact h.ptr hp rfl
      · cases h1
    · exact samePtrs_ok h hs.2 t r off hm
theorem nowVals_ok {a : ICode} {s0 s : SS} {ρ : List DVal} {st : St} {es : List Ex} (h : Corr s ρ st) (hs : nowVals a s0 s = some es) : es.map (Ex.val ρ) = valsOf a s0 st ∧ PtrsOk a s0 st := by
  simp only [nowVals] at hs
  split at hs
  · rename_i e1 e2 h1 h2
    split at hs
    · rename_i h3
      simp only [Option.some.injEq] at hs
      subst hs
      exact ⟨by rw [List.map_append, getSlots_ok h h1, getRoots_ok h h2]; rfl, samePtrs_ok h h3⟩
    · cases hs
  · cases hs
theorem iterJ_next {l i : Nat} {f : List DVal → Sto → Option Out} {vs' : List DVal} {σ' : Sto} : ∀ {m : Nat} {vs : List DVal} {σ : Sto}, iterJ l f m vs σ = some (.next i vs' σ') → i ≠ l ∧ ∃ us τ, f us τ = some (.next i vs' σ')
  | 0, vs, σ, h => by simp [iterJ] at h
  | m + 1, vs, σ, h => by
    simp only [iterJ] at h
    split at h
    · rename_i j ws τ e
      split at h
      · exact iterJ_next h
      · rename_i hne
        simp only [Option.some.injEq, Out.next.injEq] at h
        obtain ⟨rfl, rfl, rfl⟩ := h
        exact ⟨hne, _, _, e⟩
    · rename_i hne
      exact absurd h (hne i vs' σ')
theorem esc_next {l i : Nat} {vs : List DVal} {τ : Sto} : ∀ (t : T) (ρ : List DVal) (σ : Sto), t.esc l = true → den cp ci n t ρ σ = some (.next i vs τ) → i ≠ l
  | .ret xs, ρ, σ, he, h => by
    simp only [den, retJ] at h
    split at h <;> simp at h
  | .p o xs g k, ρ, σ, he, h => by
    simp only [den, bndP] at h
    split at h
    · exact esc_next k _ _ he h
    · cases h
  | .s o xs g k, ρ, σ, he, h => by
    simp only [den, bndS] at h
    split at h
    · exact esc_next k _ _ he h
    · cases h
  | .ite c a b, ρ, σ, he, h => by
    simp only [T.esc, Bool.and_eq_true] at he
    simp only [den, iteJ] at h
    split at h
    · exact esc_next a _ _ he.1 h
    · exact esc_next b _ _ he.2 h
    · cases h
  | .loop j init body, ρ, σ, he, h => by
    simp only [T.esc, Bool.or_eq_true, beq_iff_eq] at he
    simp only [den] at h
    obtain ⟨h1, us, τ', h2⟩ := iterJ_next h
    rcases he with rfl | he
    · exact h1
    · exact esc_next body _ _ he h2
  | .join j m body k, ρ, σ, he, h => by
    simp only [T.esc, Bool.and_eq_true, Bool.or_eq_true, beq_iff_eq] at he
    simp only [den, joinJ] at h
    split at h
    · rename_i i' vs' σ' e
      split at h
      · exact esc_next k _ _ he.2 h
      · rename_i hne
        simp only [Option.some.injEq, Out.next.injEq] at h
        obtain ⟨rfl, rfl, rfl⟩ := h
        rcases he.1 with rfl | he
        · exact hne
        · exact esc_next body _ _ he e
    · exact absurd h (by rename_i hne; exact hne _ _ _)
  | .next j xs, ρ, σ, he, h => by
    simp only [T.esc, bne_iff_ne, ne_eq] at he
    simp only [den, Option.some.injEq, Out.next.injEq] at h
    rw [← h.1]
    exact he
theorem noEsc_some {l : Nat} {t t' : T} (h : noEsc l t = some t') : t' = t ∧ t.esc l = true := by
  unfold noEsc at h
  split at h
  · rename_i he; simp only [Option.some.injEq] at h; exact ⟨h.symm, he⟩
  · cases h
def Leads (cp : Nat → List DVal → Option DVal) (ci : Nat → List DVal → Sto → Option (DVal × Sto)) (n : Nat) (k : Exit → SS → Option T) (out : Out) (e : Exit) (st' : St) : Prop :=
  ∃ s' t' ρ', k e s' = some t' ∧ Corr s' ρ' st' ∧ den cp ci n t' ρ' st'.sto = some out
theorem joinAt_leads {a : ICode} {s : SS} {k : Exit → SS → Option T} {out : Out} {e : Exit} {st' : St} (h : Leads cp ci n (joinAt a s k) out e st') :
    (e = .normal ∧ out = .next s.dep (valsOf a s st') st'.sto ∧ PtrsOk a s st') ∨ (e ≠ .normal ∧ (∀ vs τ, out ≠ .next s.dep vs τ) ∧ Leads cp ci n k out e st') := by
  obtain ⟨s', t', ρ', h1, h2, h3⟩ := h
  have other : e ≠ .normal → (k e s').bind (noEsc s.dep) = some t' → (e = .normal ∧ out = .next s.dep (valsOf a s st') st'.sto ∧ PtrsOk a s st') ∨ (e ≠ .normal ∧ (∀ vs τ, out ≠ .next s.dep vs τ) ∧ Leads cp ci n k out e st') := by
    intro hne h1
    simp only [Option.bind_eq_some_iff] at h1
    obtain ⟨t, ht, hn⟩ := h1
    obtain ⟨rfl, hesc⟩ := noEsc_some hn
    refine .inr ⟨hne, fun vs τ e => ?_, s', t', ρ', ht, h2, h3⟩
    rw [e] at h3
    exact esc_next _ _ _ hesc h3 rfl
  unfold joinAt at h1
  split at h1
  · simp only [Option.map_eq_some_iff] at h1
    obtain ⟨es, he, rfl⟩ := h1
    simp only [den, Option.some.injEq] at h3
    obtain ⟨a1, a2⟩ := nowVals_ok h2 he
    rw [a1] at h3
    exact .inl ⟨rfl, h3.symm, a2⟩
  · rename_i hne
    exact other (fun e => hne e) h1
theorem symb_sound : ∀ (c : ICode) (rs : Nat) (s : SS) (k : Exit → SS → Option T) (t : T), symb c rs s k = some t → ∀ (ρ : List DVal) (st : St) (out : Out), Corr s ρ st → den cp ci n t ρ st.sto = some out →
    ∃ e st', runCode cp ci n c st = some (e, st') ∧ Leads cp ci n k out e st'
  | .skip, rs, s, k, t, hs, ρ, st, out, h, hd => ⟨.normal, st, rfl, s, t, ρ, hs, h, hd⟩
  | .ret, rs, s, k, t, hs, ρ, st, out, h, hd => ⟨.ret, st, rfl, s, t, ρ, hs, h, hd⟩
  | .exit i, rs, s, k, t, hs, ρ, st, out, h, hd => ⟨.exit i, st, rfl, s, t, ρ, hs, h, hd⟩
  | .reg ops, rs, s, k, t, hs, ρ, st, out, h, hd => by
    simp only [symb] at hs
    split at hs
    · rename_i is s' h1
      simp only [Option.map_eq_some_iff] at hs
      obtain ⟨t', hk, rfl⟩ := hs
      rw [den_insTree] at hd
      simp only [Option.bind_eq_some_iff] at hd
      obtain ⟨⟨ρ', σ'⟩, hr, hd⟩ := hd
      obtain ⟨st', a1, rfl, a3⟩ := symbOps_sound h1 h hr
      exact ⟨.normal, st', by simp only [runCode, a1, Option.map_some], s', t', ρ', hk, a3, hd⟩
    · cases hs
  | .seq a b, rs, s, k, t, hs, ρ, st, out, h, hd => by
    simp only [symb] at hs
    obtain ⟨e, st1, h1, s1, t1, ρ1, h2, h3, h4⟩ := symb_sound a _ _ _ _ hs ρ st out h hd
    simp only at h2
    split at h2
    · obtain ⟨e2, st2, g1, g2⟩ := symb_sound b _ _ _ _ h2 ρ1 st1 out h3 h4
      exact ⟨e2, st2, by simp only [runCode, h1, g1], g2⟩
    · rename_i hne
      refine ⟨e, st1, ?_, s1, t1, ρ1, h2, h3, h4⟩
      simp only [runCode, h1]
      cases e <;> first | exact absurd rfl hne | rfl
  | .cond c a b, rs, s, k, t, hs, ρ, st, out, h, hd => by
    simp only [symb] at hs
    split at hs
    · rename_i e he
      have hc := (h.ex he).2
      split at hs
      · split at hs
        · rename_i ta tb tk h1 h2 h3
          simp only [Option.some.injEq] at hs
          subst hs
          simp only [den, joinJ] at hd
          have key : ∀ (x : ICode) (tx : T), (∀ (ρ : List DVal) (st : St) (out : Out), Corr { s with dep := s.dep + 1 } ρ st → den cp ci n tx ρ st.sto = some out → ∃ e st', runCode cp ci n x st = some (e, st') ∧ Leads cp ci n (joinAt (.cond c a b) s k) out e st') → runCode cp ci n (.cond c a b) st = runCode cp ci n x st →
              ∀ o, den cp ci n tx ρ st.sto = some o → (match some o with | some (.next i vs' σ') => if i = s.dep then den cp ci n tk (ρ ++ padFrom vs' 0 (numVals (.cond c a b) s)) σ' else some (.next i vs' σ') | r => r) = some out → ∃ e st', runCode cp ci n (.cond c a b) st = some (e, st') ∧ Leads cp ci n k out e st' := by
            intro x tx hx hrun o ho hd
            obtain ⟨e1, st1, g1, g2⟩ := hx ρ st o (h.dep _) ho
            rw [← hrun] at g1
            rcases joinAt_leads g2 with ⟨rfl, rfl, g3⟩ | ⟨g3, g4, g5⟩
            · simp only [if_true, padFrom_vals] at hd
              exact ⟨.normal, st1, g1, _, tk, _, h3, head_corr h (code_frame _ g1) g3 _, hd⟩
            · refine ⟨e1, st1, g1, ?_⟩
              cases o with
              | done v σ => simp only [Option.some.injEq] at hd; rw [← hd]; exact g5
              | next i vs τ =>
                have : i ≠ s.dep := fun e => g4 vs τ (by rw [e])
                simp only [this, if_false, Option.some.injEq] at hd
                rw [← hd]; exact g5
          simp only [iteJ] at hd
          rw [← hc] at hd
          split at hd
          all_goals rename_i heq
          · split at heq
            · rename_i hv
              exact key a ta (symb_sound a _ _ _ _ h1) (by simp only [runCode, hv]) _ heq (by simpa using hd)
            · rename_i hv
              exact key b tb (symb_sound b _ _ _ _ h2) (by simp only [runCode, hv]) _ heq (by simpa using hd)
            · cases heq
          · split at hd
            · rename_i hv
              exact key a ta (symb_sound a _ _ _ _ h1) (by simp only [runCode, hv]) out hd (by
                cases out with
                | done v σ => rfl
                | next i vs τ => exact absurd (by simp only [hv]; exact hd) (heq i vs τ))
            · rename_i hv
              exact key b tb (symb_sound b _ _ _ _ h2) (by simp only [runCode, hv]) out hd (by
                cases out with
                | done v σ => rfl
                | next i vs τ => exact absurd (by simp only [hv]; exact hd) (heq i vs τ))
            · cases hd
        · cases hs
      · split at hs
        · rename_i ta tb h1 h2
          simp only [Option.some.injEq] at hs
          subst hs
          simp only [den, iteJ] at hd
          rw [← hc] at hd
          split at hd
          · rename_i hv
            obtain ⟨e1, st1, g1, g2⟩ := symb_sound a _ _ _ _ h1 ρ st out h hd
            exact ⟨e1, st1, by simp only [runCode, hv, g1], g2⟩
          · rename_i hv
            obtain ⟨e1, st1, g1, g2⟩ := symb_sound b _ _ _ _ h2 ρ st out h hd
            exact ⟨e1, st1, by simp only [runCode, hv, g1], g2⟩
          · cases hd
        · cases hs
    · cases hs
  | .block id a, rs, s, k, t, hs, ρ, st, out, h, hd => by
    -- an end of the body is an end of the block
    have conv : ∀ (k0 : Exit → SS → Option T) (o : Out) (e1 : Exit) (st1 : St), runCode cp ci n a st = some (e1, st1) → Leads cp ci n (fun e s' => match e with | .exit i => if i = id then k0 .normal s' else k0 (.exit i) s' | e => k0 e s') o e1 st1 →
        ∃ e st', runCode cp ci n (.block id a) st = some (e, st') ∧ Leads cp ci n k0 o e st' := by
      intro k0 o e1 st1 g1 g2
      obtain ⟨s', t', ρ', g2, g3, g4⟩ := g2
      simp only at g2
      split at g2
      · rename_i i
        split at g2
        · rename_i hi
          exact ⟨.normal, st1, by simp only [runCode, g1, hi, if_true], s', t', ρ', g2, g3, g4⟩
        · rename_i hi
          exact ⟨.exit i, st1, by simp only [runCode, g1, hi, if_false], s', t', ρ', g2, g3, g4⟩
      · rename_i hne
        refine ⟨e1, st1, ?_, s', t', ρ', g2, g3, g4⟩
        simp only [runCode, g1]
        try (cases e1 <;> first | exact absurd rfl (hne _) | rfl)
    simp only [symb] at hs
    split at hs
    · split at hs
      · rename_i ta tk h1 h2
        simp only [Option.some.injEq] at hs
        subst hs
        simp only [den, joinJ] at hd
        have key : ∀ o, den cp ci n ta ρ st.sto = some o → (match some o with | some (.next i vs' σ') => if i = s.dep then den cp ci n tk (ρ ++ padFrom vs' 0 (numVals (.block id a) s)) σ' else some (.next i vs' σ') | r => r) = some out → ∃ e st', runCode cp ci n (.block id a) st = some (e, st') ∧ Leads cp ci n k out e st' := by
          intro o ho hd
          obtain ⟨e1, st1, g1, g2⟩ := symb_sound a _ _ _ _ h1 ρ st o (h.dep _) ho
          obtain ⟨e1, st1, g1, g2⟩ := conv _ o e1 st1 g1 g2
          rcases joinAt_leads g2 with ⟨rfl, rfl, g3⟩ | ⟨g3, g4, g5⟩
          · simp only [if_true, padFrom_vals] at hd
            exact ⟨.normal, st1, g1, _, tk, _, h2, head_corr h (code_frame _ g1) g3 _, hd⟩
          · refine ⟨e1, st1, g1, ?_⟩
            cases o with
            | done v σ => simp only [Option.some.injEq] at hd; rw [← hd]; exact g5
            | next i vs τ =>
              have : i ≠ s.dep := fun e => g4 vs τ (by rw [e])
              simp only [this, if_false, Option.some.injEq] at hd
              rw [← hd]; exact g5
        split at hd
        · rename_i heq
          exact key _ heq (by simpa using hd)
        · rename_i heq
          exact key out hd (by
            cases out with
            | done v σ => rfl
            | next i vs τ => exact absurd hd (heq i vs τ))
      · cases hs
    · obtain ⟨e1, st1, g1, g2⟩ := symb_sound a _ _ _ _ hs ρ st out h hd
      exact conv k out e1 st1 g1 g2
  | .loop a, rs, s, k, t, hs, ρ, st, out, h, hd => by
    simp only [symb] at hs
    split at hs
    · rename_i init hinit
      simp only [Option.map_eq_some_iff] at hs
      obtain ⟨body, hb, rfl⟩ := hs
      obtain ⟨i1, i2⟩ := nowVals_ok h hinit
      simp only [den] at hd
      have hlen : init.length = numVals a s := by rw [← valsOf_length (a := a) (s := s) (st := st), ← i1, List.length_map]
      rw [i1, hlen] at hd
      have aux : ∀ m st1, frCode a st st1 → PtrsOk a s st1 → iterJ s.dep (fun vs σ => den cp ci n body (ρ ++ padFrom vs 0 (numVals a s)) σ) m (valsOf a s st1) st1.sto = some out →
          ∃ e st', iter (runCode cp ci n a) m st1 = some (e, st') ∧ Leads cp ci n k out e st' := by
        intro m
        induction m with
        | zero => intro st1 _ _ hd; simp [iterJ] at hd
        | succ m ih =>
          intro st1 hf hp hd
          simp only [iterJ, padFrom_vals] at hd
          have hcorr := head_corr h hf hp (s.dep + 1)
          cases ho : den cp ci n body (ρ ++ valsOf a s st1) st1.sto with
          | none => rw [ho] at hd; simp at hd
          | some o =>
            rw [ho] at hd
            obtain ⟨e1, st2, g1, g2⟩ := symb_sound a _ _ _ _ hb _ st1 o hcorr ho
            rcases joinAt_leads g2 with ⟨rfl, rfl, g3⟩ | ⟨g3, g4, g5⟩
            · simp only [if_true] at hd
              obtain ⟨e3, st3, q1, q2⟩ := ih st2 (hf.trans (code_frame a g1)) g3 hd
              exact ⟨e3, st3, by simp only [iter, g1, q1], q2⟩
            · refine ⟨e1, st2, ?_, ?_⟩
              · simp only [iter, g1]
                cases e1 <;> first | exact absurd rfl g3 | rfl
              · cases o with
                | done v σ => simp only [Option.some.injEq] at hd; rw [← hd]; exact g5
                | next i vs τ =>
                  have : i ≠ s.dep := fun e => g4 vs τ (by rw [e])
                  simp only [this, if_false, Option.some.injEq] at hd
                  rw [← hd]; exact g5
      obtain ⟨e, st', g1, g2⟩ := aux n st (Fr.refl ..) i2 hd
      exact ⟨e, st', by simp only [runCode, g1], g2⟩
    · cases hs
theorem resTree_sound : ∀ {rs : List IRes} {s : SS} {es : List Ex} {t : T} {ρ : List DVal} {st : St} {out : Out}, resTree rs s es = some t → Corr s ρ st → (∀ e, e ∈ es → e.ok ρ.length = true) → den cp ci n t ρ st.sto = some out →
    ∃ vs d, out = .done d st.sto ∧ resEx (es.map (Ex.val ρ) ++ vs) = some d ∧ (rs.length = vs.length) ∧ ((es.map (Ex.val ρ) ++ vs).all DVal.okVal = true → resVals st rs = some vs)
  | [], s, es, t, ρ, st, out, hs, h, hok, hd => by
    simp only [resTree, Option.some.injEq] at hs
    subst hs
    simp only [den, retJ] at hd
    split at hd
    · rename_i d e
      simp only [Option.some.injEq] at hd
      exact ⟨[], d, hd.symm, by simpa using e, rfl, fun _ => rfl⟩
    · cases hd
  | .t i :: rs, s, es, t, ρ, st, out, hs, h, hok, hd => by
    simp only [resTree, Option.bind_eq_some_iff] at hs
    obtain ⟨e, he, hs⟩ := hs
    obtain ⟨a1, a2⟩ := h.ex he
    obtain ⟨vs, d, g1, g2, g3, g4⟩ := resTree_sound hs h (fun x hx => by
      simp only [List.mem_append, List.mem_singleton] at hx
      rcases hx with hx | rfl
      · exact hok x hx
      · exact a1) hd
    refine ⟨e.val ρ :: vs, d, g1, by simpa using g2, by simp [g3], fun hall => ?_⟩
    have hrest := g4 (by simpa using hall)
    have hv : DVal.okVal (e.val ρ) = true := by simp only [List.all_append, List.all_cons, Bool.and_eq_true] at hall; exact hall.2.1
    simp only [Opd.val] at a2
    simp only [resVals, IRes.val, hrest, a2, hv, if_true]
  | .cell r sz :: rs, s, es, t, ρ, st, out, hs, h, hok, hd => by
    simp only [resTree] at hs
    split at hs
    · rename_i q off c hp hc
      split at hs
      · rename_i hq
        subst hq
        simp only [Option.map_eq_some_iff] at hs
        obtain ⟨t', hs, rfl⟩ := hs
        simp only [den, bndP, guarded] at hd
        split at hd
        · rename_i v hv
          have hp' := h.ptr hp rfl
          obtain ⟨hcok, hc'⟩ := h.cont hc
          have hc' := hc' rfl
          have hmap : es.map (Ex.val (ρ ++ [v])) = es.map (Ex.val ρ) := List.map_congr_left fun x hx => (ok_append (hok x hx)).2
          obtain ⟨vs, d, g1, g2, g3, g4⟩ := resTree_sound (es := es ++ [.v s.nv]) hs (h.more (vs := [v]) rfl) (fun x hx => by
            simp only [List.mem_append, List.mem_singleton] at hx
            rcases hx with hx | rfl
            · exact (ok_append (hok x hx)).1
            · rw [← h.len]; exact v_ok) hd
          rw [List.map_append, hmap] at g2 g4
          have hlast : [Ex.v s.nv].map (Ex.val (ρ ++ [v])) = [v] := by rw [← h.len]; simp [v_last]
          rw [hlast] at g2 g4
          refine ⟨v :: vs, d, g1, by simpa using g2, by simp [g3], fun hall => ?_⟩
          have hrest := g4 (by simpa using hall)
          have hvok : DVal.okVal v = true := by simp only [List.all_append, List.all_cons, Bool.and_eq_true] at hall; exact hall.2.1
          have hrd : readLoc q sz (st.loc q) [st.env q] = some v := by
            simp only [Opd.val] at hp'
            simp only [JOp.sem, POp.sem, List.map_cons, List.map_nil, ← hc'] at hv
            unfold fldSem at hv
            split at hv
            · rename_i cs hcs
              simp only [List.cons.injEq, and_true] at hcs
              simp only [hp', readLoc, true_and, if_true, hcs, hv]
            · cases hv
          simp only [resVals, IRes.val, hrd, hrest, hvok, if_true]
        · cases hd
      · cases hs
    · cases hs
theorem resEx_sound {st : St} {rs : List IRes} {vs : List DVal} {d : DVal} (h1 : resEx vs = some d) (h2 : rs.length = vs.length) (h3 : vs.all DVal.okVal = true → resVals st rs = some vs) : resVal st rs = some d := by
  unfold resEx at h1
  split at h1
  · rename_i v
    split at h1
    · rename_i hok
      simp only [Option.some.injEq] at h1
      subst h1
      have := h3 (by simpa using hok)
      simp only [resVal, this]
    · cases h1
  · rename_i hne
    split at h1
    · rename_i hok
      simp only [Option.some.injEq] at h1
      subst h1
      have := h3 hok
      unfold resVal
      rw [this]
      split
      · rename_i v e; exact absurd (Option.some.inj e) (hne v)
      · rename_i us _ e; rw [Option.some.inj e]
      · rename_i e; cases e
    · cases h1
theorem parEnv_mem : ∀ {n t : Nat} {sv : SV}, (t, sv) ∈ parEnv n → t < n ∧ sv = .ex (.v t)
  | 0, t, sv, h => by simp [parEnv] at h
  | n + 1, t, sv, h => by
    simp only [parEnv, List.mem_cons, Prod.mk.injEq] at h
    rcases h with ⟨rfl, rfl⟩ | h
    · exact ⟨by omega, rfl⟩
    · have := parEnv_mem h; exact ⟨by omega, this.2⟩
theorem symbFun_sound {F : IFunc} {t : T} {args : List DVal} {σ σ' : Sto} {v : DVal} (hs : symbFun F = some t) (hlen : args.length = F.npar) (hd : den cp ci n t args σ = some (.done v σ')) : runFun cp ci n F args σ = some (v, σ') := by
  have h0 : Corr { env := parEnv F.npar, loc := [], nv := F.npar, dep := 0 } args (enter args σ) := by
    refine ⟨hlen, fun t sv hm => ?_, fun r e g hm => by simp at hm⟩
    obtain ⟨h1, rfl⟩ := parEnv_mem hm
    exact ⟨by simp [Ex.ok, Nat.blt_eq, hlen, h1], rfl⟩
  obtain ⟨e, st', g1, s', t', ρ', g2, g3, g4⟩ := symb_sound (cp := cp) (ci := ci) (n := n) _ _ _ _ _ hs args (enter args σ) _ h0 hd
  have fin : resTree F.res s' [] = some t' → (resVal st' F.res).map (fun v => (v, st'.sto)) = some (v, σ') := by
    intro hr
    obtain ⟨vs, d, a1, a2, a3, a4⟩ := resTree_sound hr g3 (by simp) g4
    simp only [List.map_nil, List.nil_append] at a2 a4
    simp only [Out.done.injEq] at a1
    obtain ⟨rfl, rfl⟩ := a1
    rw [resEx_sound a2 a3 a4]
    rfl
  unfold runFun
  rw [if_pos hlen, g1]
  simp only at g2
  split at g2
  · exact fin g2
  · exact fin g2
  · cases g2
end
end Go.Proofs.YtagkgekpfgepoaaDoor
namespace Go.Proofs.YtagkgekpfgepoaaDoor
set_option linter.unusedVariables false
set_option linter.unusedSimpArgs false
open Go Go.RowKit
def Sto.setO (σ : Sto) (o : Nat → Nat) : Sto := { σ with ora := o }
def St.setO (st : St) (o : Nat → Nat) : St := { st with sto := st.sto.setO o }
def setO2 (o : Nat → Nat) (x : DVal × Sto) : DVal × Sto := (x.1, x.2.setO o)
def OraOk (ci : Nat → List DVal → Sto → Option (DVal × Sto)) : Prop := ∀ f xs σ o, ci f xs (σ.setO o) = (ci f xs σ).map (setO2 o)
def splice (k : Nat) (o o2 : Nat → Nat) : Nat → Nat := fun i => if i < k then o i else o2 (i - k)
def dropO (k : Nat) (o : Nat → Nat) : Nat → Nat := fun i => o (i + k)
theorem splice_zero (o o2 : Nat → Nat) : splice 0 o o2 = o2 := by funext i; simp [splice]
theorem splice_add (k m : Nat) (o o2 : Nat → Nat) : splice (k + m) o o2 = splice k o (splice m (dropO k o) o2) := by
  funext i
  simp only [splice, dropO]
  by_cases h1 : i < k
  · rw [if_pos (by omega), if_pos h1]
  · rw [if_neg h1]
    by_cases h2 : i - k < m
    · rw [if_pos (by omega), if_pos h2, Nat.sub_add_cancel (by omega)]
    · rw [if_neg (by omega), if_neg h2, Nat.sub_add_eq]
theorem dropO_add (k m : Nat) (o : Nat → Nat) : dropO m (dropO k o) = dropO (k + m) o := by
  funext i; simp only [dropO]; congr 1; omega
theorem setO_setO (st : St) (o p : Nat → Nat) : (st.setO o).setO p = st.setO p := rfl
theorem setO_self (st : St) : st.setO st.sto.ora = st := rfl
theorem setO_ora (st : St) (o : Nat → Nat) : (st.setO o).sto.ora = o := rfl
section
variable {P : Program} {Gl : List (Nat × Nat × Option Value)} {h : Hint} {cp : Nat → List DVal → Option DVal} {ci : Nat → List DVal → Sto → Option (DVal × Sto)} {V0 : Vw} {w0 : World} {nt : Nat}
theorem snapCell_ora (σ : Sto) (o : Nat → Nat) (v : DVal) : v.snapCell (σ.setO o) = v.snapCell σ := by cases v <;> rfl
theorem snapCells_ora (σ : Sto) (o : Nat → Nat) : ∀ vs : List DVal, snapCells (σ.setO o) vs = snapCells σ vs
  | [] => rfl
  | v :: vs => by simp only [snapCells, snapCell_ora, snapCells_ora σ o vs]
theorem snapVal_ora (σ : Sto) (o : Nat → Nat) (v : DVal) : v.snapVal (σ.setO o) = v.snapVal σ := by
  cases v <;> simp only [DVal.snapVal, snapCell_ora, snapCells_ora]
theorem snapVals_ora (σ : Sto) (o : Nat → Nat) : ∀ vs : List DVal, snapVals (σ.setO o) vs = snapVals σ vs
  | [] => rfl
  | v :: vs => by simp only [snapVals, snapVal_ora, snapVals_ora σ o vs]
theorem elemsM_ora (σ : Sto) (o : Nat → Nat) (v : DVal) : elemsM (σ.setO o) v = elemsM σ v := by cases v <;> rfl
theorem tightOf_ora (σ : Sto) (o : Nat → Nat) (sz : Nat) (v : DVal) : tightOf (σ.setO o) sz v = tightOf σ sz v := by cases v <;> rfl
theorem import_ora (σ : Sto) (o : Nat → Nat) (v : DVal) : importVal (σ.setO o) v = setO2 o (importVal σ v) := by
  unfold importVal; split <;> rfl
theorem appSem_ora (σ : Sto) (o : Nat → Nat) (pt : Bool) (sz : Nat) (s x : DVal) : appSem pt sz (σ.setO o) s x = (appSem pt sz σ s x).map (setO2 o) := by
  unfold appSem
  rw [elemsM_ora]
  generalize elemsM σ x = E
  cases σ
  simp only [Sto.setO]
  repeat' split
  all_goals try simp only [*, and_self, and_true, true_and, not_true_eq_false, not_false_eq_true, if_true, if_false, Bool.false_eq_true, Option.map_none]
  all_goals repeat' split
  all_goals first
    | rfl
    | (simp only [Option.map_map]; rfl)
    | (simp_all [setO2, Sto.setO]; done)
theorem appM_ora (σ : Sto) (o : Nat → Nat) (sz : Nat) (xs : List DVal) : appMSem sz (σ.setO o) xs = (appMSem sz σ xs).map (setO2 o) := by
  unfold appMSem
  split
  · rename_i s x
    rw [elemsM_ora, tightOf_ora]
    generalize elemsM σ x = E
    generalize tightOf σ sz s = T
    cases σ
    simp only [Sto.setO]
    repeat' split
    all_goals try simp only [*, and_self, and_true, true_and, not_true_eq_false, not_false_eq_true, if_true, if_false, Bool.false_eq_true, Option.map_none]
    all_goals repeat' split
    all_goals first
      | rfl
      | (simp only [Option.map_map]; rfl)
      | (simp_all [setO2, Sto.setO]; done)
  · rfl
theorem SOp.ora (hci : OraOk ci) {so : SOp} (hd : ∀ b, (IOp.s b so).det = true) (σ : Sto) (o : Nat → Nat) (xs : List DVal) : so.sem cp ci (σ.setO o) xs = (so.sem cp ci σ xs).map (setO2 o) := by
  cases so with
  | app pt sz =>
    simp only [SOp.sem, app2Sem]
    split
    · exact appSem_ora ..
    · rfl
  | callF f =>
    simp only [SOp.sem]
    cases sealVals xs with
    | none => rfl
    | some ys =>
      simp only [Option.bind_some, Option.map_map]
      congr 1
      funext v
      exact import_ora σ o v
  | callI f =>
    simp only [SOp.sem]
    split
    · exact hci ..
    · rfl
  | callV =>
    simp only [SOp.sem, callVSem]
    split
    · split
      · exact hci ..
      · rfl
    · rfl
  | callS f =>
    simp only [SOp.sem, callSSem, snapVals_ora]
    cases snapVals σ xs with
    | none => rfl
    | some ys =>
      simp only [Option.bind_some]
      cases cp f ys with
      | none => rfl
      | some r =>
        simp only [Option.bind_some]
        unfold snapRes
        split
        · split
          · simp only [import_ora, Option.map_some]
          · rfl
        · split <;> rfl
  | appM sz => exact appM_ora σ o sz xs
  | appX sz =>
    simp only [SOp.sem]
    unfold appXSem
    split
    · cases σ
      simp only [Sto.setO]
      repeat' split
      all_goals try simp only [*, and_self, and_true, true_and, not_true_eq_false, not_false_eq_true, if_true, if_false, Bool.false_eq_true, Option.map_none]
      all_goals repeat' split
      all_goals first
        | rfl
        | (simp only [Option.map_map]; rfl)
        | (simp_all [setO2, Sto.setO]; done)
    · exact appM_ora σ o sz xs
  | nextM => have := hd true; simp [IOp.det] at this
  | _ =>
    cases σ
    simp only [SOp.sem, ldOSem, stOSem, boxOSem, allocOSem, makeSem, mkmapSem, lookSem, mupdSem, mdelSem, lenMSem, rngMSem, entMSem, Sto.setO]
    repeat' split
    all_goals try simp only [*, and_self, and_true, true_and, not_true_eq_false, not_false_eq_true, if_true, if_false, Bool.false_eq_true, Option.map_none]
    all_goals repeat' split
    all_goals first
      | rfl
      | (simp only [Option.map_map]; rfl)
      | (simp_all [setO2, Sto.setO]; done)
theorem exec_det (hci : OraOk ci) {dst : Option Nat} {iop : IOp} (hd : iop.det = true) (xs : List Opd) (st : St) (o : Nat → Nat) : execOp' cp ci dst iop xs (st.setO o) = (execOp' cp ci dst iop xs st).map (·.setO o) := by
  cases iop with
  | p po =>
    simp only [execOp', Option.map_map]
    congr 1
    funext v
    cases dst <;> rfl
  | lr r sz =>
    simp only [execOp', Option.map_map]
    congr 1
    funext v
    cases dst <;> rfl
  | lw r lo =>
    simp only [execOp', Option.map_map]
    congr 1
    funext v
    cases dst <;> rfl
  | s b so =>
    have hd' : ∀ b', (IOp.s b' so).det = true := fun b' => by cases so <;> first | rfl | simp [IOp.det] at hd
    show (so.sem cp ci (st.sto.setO o) (xs.map (Opd.val st.env))).map _ = _
    rw [SOp.ora hci hd']
    simp only [execOp', Option.map_map]
    congr 1
    funext v
    cases dst <;> rfl
theorem stepOp_det (hci : OraOk ci) {io : IOper} (hd : io.op.det = true) (st : St) (o : Nat → Nat) : stepOp cp ci io (st.setO o) = (stepOp cp ci io st).map (·.setO o) := by
  unfold stepOp
  split
  · exact exec_det hci hd _ st o
  · show (if (st.env _).isB _ then _ else _) = _
    split
    · exact exec_det hci hd _ st o
    · cases io.dst <;> rfl
def PreS (f : St → Option St) : Prop := ∀ st s, f st = some s → ∃ k, s.sto.ora = dropO k st.sto.ora ∧ ∀ o2, f (st.setO (splice k st.sto.ora o2)) = some (s.setO o2)
def PreC (f : St → Option (Exit × St)) : Prop := ∀ st e s, f st = some (e, s) → ∃ k, s.sto.ora = dropO k st.sto.ora ∧ ∀ o2, f (st.setO (splice k st.sto.ora o2)) = some (e, s.setO o2)
theorem PreS.det {f : St → Option St} (h : ∀ st o, f (st.setO o) = (f st).map (·.setO o)) : PreS f := by
  intro st s hs
  refine ⟨0, ?_, fun o2 => ?_⟩
  · have := h st st.sto.ora
    rw [setO_self, hs] at this
    simp only [Option.map_some, Option.some.injEq] at this
    rw [this]; rfl
  · rw [splice_zero, h, hs]; rfl
theorem next_pre (σ σ' : Sto) (xs : List DVal) (d : DVal) (hs : nextMSem σ xs = some (d, σ')) : ∃ k, σ'.ora = dropO k σ.ora ∧ ∀ o2, nextMSem (σ.setO (splice k σ.ora o2)) xs = some (d, σ'.setO o2) := by
  unfold nextMSem at hs
  split at hs
  · rename_i id
    split at hs
    · rename_i hlt
      have hlt' : ∀ o, id < (σ.setO o).nobj := fun _ => hlt
      split at hs
      · rename_i hc
        simp only [Option.some.injEq, Prod.mk.injEq] at hs
        obtain ⟨rfl, rfl⟩ := hs
        refine ⟨0, rfl, fun o2 => ?_⟩
        have hc' : ∀ o, (σ.setO o).obj id = .nilm := fun _ => hc
        rw [splice_zero]
        unfold nextMSem
        simp only [hlt', hc', if_true]
        rfl
      · rename_i m cur rest all hc
        have hc' : ∀ o, (σ.setO o).obj id = .func m [cur, .tup rest, .tup all] := fun _ => hc
        split at hs
        · simp only [Option.some.injEq, Prod.mk.injEq] at hs
          obtain ⟨rfl, rfl⟩ := hs
          refine ⟨0, rfl, fun o2 => ?_⟩
          rw [splice_zero]
          unfold nextMSem
          simp only [hlt', hc', if_true]
          rfl
        · rename_i hne
          split at hs
          · rename_i k v hg
            simp only [Option.some.injEq, Prod.mk.injEq] at hs
            obtain ⟨rfl, rfl⟩ := hs
            refine ⟨1, rfl, fun o2 => ?_⟩
            have h0 : (σ.setO (splice 1 σ.ora o2)).ora 0 = σ.ora 0 := rfl
            unfold nextMSem
            cases rest with
            | nil => exact (hne rfl).elim
            | cons r rs =>
              simp only [hlt', hc', if_true, h0, hg]
              rfl
          · cases hs
      · cases hs
    · cases hs
  · cases hs
theorem stepOp_pre (hci : OraOk ci) (io : IOper) : PreS (stepOp cp ci io) := by
  by_cases hd : io.op.det = true
  · exact .det (stepOp_det hci hd)
  · intro st s hs
    have key : ∀ s, execOp' cp ci io.dst io.op io.xs st = some s → ∃ k, s.sto.ora = dropO k st.sto.ora ∧ ∀ o2, execOp' cp ci io.dst io.op io.xs (st.setO (splice k st.sto.ora o2)) = some (s.setO o2) := by
      intro s hs
      obtain ⟨dst, iop, xs, g⟩ := io
      cases iop with
      | s b so =>
        cases so <;> first | exact absurd rfl hd | skip
        simp only [execOp', SOp.sem, Option.map_eq_some_iff] at hs ⊢
        obtain ⟨⟨d, σ'⟩, h1, rfl⟩ := hs
        obtain ⟨k, h2, h3⟩ := next_pre _ _ _ _ h1
        refine ⟨k, by cases dst <;> exact h2, fun o2 => ⟨(d, σ'.setO o2), h3 o2, by cases dst <;> rfl⟩⟩
      | _ => exact absurd rfl hd
    obtain ⟨dst, iop, xs, gd⟩ := io
    cases gd with
    | none => exact key s hs
    | some p =>
      obtain ⟨g, b⟩ := p
      have hs : (if (st.env g).isB b then execOp' cp ci dst iop xs st else some (st.put dst .undef)) = some s := hs
      by_cases hb : (st.env g).isB b = true
      · rw [if_pos hb] at hs
        obtain ⟨k, h1, h2⟩ := key s hs
        refine ⟨k, h1, fun o2 => ?_⟩
        show (if (st.env g).isB b then execOp' cp ci dst iop xs _ else _) = _
        rw [if_pos hb]
        exact h2 o2
      · rw [if_neg hb] at hs
        simp only [Option.some.injEq] at hs
        subst hs
        refine ⟨0, by cases dst <;> rfl, fun o2 => ?_⟩
        rw [splice_zero]
        show (if (st.env g).isB b then execOp' cp ci dst iop xs _ else _) = _
        rw [if_neg hb]
        cases dst <;> rfl
theorem PreS.comp {f g : St → Option St} (hf : PreS f) (hg : PreS g) : PreS fun st => (f st).bind g := by
  intro st s hs
  simp only [Option.bind_eq_some_iff] at hs
  obtain ⟨s1, h1, h2⟩ := hs
  obtain ⟨k, a1, a2⟩ := hf st s1 h1
  obtain ⟨m, b1, b2⟩ := hg s1 s h2
  refine ⟨k + m, by rw [b1, a1, dropO_add], fun o2 => ?_⟩
  show (f _).bind g = _
  rw [splice_add, ← a1, a2, Option.bind_some]
  exact b2 o2
theorem runOps_pre (hci : OraOk ci) : ∀ ios : List IOper, PreS (runOps cp ci ios)
  | [] => fun st s hs => by
    simp only [runOps, Option.some.injEq] at hs
    subst hs
    exact ⟨0, rfl, fun o2 => by rw [splice_zero]; rfl⟩
  | io :: ios => (stepOp_pre hci io).comp (runOps_pre hci ios)
theorem iter_pre {f : St → Option (Exit × St)} (hf : PreC f) : ∀ n, PreC (iter f n)
  | 0 => fun st e s hs => by simp [iter] at hs
  | n + 1 => fun st e s hs => by
    simp only [iter] at hs
    split at hs
    · rename_i s1 h1
      obtain ⟨k, a1, a2⟩ := hf st _ s1 h1
      obtain ⟨m, b1, b2⟩ := iter_pre hf n s1 e s hs
      refine ⟨k + m, by rw [b1, a1, dropO_add], fun o2 => ?_⟩
      simp only [iter]
      rw [splice_add, ← a1, a2]
      exact b2 o2
    · rename_i hn
      obtain ⟨k, a1, a2⟩ := hf st e s hs
      refine ⟨k, a1, fun o2 => ?_⟩
      simp only [iter]
      rw [a2]
      have : e ≠ .normal := fun he => hn s (by rw [← he]; exact hs)
      cases e <;> first | exact absurd rfl this | rfl
theorem runCode_pre (hci : OraOk ci) {n : Nat} : ∀ ic : ICode, PreC (runCode cp ci n ic)
  | .skip => fun st e s hs => by
    simp only [runCode, Option.some.injEq, Prod.mk.injEq] at hs
    obtain ⟨rfl, rfl⟩ := hs
    exact ⟨0, rfl, fun o2 => by rw [splice_zero]; rfl⟩
  | .ret => fun st e s hs => by
    simp only [runCode, Option.some.injEq, Prod.mk.injEq] at hs
    obtain ⟨rfl, rfl⟩ := hs
    exact ⟨0, rfl, fun o2 => by rw [splice_zero]; rfl⟩
  | .exit id => fun st e s hs => by
    simp only [runCode, Option.some.injEq, Prod.mk.injEq] at hs
    obtain ⟨rfl, rfl⟩ := hs
    exact ⟨0, rfl, fun o2 => by rw [splice_zero]; rfl⟩
  | .reg ops => fun st e s hs => by
    simp only [runCode, Option.map_eq_some_iff, Prod.mk.injEq] at hs
    obtain ⟨s1, h1, rfl, rfl⟩ := hs
    obtain ⟨k, a1, a2⟩ := runOps_pre hci ops st s1 h1
    exact ⟨k, a1, fun o2 => by simp only [runCode, a2, Option.map_some]⟩
  | .seq a b => fun st e s hs => by
    simp only [runCode] at hs
    split at hs
    · rename_i s1 h1
      obtain ⟨k, a1, a2⟩ := runCode_pre hci a st _ s1 h1
      obtain ⟨m, b1, b2⟩ := runCode_pre hci b s1 e s hs
      refine ⟨k + m, by rw [b1, a1, dropO_add], fun o2 => ?_⟩
      simp only [runCode]
      rw [splice_add, ← a1, a2]
      exact b2 o2
    · rename_i hn
      obtain ⟨k, a1, a2⟩ := runCode_pre hci a st e s hs
      refine ⟨k, a1, fun o2 => ?_⟩
      simp only [runCode]
      rw [a2]
      have : e ≠ .normal := fun he => hn s (by rw [← he]; exact hs)
      cases e <;> first | exact absurd rfl this | rfl
  | .cond c a b => fun st e s hs => by
    simp only [runCode] at hs ⊢
    have hv : ∀ o, c.val (st.setO o).env = c.val st.env := fun _ => rfl
    simp only [hv]
    split at hs
    · rename_i hc
      exact runCode_pre hci a st e s hs
    · rename_i hc
      exact runCode_pre hci b st e s hs
    · cases hs
  | .block id a => fun st e s hs => by
    simp only [runCode] at hs
    split at hs
    · rename_i i s1 h1
      obtain ⟨k, a1, a2⟩ := runCode_pre hci a st _ s1 h1
      split at hs
      · rename_i hi
        simp only [Option.some.injEq, Prod.mk.injEq] at hs
        obtain ⟨rfl, rfl⟩ := hs
        exact ⟨k, a1, fun o2 => by simp only [runCode]; rw [a2]; simp only [hi, if_true]⟩
      · rename_i hi
        simp only [Option.some.injEq, Prod.mk.injEq] at hs
        obtain ⟨rfl, rfl⟩ := hs
        exact ⟨k, a1, fun o2 => by simp only [runCode]; rw [a2]; simp only [hi, if_false]⟩
    · rename_i hn
      obtain ⟨k, a1, a2⟩ := runCode_pre hci a st e s hs
      refine ⟨k, a1, fun o2 => ?_⟩
      simp only [runCode]
      rw [a2]
      cases e with
      | exit i => exact absurd hs (hn i s)
      | _ => rfl
  | .loop a => fun st e s hs => by
    simp only [runCode] at hs ⊢
    exact iter_pre (runCode_pre hci a) n st e s hs
theorem filter_erase {e : MapEntry} : ∀ {l : List MapEntry} {i : Nat}, (l.map (·.born)).Nodup → l[i]? = some e → l.filter (fun x => x.born != e.born) = l.eraseIdx i
  | [], i, _, h => by simp at h
  | y :: l, 0, hn, h => by
    simp only [List.getElem?_cons_zero, Option.some.injEq] at h
    subst h
    simp only [List.map_cons, List.nodup_cons] at hn
    simp only [List.eraseIdx_cons_zero]
    rw [List.filter_cons_of_neg (by simp)]
    refine List.filter_eq_self.2 fun x hx => ?_
    have : x.born ≠ y.born := fun hh => hn.1 (by rw [← hh]; exact List.mem_map.2 ⟨x, hx, rfl⟩)
    simpa using this
  | y :: l, i + 1, hn, h => by
    simp only [List.getElem?_cons_succ] at h
    simp only [List.map_cons, List.nodup_cons] at hn
    have hne : y.born ≠ e.born := fun hh => hn.1 (by rw [hh]; exact List.mem_map.2 ⟨e, List.mem_of_getElem? h, rfl⟩)
    rw [List.filter_cons_of_pos (by simpa using hne), filter_erase hn.2 h]
    rfl
theorem leftOf_push {ms : Array MapEntry} {seen : Array Nat} {e : MapEntry} {i : Nat} (hn : (ms.toList.map (·.born)).Nodup) (h : (leftOf ms seen).toList[i]? = some e) : (leftOf ms (seen.push e.born)).toList = (leftOf ms seen).toList.eraseIdx i := by
  have h1 : (leftOf ms (seen.push e.born)).toList = (leftOf ms seen).toList.filter (fun x => x.born != e.born) := by
    simp only [leftOf, Array.toList_filter, List.filter_filter]
    congr 1
    funext x
    simp only [Array.contains_push, Bool.not_or]
    rw [Bool.and_comm]
    rfl
  rw [h1]
  refine filter_erase ?_ h
  simp only [leftOf, Array.toList_filter]
  exact ((List.filter_sublist).map _).nodup hn
theorem nextM_sound {V : Vw} {w : World} {L : Nat → Nat × DVal} {σ : Sto} {env : Nat → DVal} {a : Act} {o : Oper} (hi : Inv V L σ w) (he : EnvRel V w env a.tmps) {x : Operand} {q : Opd} (ho : o.op = .next x false) (hq : opd x = some q) {y : DVal × Sto} (hs : nextMSem σ [q.val env] = some y) :
    OpWp P o a w fun v w' => ∃ j d σ', nextMSem (σ.setO j) [q.val env] = some (d, σ') ∧ Res V w L σ' d v w' := by
  have h1 := opd_rel (a := a) he hq
  generalize q.val env = x' at h1 hs
  have hs0 := hs
  unfold nextMSem at hs
  split at hs
  · rename_i id e'
    simp only [List.cons.injEq, and_true] at e'
    subst e'
    simp only [VRel] at h1
    obtain ⟨-, h0, hv⟩ := h1
    have hobj := (hi.obj id h0).2
    split at hs
    · rename_i hlt
      split at hs
      · rename_i hc
        rw [hc] at hobj
        obtain ⟨s, seen, c, hheap⟩ := hobj
        have hrun : (Instr.next (.pointer (some ⟨V.phi id, 0, none⟩)) false o.type).run P w = .ok (.tuple #[.bool false]) w := by
          simp only [Instr.next, getObj, Sem.run_bind, Sem.run, hheap, Result.andThen]
          rfl
        simp only [Option.some.injEq] at hs
        subst hs
        refine OpWp.value (v := .tuple #[.bool false]) (w' := w) (by simp [execOp, ho, hv, hrun]) ⟨σ.ora, _, _, hs0, V, .refl V w, hi.kill id (by rw [hc]; simp), ?_⟩
        simp only [VRel]
        exact ⟨_, rfl, _, _, rfl, rfl, by simp only [VRels]⟩
      · rename_i m cur rest all hc
        have hm := hi.hid id m _ h0 hc
        have htag := (hi.obj id h0).1 (by rw [hc]; simp)
        have hmid : m ≠ id := fun e => by rw [e, hc] at hm; cases hm
        have hobj0 := hobj
        rw [hc] at hobj
        unfold ObjRel at hobj
        simp only at hobj
        obtain ⟨g0, g1, ms, clock, since, seen, c0, rest', all', g3, g4, g5, g6, g7, g8, g9, g10, g11, g12, g13⟩ := hobj
        have hlen : (leftOf ms seen).size = rest.length := by
          have := g12.length
          rw [← g11.length_eq] at this
          simpa using this
        have hmt : V.phi m ≠ V.phi id := fun e => by rw [e, htag] at g1; simp at g1; exact hmid g1.symm
        rcases run_next_at (P := P) w o.type (V.phi id) (V.phi m) since c0 seen ms clock g4 g3 g6 g7 with ⟨k1, k2⟩ | ⟨e, k1, w1, k2, k3⟩
        · -- nothing is left
          have hr : rest = [] := List.eq_nil_of_length_eq_zero (by omega)
          subst hr
          simp only [Option.some.injEq] at hs
          subst hs
          refine OpWp.value (v := .tuple #[.bool false]) (w' := w) (by simp [execOp, ho, hv, k2]) ⟨σ.ora, _, _, hs0, V, .refl V w, hi.wake h0 hc, ?_⟩
          simp only [VRel]
          exact ⟨_, rfl, _, _, rfl, rfl, by simp only [VRels]⟩
        · -- an entry comes
          obtain ⟨i, hil⟩ := List.mem_iff_getElem?.1 k1
          have hib : i < rest'.length := by
            have := (List.getElem?_eq_some_iff.1 hil).1
            rw [g12.length] at this
            exact this
          obtain ⟨k, v, m2, e1, e2, e3, e4, e5⟩ := g12.get (List.getElem?_eq_getElem hib)
          rw [hil] at e2
          simp only [Option.some.injEq] at e2
          subst e2
          have hi2 : rest'[i]? = some (.tup [k, v]) := by rw [List.getElem?_eq_getElem hib, e1]
          obtain ⟨j, hj⟩ := List.mem_iff_getElem?.1 (g11.symm.subset (List.mem_of_getElem? hi2))
          have hjb := (List.getElem?_eq_some_iff.1 hj).1
          have hjm : j % rest.length = j := Nat.mod_eq_of_lt hjb
          have hnext : nextMSem (σ.setO fun _ => j) [.obj id 0] = some (.tup [.bool true, k, v], { σ with obj := upd σ.obj id (.func m [.tup [k, v], .tup (rest.eraseIdx j), .tup all]), ora := fun _ => j }) := by
            have hc' : (σ.setO fun _ => j).obj id = .func m [cur, .tup rest, .tup all] := hc
            have hlt' : id < (σ.setO fun _ => j).nobj := hlt
            have hora : (σ.setO fun _ => j).ora 0 = j := rfl
            unfold nextMSem
            cases rest with
            | nil => simp at hjb
            | cons r rs =>
              simp only [hlt', hc', if_true, hora, hjm, hj]
              rfl
          have hw1 : w1.heap = w.heap ∧ w1.os = w.os ∧ w1.tape = w.tape ∧ w1.output = w.output := by
            rcases k2 with rfl | rfl
            · exact ⟨rfl, rfl, rfl, rfl⟩
            · exact ⟨rfl, rfl, rfl, rfl⟩
          obtain ⟨ha1, hi1⟩ := hi.drew hw1.1 hw1.2.1 hw1.2.2.1 hw1.2.2.2
          have hup : Upd1 w1 (ChangeMaps.setBlock w1 (V.phi id) (.mapIter (some (V.phi m)) since (seen.push e.born) clock)) (V.phi id) := Upd1.setMap _
          have g4' : w1.heap[V.phi id]? = some (.mapIter (some (V.phi m)) since seen c0) := by rw [hw1.1]; exact g4
          have hsame : SameSz w1 (ChangeMaps.setBlock w1 (V.phi id) (.mapIter (some (V.phi m)) since (seen.push e.born) clock)) (V.phi id) := SameSz.noCells g4' (by intro c el f hh; cases hh)
          have ha2 := hi1.atBlock (.inr (by rw [htag])) hup hsame
          have hb := hobj0.lt
          have hfin := ha1.trans ha2
          have hor : ObjRel V (ChangeMaps.setBlock w1 (V.phi id) (.mapIter (some (V.phi m)) since (seen.push e.born) clock)) (.func m [.tup [k, v], .tup (rest.eraseIdx j), .tup all]) (V.phi id) := by
            unfold ObjRel
            simp only
            refine ⟨g0, g1, ms, clock, since, seen.push e.born, clock, rest'.eraseIdx i, all', ?_, ?_, g5, g6, g8, g8, g9, g10.ext hfin.ei hfin.er, perm_erase g11 hj hi2, ?_, .inr ⟨e, seen, k, v, rfl, (mem_left k1).1, rfl, rfl, e3, VRel.ext hfin.ei _ _ _ (fun e => by omega) (fun e => by omega) e4, VRel.ext hfin.ei _ _ _ (fun _ => hfin.er) (fun e => by omega) e5⟩⟩
            · rw [hup.other _ hmt, hw1.1]; exact g3
            · simp [ChangeMaps.setBlock, hw1.1, hb]
            · rw [leftOf_push g5.2.1 hil]
              exact (g12.ext hfin.ei hfin.er).erase
          obtain ⟨ha3, hi3⟩ := hi1.setObj h0 (by rw [hc]; simp) hup hsame (d := .func m [.tup [k, v], .tup (rest.eraseIdx j), .tup all]) hor (fun m' c hh => by simp only [DVal.func.injEq] at hh; rw [← hh.1]; exact hm)
          refine OpWp.value (v := .tuple #[.bool true, e.key, e.val]) (w' := ChangeMaps.setBlock w1 (V.phi id) (.mapIter (some (V.phi m)) since (seen.push e.born) clock)) (by simp [execOp, ho, hv, k3]) ⟨_, _, _, hnext, V, ha1.trans ha3, ?_, ?_⟩
          · exact { hi3 with }
          · have hk1 := VRel.ext hfin.ei _ _ _ (fun e => by omega) (fun e => by omega) e4
            have hk2 := VRel.ext hfin.ei _ _ _ (fun _ => hfin.er) (fun e => by omega) e5
            simp only [VRel]
            exact ⟨_, rfl, _, _, rfl, rfl, _, _, rfl, hk1.open', _, _, rfl, hk2.open', by simp only [VRels]⟩
      · cases hs
    · cases hs
  · cases hs
theorem compBin_det {op : BinOp} {t : TypeId} {x y : Operand} {iop : IOp} {xs : List Opd} (hc : compBin P op t x y = some (iop, xs)) : ∃ po, iop = .p po := by
  have ht : ∀ {f : POp}, two x y (.p f) = some (iop, xs) → ∃ po, iop = .p po := fun h => by
    obtain ⟨_, _, _, _, h, _⟩ := two_inv h
    exact ⟨_, h⟩
  unfold compBin at hc
  repeat' split at hc
  all_goals first
    | exact ht hc
    | (cases hc; done)
    | (obtain ⟨_, _, h⟩ := Option.bind_eq_some_iff.1 hc; exact ht h)
    | (obtain ⟨_, _, h, _⟩ := one_inv hc; exact ⟨_, h⟩)
theorem compOp_det {dst : Option Nat} {op : Go.Op} {iop : IOp} {xs : List Opd} (hc : compOp P h dst op = some (iop, xs)) (hn : ∀ x, op ≠ .next x false) : iop.det = true := by
  by_cases hd : iop.det = true
  · exact hd
  · exfalso
    have hcl : ∃ b, iop = .s b .nextM := by
      cases iop with
      | s b so => cases so <;> first | exact ⟨b, rfl⟩ | exact absurd rfl hd
      | _ => exact absurd rfl hd
    obtain ⟨b, rfl⟩ := hcl
    clear hd
    unfold compOp at hc
    simp only [one, two] at hc
    repeat' split at hc
    all_goals first
      | exact absurd rfl (hn _)
      | (simp at hc; done)
      | (obtain ⟨po, hpo⟩ := compBin_det hc; cases hpo)
theorem step_soundR (hcp : ∀ f, PureOk P Gl f (cp f)) (hci : ∀ f, ImpOk P Gl f (ci f)) (hor : OraOk ci) (hG : HasG Gl V0.imm w0) {ops : Array Oper} {Q : Exit → Act → World → Prop} {o : Oper} {io : IOper} {st : St} {a : Act} {w : World} {K : Act → World → Prop} {i : Nat}
    (hgd : io.op.det = true ∨ io.guard = none) (ho : ops[i]? = some o) (hc : compOper P h nt ops.toList o = some io) (hs : ∀ q, ∃ s, stepOp cp ci io (st.setO q) = some s) (hg : Good V0 w0 nt st a w)
    (hK : ∀ q s a' w', stepOp cp ci io (st.setO q) = some s → Good V0 w0 nt s a' w' → K a' w') : wpOp P ops Q i K a w := by
  by_cases hd : io.op.det = true
  · obtain ⟨s, h1⟩ := hs st.sto.ora
    exact step_sound hcp hci hG (.inr hd) ho hc h1 hg fun a' w' hg' => hK _ _ _ _ h1 hg'
  · have hgn := hgd.resolve_left hd
    obtain ⟨V, hadv, hi, he, hn, hf⟩ := hg
    unfold compOper at hc
    split at hc
    · rename_i g h2
      split at hc
      · rename_i hslot
        simp only [Option.some.injEq] at hc
        subst hc
        simp only at hd hgn
        subst hgn
        -- it is the choice of an entry
        have hnx : ∃ x q, o.op = .next x false ∧ opd x = some q ∧ compOpS P h o.dst o.op = (.s true .nextM, [q]) := by
          unfold compOpS at hd ⊢
          cases hcp' : compOp P h o.dst o.op with
          | none => rw [hcp'] at hd; exact absurd rfl hd
          | some x =>
            rw [hcp'] at hd
            simp only at hd
            obtain ⟨iop, xs⟩ := x
            cases hop : o.op with
            | next it isS =>
              cases isS with
              | true =>
                exfalso
                rw [hop] at hcp'
                simp only [compOp] at hcp'
                split at hcp'
                · obtain ⟨q, hq, rfl, rfl⟩ := one_inv hcp'
                  exact hd rfl
                · cases hcp'
              | false =>
                rw [hop] at hcp'
                simp only [compOp] at hcp'
                split at hcp'
                · obtain ⟨q, hq, rfl, rfl⟩ := one_inv hcp'
                  exact ⟨it, q, rfl, hq, rfl⟩
                · cases hcp'
            | _ =>
              exfalso
              apply hd
              exact compOp_det hcp' (fun x hx => by rw [hop] at hx; cases hx)
        obtain ⟨x, q, hox, hq, hcs⟩ := hnx
        have hstep : ∀ s, stepOp cp ci { dst := o.dst, op := (compOpS P h o.dst o.op).1, xs := (compOpS P h o.dst o.op).2, guard := none } s = (nextMSem s.sto [q.val s.env]).map fun y => { s with sto := y.2 }.put o.dst y.1 := by
          intro s
          rw [hcs]
          rfl
        obtain ⟨s0, h1⟩ := hs st.sto.ora
        rw [hstep] at h1
        simp only [Option.map_eq_some_iff] at h1
        obtain ⟨y, h1, -⟩ := h1
        unfold wpOp
        simp only [ho]
        have hw : Region.wanted o (yielded ops a.tmps) = true := by rw [wanted_iff he h2]; rfl
        rw [if_pos hw]
        refine .inl (nextM_sound hi he hox hq h1 K Q ?_)
        rintro v w' ⟨j, d, σ', k1, V', ha', hi', hv'⟩
        refine hK j ({ st with sto := σ' }.put o.dst d) _ _ ?_ (put_good (st := { st with sto := σ' }) hslot (hadv.trans ha') hi' (he.adv ha') hn hf hv')
        rw [hstep]
        show (nextMSem (st.sto.setO j) [q.val st.env]).map _ = _
        rw [k1]
        rfl
      · cases hc
    · cases hc
theorem ops_soundR (hcp : ∀ f, PureOk P Gl f (cp f)) (hci : ∀ f, ImpOk P Gl f (ci f)) (hor : OraOk ci) (hG : HasG Gl V0.imm w0) {ops : Array Oper} {Q : Exit → Act → World → Prop} {ios : List IOper} (hgd : ∀ io ∈ ios, io.op.det = true ∨ io.guard = none) (hc : compOpers P h nt ops.toList ops.toList = some ios) :
    ∀ (l : List Nat) (st : St) (a : Act) (w : World), (∀ q, ∃ s, runIdx cp ci ios l (st.setO q) = some s) → Good V0 w0 nt st a w → (∀ q s a' w', runIdx cp ci ios l (st.setO q) = some s → Good V0 w0 nt s a' w' → Q .normal a' w') → wpOps P ops Q l a w
  | [], st, a, w, hr, hg, hQ => hQ st.sto.ora st a w rfl hg
  | i :: l, st, a, w, hr, hg, hQ => by
    rw [wpOps_cons]
    cases hio : ios[i]? with
    | none =>
      obtain ⟨s, h1⟩ := hr st.sto.ora
      simp [runIdx, hio] at h1
    | some io =>
      simp only [runIdx, hio] at hr hQ
      obtain ⟨o, ho, hco⟩ := (compOpers_get hc).2 i io hio
      refine step_soundR hcp hci hor hG (hgd io (List.mem_of_getElem? hio)) (by rw [← ho, Array.getElem?_toList]) hco (fun q => ?_) hg fun q s a' w' h1 hg' => ?_
      · obtain ⟨s, h1⟩ := hr q
        simp only [Option.bind_eq_some_iff] at h1
        obtain ⟨s1, h1, -⟩ := h1
        exact ⟨s1, h1⟩
      · obtain ⟨k, a1, a2⟩ := stepOp_pre hor io _ _ h1
        simp only [setO_ora, setO_setO] at a1 a2
        refine ops_soundR hcp hci hor hG hgd hc l s a' w' (fun q2 => ?_) hg' fun q2 s2 a2' w2' h2 hg2 => ?_
        · obtain ⟨s2, h2⟩ := hr (splice k q q2)
          rw [a2, Option.bind_some] at h2
          exact ⟨s2, h2⟩
        · refine hQ (splice k q q2) s2 a2' w2' ?_ hg2
          rw [a2, Option.bind_some]
          exact h2
def RSound (P : Program) (V0 : Vw) (w0 : World) (nt : Nat) (f : St → Option (Exit × St)) (c : Code) : Prop :=
  ∀ (st : St) (a : Act) (w : World) (Q : Exit → Act → World → Prop), (∀ q, ∃ y, f (st.setO q) = some y) → Good V0 w0 nt st a w → (∀ q e s a' w', f (st.setO q) = some (e, s) → Good V0 w0 nt s a' w' → Q (unG e) a' w') → c.wp P Q a w
def choiceOk : ICode → Code → Bool
  | .reg ios, .region _ _ draw => ios.all fun io => io.op.det || (io.guard.isNone && !draw)
  | .seq x y, .seq a b => choiceOk x a && choiceOk y b
  | .cond _ x y, .cond _ a b => choiceOk x a && choiceOk y b
  | .block _ x, .block _ a => choiceOk x a
  | .loop x, .loop a => choiceOk x a
  | .skip, .skip => true
  | .ret, .ret => true
  | .exit _, .exit _ => true
  | _, _ => false
theorem code_soundR (hcp : ∀ f, PureOk P Gl f (cp f)) (hci : ∀ f, ImpOk P Gl f (ci f)) (hor : OraOk ci) (hG : HasG Gl V0.imm w0) {n : Nat} : ∀ (c : Code) (ic : ICode), (comp2 P h nt c).1 = some ic → choiceOk ic c = true → RSound P V0 w0 nt (runCode cp ci n ic) c := by
  intro c
  induction c with
  | skip =>
    intro ic hc _ st a w Q hr hg hQ
    simp only [comp2, Option.some.injEq] at hc
    subst hc
    exact wp_skip (hQ st.sto.ora _ _ _ _ rfl hg)
  | ret =>
    intro ic hc _ st a w Q hr hg hQ
    simp only [comp2, Option.some.injEq] at hc
    subst hc
    exact wp_ret (hQ st.sto.ora _ _ _ _ rfl hg)
  | exit id =>
    intro ic hc _ st a w Q hr hg hQ
    simp only [comp2] at hc
    split at hc
    · rename_i hid
      simp only [Option.some.injEq] at hc
      subst hc
      have := hQ st.sto.ora _ _ _ _ rfl hg
      simp only [unG] at this
      rw [if_pos (by simpa using hid)] at this
      exact wp_exit this
    · simp only [Option.some.injEq] at hc
      subst hc
      obtain ⟨y, hy⟩ := hr st.sto.ora
      exact absurd hy stuck_none
  | region id ops draw =>
    intro ic hc hch st a w Q hr hg hQ
    simp only [comp2, Option.bind_eq_some_iff] at hc
    obtain ⟨ios, h1, hc⟩ := hc
    split at hc
    · rename_i hd
      simp only [Option.some.injEq] at hc
      subst hc
      have hlen : ios.length = ops.size := by have := (compOpers_get h1).1; simpa using this
      have hrun : ∀ q, ∃ s, runOps cp ci ios (st.setO q) = some s := fun q => by
        obtain ⟨y, hy⟩ := hr q
        simp only [runCode, Option.map_eq_some_iff] at hy
        obtain ⟨s, hs, -⟩ := hy
        exact ⟨s, hs⟩
      have hidx : ∀ s, runOps cp ci ios s = runIdx cp ci ios (List.range ops.size) s := fun s => by
        rw [List.range_eq_range', ← hlen, ← runOps_idx ios _ 0 s (by omega)]
        rfl
      simp only [choiceOk, List.all_eq_true, Bool.or_eq_true, Bool.and_eq_true, Bool.not_eq_true'] at hch
      cases draw with
      | false =>
        refine wp_region (ops_soundR hcp hci hor hG (fun io hio => ?_) h1 _ st a w (fun q => ?_) hg fun q s a' w' hs hg' => ?_)
        · rcases hch io hio with h | ⟨h, -⟩
          · exact .inl h
          · exact .inr (by simpa using h)
        · rw [← hidx]; exact hrun q
        · rw [← hidx] at hs
          exact hQ q .normal s a' w' (by simp only [runCode, hs, Option.map_some]) hg'
      | true =>
        simp only [Bool.not_true, Bool.false_or, drawOk, Bool.and_eq_true] at hd
        obtain ⟨⟨d1, d2⟩, d3⟩ := hd
        have hdet : ∀ io ∈ ios, h.rng = false ∨ io.op.det = true := fun io hio => by
          rcases hch io hio with h | ⟨-, h⟩
          · exact .inr h
          · cases h
        obtain ⟨s, hs⟩ := hrun st.sto.ora
        refine wp_region_draw fun t => ?_
        simp only [Region.schedule, d1, Bool.true_or, if_true]
        refine ops_sound hcp hci hG hdet h1 _ st s a _ (linearise_sound hlen d3 d2 t hs) ?_ fun a' w' hg' => hQ st.sto.ora .normal s a' w' (by simp only [setO_self, runCode]; rw [setO_self] at hs; rw [hs]; rfl) hg'
        obtain ⟨V, g1, g2, g3, g4⟩ := hg
        obtain ⟨hadv, hinv⟩ := g2.drew (w' := { w with drawn := w.drawn + 1 }) rfl rfl rfl rfl
        exact ⟨V, g1.trans hadv, hinv, g3.adv hadv, g4⟩
    · simp only [Option.some.injEq] at hc
      subst hc
      obtain ⟨y, hy⟩ := hr st.sto.ora
      exact absurd hy stuck_none
  | seq x y ihx ihy =>
    intro ic hc hch st a w Q hr hg hQ
    simp only [comp2] at hc
    unfold seqO at hc
    split at hc
    · rename_i ix iy hx hy
      simp only [Option.some.injEq] at hc
      subst hc
      simp only [choiceOk, Bool.and_eq_true] at hch
      refine wp_seq (ihx ix hx hch.1 st a w _ (fun q => ?_) hg fun q e s a' w' h1 hg' => ?_)
      · obtain ⟨⟨e, s⟩, h1⟩ := hr q
        simp only [runCode] at h1
        split at h1
        · rename_i s1 h2; exact ⟨_, h2⟩
        · exact ⟨_, h1⟩
      · by_cases he : e = .normal
        · subst he
          obtain ⟨k, a1, a2⟩ := runCode_pre hor ix _ _ _ h1
          simp only [setO_ora, setO_setO] at a1 a2
          refine ihy iy hy hch.2 s a' w' Q (fun q2 => ?_) hg' fun q2 e2 s2 a2' w2' h2 hg2 => ?_
          · obtain ⟨y2, h2⟩ := hr (splice k q q2)
            simp only [runCode] at h2
            rw [a2] at h2
            exact ⟨y2, h2⟩
          · refine hQ (splice k q q2) e2 s2 a2' w2' ?_ hg2
            simp only [runCode]
            rw [a2]
            exact h2
        · have hq := hQ q e s a' w' (by
            simp only [runCode]
            rw [h1]
            cases e <;> first | exact absurd rfl he | rfl) hg'
          have hu := unG_ne he
          generalize unG e = u at *
          cases u <;> first | exact absurd rfl hu | exact hq
    · cases hc
  | cond c x y ihx ihy =>
    intro ic hc hch st a w Q hr hg hQ
    simp only [comp2] at hc
    split at hc
    · rename_i d ix iy hd hx hy
      simp only [Option.some.injEq] at hc
      subst hc
      simp only [choiceOk, Bool.and_eq_true] at hch
      have hv : VRel _ w 0 (d.val st.env) (a.eval c) := opd_rel (a := a) (Classical.choose_spec hg).2.2.1 hd
      have hval : ∀ q, d.val (st.setO q).env = d.val st.env := fun _ => rfl
      simp only [runCode, hval] at hr hQ
      obtain ⟨y0, h0⟩ := hr st.sto.ora
      split at h0
      · rename_i hb
        rw [hb] at hv
        simp only [VRel] at hv
        simp only [hb] at hr hQ
        exact wp_cond_true hv (ihx ix hx hch.1 st a w Q hr hg hQ)
      · rename_i hb
        rw [hb] at hv
        simp only [VRel] at hv
        simp only [hb] at hr hQ
        exact wp_cond_false hv (ihy iy hy hch.2 st a w Q hr hg hQ)
      · cases h0
    · cases hc
  | block id x ihx =>
    intro ic hc hch st a w Q hr hg hQ
    simp only [comp2] at hc
    split at hc
    · rename_i hlt
      have hlt' : id < 1000000 := by simpa using hlt
      simp only [Option.map_eq_some_iff] at hc
      obtain ⟨ix, hx, rfl⟩ := hc
      simp only [choiceOk] at hch
      refine wp_block (ihx ix hx hch st a w _ (fun q => ?_) hg fun q e s a' w' h1 hg' => ?_)
      · obtain ⟨y, h1⟩ := hr q
        simp only [runCode] at h1
        cases h2 : runCode cp ci n ix (st.setO q) with
        | none => rw [h2] at h1; simp at h1
        | some y2 => exact ⟨y2, rfl⟩
      · cases e with
        | exit i =>
          by_cases hid : i = id
          · subst hid
            have := hQ q .normal s a' w' (by simp only [runCode]; rw [h1]; simp) hg'
            simp only [unG]
            rw [if_pos hlt']
            simp only [Exit.inBlock, if_true]
            exact this
          · have hq := hQ q (.exit i) s a' w' (by simp only [runCode]; rw [h1]; simp [hid]) hg'
            simp only [unG] at hq ⊢
            split
            · rename_i hi
              rw [if_pos hi] at hq
              simp only [Exit.inBlock, hid, if_false]
              exact hq
            · rename_i hi
              rw [if_neg hi] at hq
              exact hq
        | _ => exact hQ q _ s a' w' (by simp only [runCode]; rw [h1]) hg'
    · simp only [Option.some.injEq] at hc
      subst hc
      obtain ⟨y, hy⟩ := hr st.sto.ora
      exact absurd hy stuck_none
  | loop x ihx =>
    intro ic hc hch st a w Q hr hg hQ
    simp only [comp2, Option.map_eq_some_iff] at hc
    obtain ⟨ix, hx, rfl⟩ := hc
    simp only [choiceOk] at hch
    simp only [runCode] at hr hQ
    -- m rounds at most are left, and what comes of them is a run of the whole
    let p : Act → World → Nat → Prop := fun a w m => ∃ s, Good V0 w0 nt s a w ∧ ∀ q, ∃ e t q0, iter (runCode cp ci n ix) m (s.setO q) = some (e, t) ∧ iter (runCode cp ci n ix) n (st.setO q0) = some (e, t)
    refine wp_loop (fun a w => ∃ m, p a w m) (rounds p) ⟨n, st, hg, fun q => ?_⟩ ?_
    · obtain ⟨⟨e, t⟩, h1⟩ := hr q
      exact ⟨e, t, q, h1, h1⟩
    rintro a w ⟨m, hm⟩
    obtain ⟨⟨s, hgs, hit⟩, hmin⟩ := rounds_spec hm
    cases hk : rounds p a w with
    | zero =>
      rw [hk] at hit
      obtain ⟨e, t, q0, h1, -⟩ := hit s.sto.ora
      simp [iter] at h1
    | succ k =>
      rw [hk] at hit
      refine ihx ix hx hch s a w _ (fun q => ?_) hgs fun q e s1 a' w' h1 hg' => ?_
      · obtain ⟨e, t, q0, h1, -⟩ := hit q
        simp only [iter] at h1
        cases h2 : runCode cp ci n ix (s.setO q) with
        | none => rw [h2] at h1; simp at h1
        | some y => exact ⟨y, rfl⟩
      · by_cases he : e = .normal
        · subst he
          obtain ⟨j, a1, a2⟩ := runCode_pre hor ix _ _ _ h1
          simp only [setO_ora, setO_setO] at a1 a2
          have hp' : p a' w' k := ⟨s1, hg', fun q2 => by
            obtain ⟨e, t, q0, h2, h3⟩ := hit (splice j q q2)
            simp only [iter] at h2
            rw [a2] at h2
            exact ⟨e, t, q0, h2, h3⟩⟩
          refine ⟨⟨k, hp'⟩, ?_⟩
          have := (rounds_spec hp').2 k hp'
          omega
        · obtain ⟨e2, t, q0, h2, h3⟩ := hit q
          simp only [iter] at h2
          rw [h1] at h2
          have h4 : e = e2 ∧ s1 = t := by
            cases e <;> first | exact absurd rfl he | (simp only [Option.some.injEq, Prod.mk.injEq] at h2; exact h2)
          obtain ⟨rfl, rfl⟩ := h4
          have hq := hQ q0 e s1 a' w' h3 hg'
          have hu := unG_ne he
          generalize unG e = u at *
          cases u <;> first | exact absurd rfl hu | exact hq
  | _ =>
    intro ic hc hch
    exfalso
    cases ic <;> simp [choiceOk] at hch
theorem fun_soundR (hcp : ∀ f, PureOk P Gl f (cp f)) (hci : ∀ f, ImpOk P Gl f (ci f)) (hor : OraOk ci) {n : Nat} {f : FuncId} {F : IFunc} {fn : Func} (h1 : P.funcs[f]? = some fn) (h2 : (fn.name == "runtime.NumGoroutine") = false) (h3 : compFunc P h fn = some F) {c : Code} (hbody : fn.body = some c) (hch : choiceOk F.body c = true)
    {V : Vw} {σ : Sto} {w : World} {ds : List DVal} {vs : List Value} (hi : Inv V noRoots σ w) (hG : HasG Gl V.imm w) (hv : VRels V w 0 ds vs) (hr : ∀ o, ∃ y, runFun cp ci n F ds (σ.setO o) = some y) :
    Calls P f vs.toArray w fun e w' => ∃ o r σ' v V', runFun cp ci n F ds (σ.setO o) = some (r, σ') ∧ e = .returned v ∧ Adv V w V' w' ∧ Inv V' noRoots σ' w' ∧ VRel V' w' 1 r v := by
  unfold compFunc at h3
  rw [hbody] at h3
  simp only at h3
  split at h3
  · rename_i b rs hb hrs
    split at h3
    · rename_i hle
      simp only [Option.some.injEq] at h3
      subst h3
      have hlen : ds.length = fn.params.size + fn.nfree := by
        obtain ⟨y, hy⟩ := hr σ.ora
        unfold runFun at hy
        simp only at hy
        split at hy
        · assumption
        · cases hy
      have hvl := hv.length
      have hsize : (vs.toArray ++ Array.replicate (fn.ntmps - vs.toArray.size) Go.undef).size = fn.ntmps := by simp; omega
      have hgood : Good V w fn.ntmps (enter ds σ) { tmps := vs.toArray ++ Array.replicate (fn.ntmps - vs.toArray.size) Go.undef, defers := [] } w := by
        refine ⟨V, .refl V w, hi, fun s => ?_, hsize, rfl⟩
        show VRel V w 0 (ds.getD s .undef) _
        rw [List.getD_eq_getElem?_getD, Array.getD_eq_getD_getElem?]
        cases hd : ds[s]? with
        | some d =>
          obtain ⟨v, hvs, hrel⟩ := hv.get hd
          have hlt : s < vs.length := (List.getElem?_eq_some_iff.1 hvs).1
          rw [Array.getElem?_append_left (by simpa using hlt)]
          simpa [hvs] using hrel
        | none =>
          have hge : vs.length ≤ s := by have := List.getElem?_eq_none_iff.1 hd; omega
          rw [Array.getElem?_append_right (by simpa using hge)]
          have : (Array.replicate (fn.ntmps - vs.toArray.size) Go.undef)[s - vs.toArray.size]?.getD Go.undef = Go.undef := by
            cases hq : (Array.replicate (fn.ntmps - vs.toArray.size) Go.undef)[s - vs.toArray.size]? with
            | none => rfl
            | some u => have := Array.getElem?_eq_some_iff.1 hq; obtain ⟨_, hu⟩ := this; simp at hu; simp [← hu]
          rw [this]
          simp [VRel]
      have hfun : ∀ o y, runFun cp ci n ⟨fn.params.size + fn.nfree, rs, b⟩ ds (σ.setO o) = some y → ∃ e st v, runCode cp ci n b ((enter ds σ).setO o) = some (e, st) ∧ (e = .ret ∨ e = .normal) ∧ resVal st rs = some v ∧ y = (v, st.sto) := by
        intro o y hy
        unfold runFun at hy
        simp only [hlen, if_true] at hy
        split at hy
        · rename_i st hst
          simp only [Option.map_eq_some_iff] at hy
          obtain ⟨v, h4, rfl⟩ := hy
          exact ⟨_, st, v, hst, .inl rfl, h4, rfl⟩
        · rename_i st hst
          simp only [Option.map_eq_some_iff] at hy
          obtain ⟨v, h4, rfl⟩ := hy
          exact ⟨_, st, v, hst, .inr rfl, h4, rfl⟩
        · cases hy
      refine calls_of_wp h1 hbody ?_
      refine code_soundR (n := n) hcp hci hor hG c b hb hch (enter ds σ) _ w _ (fun q => ?_) hgood fun q e st a' w' hst hg => ?_
      · obtain ⟨y, hy⟩ := hr q
        obtain ⟨e, st, v, h4, -⟩ := hfun q y hy
        exact ⟨_, h4⟩
      · obtain ⟨y, hy⟩ := hr q
        obtain ⟨e2, st2, v, h4, h5, h6, rfl⟩ := hfun q y hy
        rw [hst] at h4
        simp only [Option.some.injEq, Prod.mk.injEq] at h4
        obtain ⟨rfl, rfl⟩ := h4
        have hend : a'.defers = [] ∧ ∃ v', (results fn a'.tmps).run P w' = .ok v' w' ∧ ∃ o r σ' v V', runFun cp ci n ⟨fn.params.size + fn.nfree, rs, b⟩ ds (σ.setO o) = some (r, σ') ∧ Ending.returned v' = .returned v ∧ Adv V w V' w' ∧ Inv V' noRoots σ' w' ∧ VRel V' w' 1 r v := by
          obtain ⟨V1, g1, g2, g3, g4, g5⟩ := hg
          obtain ⟨v', hrun, hrel⟩ := results_sound (fn := fn) (F := ⟨fn.params.size + fn.nfree, rs, b⟩) g2 g3 hrs h6
          exact ⟨g5, v', hrun, q, v, st.sto, v', V1.leave, hy, rfl, g1.leave (fun r => by rw [hi.ep]; rfl), g2.leave, hrel.leave⟩
        rcases h5 with rfl | rfl
        · exact hend
        · exact hend
    · cases h3
  · cases h3
end
end Go.Proofs.YtagkgekpfgepoaaDoor
namespace Go.Proofs.YtagkgekpfgepoaaDoor
set_option linter.unusedVariables false
set_option linter.unusedSimpArgs false
open Go Go.RowKit
def treeOf (P : Program) (h : Hint) (fn : Func) : Option (Nat × T) :=
  match h.rng, compFunc P h fn with
  | false, some F => (symbFun F).map fun t => (F.npar, t)
  | _, _ => none
def KnowsJ (P : Program) (f : FuncId) (np : Nat) (t : T) : Prop := ∃ fn h, P.funcs[f]? = some fn ∧ (fn.name == "runtime.NumGoroutine") = false ∧ treeOf P h fn = some (np, t)
theorem KnowsJ.knows {P : Program} {f : FuncId} {np : Nat} {t : T} (hk : KnowsJ P f np t) : ∃ F, Knows P f F ∧ F.npar = np ∧ symbFun F = some t := by
  obtain ⟨fn, h, h1, h2, h3⟩ := hk
  unfold treeOf at h3
  split at h3
  · rename_i F hr0 hF
    simp only [Option.map_eq_some_iff, Prod.mk.injEq] at h3
    obtain ⟨t', ht, rfl, rfl⟩ := h3
    exact ⟨F, ⟨fn, h, h1, h2, hr0, hF⟩, rfl, ht⟩
  · cases h3
def Out.setO (o : Nat → Nat) : Out → Out
  | .done v σ => .done v (σ.setO o)
  | .next l vs σ => .next l vs (σ.setO o)
theorem iterJ_ora {l : Nat} {f : List DVal → Sto → Option Out} (hf : ∀ vs σ o, f vs (σ.setO o) = (f vs σ).map (Out.setO o)) : ∀ (m : Nat) (vs : List DVal) (σ : Sto) (o : Nat → Nat), iterJ l f m vs (σ.setO o) = (iterJ l f m vs σ).map (Out.setO o)
  | 0, _, _, _ => rfl
  | m + 1, vs, σ, o => by
    simp only [iterJ, hf]
    cases h : f vs σ with
    | none => rfl
    | some x =>
      cases x with
      | done v τ => rfl
      | next i vs' τ =>
        simp only [Option.map_some, Out.setO]
        split
        · exact iterJ_ora hf m vs' τ o
        · rfl
theorem den_ora {cp : Nat → List DVal → Option DVal} {ci : Nat → List DVal → Sto → Option (DVal × Sto)} (hci : OraOk ci) {n : Nat} : ∀ (t : T), t.det = true → ∀ (ρ : List DVal) (σ : Sto) (o : Nat → Nat), den cp ci n t ρ (σ.setO o) = (den cp ci n t ρ σ).map (Out.setO o)
  | .ret xs, _, ρ, σ, o => by
    simp only [den]
    cases resEx (xs.map (Ex.val ρ)) <;> rfl
  | .p op xs g k, hd, ρ, σ, o => by
    simp only [T.det] at hd
    simp only [den]
    cases guarded ρ g (op.sem cp (xs.map (Ex.val ρ))) with
    | none => rfl
    | some v => exact den_ora hci k hd _ σ o
  | .s op xs g k, hd, ρ, σ, o => by
    simp only [T.det, Bool.and_eq_true, Bool.not_eq_true'] at hd
    have hdet : ∀ b, (IOp.s b op).det = true := fun b => by cases op <;> first | rfl | (have := hd.1; simp [SOp.isNext] at this)
    have hg : guardedS ρ (σ.setO o) g (op.sem cp ci (σ.setO o) (xs.map (Ex.val ρ))) = (guardedS ρ σ g (op.sem cp ci σ (xs.map (Ex.val ρ)))).map (setO2 o) := by
      rw [SOp.ora hci hdet]
      cases g with
      | none => rfl
      | some p =>
        obtain ⟨i, b⟩ := p
        simp only [guardedS]
        split <;> rfl
    simp only [den]
    rw [hg]
    cases guardedS ρ σ g (op.sem cp ci σ (xs.map (Ex.val ρ))) with
    | none => rfl
    | some y => exact den_ora hci k hd.2 _ y.2 o
  | .ite c a b, hd, ρ, σ, o => by
    simp only [T.det, Bool.and_eq_true] at hd
    simp only [den, den_ora hci a hd.1 ρ σ o, den_ora hci b hd.2 ρ σ o]
    unfold iteJ
    split <;> rfl
  | .loop l init body, hd, ρ, σ, o => by
    simp only [T.det] at hd
    simp only [den]
    exact iterJ_ora (fun vs σ o => den_ora hci body hd _ σ o) n _ σ o
  | .join l m body k, hd, ρ, σ, o => by
    simp only [T.det, Bool.and_eq_true] at hd
    simp only [den, den_ora hci body hd.1 ρ σ o]
    cases den cp ci n body ρ σ with
    | none => rfl
    | some x =>
      cases x with
      | done v τ => rfl
      | next i vs τ =>
        simp only [Option.map_some, Out.setO, joinJ]
        split
        · exact den_ora hci k hd.2 _ τ o
        · rfl
  | .next l xs, _, ρ, σ, o => rfl
def OraSem (sem : List DVal → Sto → Option (DVal × Sto)) : Prop := ∀ ds σ o, sem ds (σ.setO o) = (sem ds σ).map (setO2 o)
theorem rdet_ora (σ : Sto) (o : Nat → Nat) (g : (Nat → Nat) → Option (DVal × Sto)) : rdet (σ.setO o) g = (rdet σ g).map (setO2 o) := by
  unfold rdet
  by_cases hc : ∀ o, ∃ y z, g o = some y ∧ g (fun _ => 0) = some z ∧ likeR y z
  · rw [if_pos hc, if_pos hc, Option.map_map]
    rfl
  · rw [if_neg hc, if_neg hc]
    rfl
theorem evJ_ora {prog : Nat → Option JFun} (hb : ∀ f np t, prog f = some (.body np t) → t.det = true) (hs : ∀ f sem, prog f = some (.sprim sem) → OraSem sem) : ∀ n, OraOk (ciJ prog n)
  | 0 => fun f xs σ o => rfl
  | n + 1 => fun f xs σ o => by
    have ih := evJ_ora hb hs n
    unfold ciJ evJ
    cases hf : prog f with
    | none => rfl
    | some jf =>
      cases jf with
      | body np t =>
        simp only
        split
        · have hd := den_ora (cp := fun g xs => (evJ prog n g xs none).map (·.1)) (ci := fun g xs τ => evJ prog n g xs (some τ)) ih (n := n) t (hb f np t hf) xs σ o
          rw [hd]
          generalize den _ _ n t xs σ = X
          cases X with
          | none => rfl
          | some x => cases x <;> rfl
        · rfl
      | prim sem => rfl
      | alt np s t => rfl
      | sprim sem => exact hs f sem hf xs σ o
      | rbody np t =>
        simp only
        split
        · exact rdet_ora σ o _
        · rfl
def treeR (P : Program) (h : Hint) (fn : Func) : Option (Nat × T) :=
  match fn.body, compFunc P h fn with
  | some c, some F => if choiceOk F.body c then (symbFun F).map fun t => (F.npar, t) else none
  | _, _ => none
def KnowsR (P : Program) (f : FuncId) (np : Nat) (t : T) : Prop := ∃ fn h, P.funcs[f]? = some fn ∧ (fn.name == "runtime.NumGoroutine") = false ∧ treeR P h fn = some (np, t)
theorem Inv.like {V : Vw} {L : Nat → Nat × DVal} {y z : DVal × Sto} {w : World} (h : Inv V L y.2 w) (hl : likeR y z) (o : Nat → Nat) : Inv V L { z.2 with ora := o } w := by
  obtain ⟨-, l1, l2, l3, l4⟩ := hl
  refine ⟨h.hB, h.tag, h.ep, h.root, h.nobj.trans l1, fun id hid => ?_, h.ntok.trans l2, h.fr.trans l3, h.tag4, h.tok, fun q m c hq e => ?_, h.hrt⟩
  · show (z.2.obj id ≠ .undef → _) ∧ ObjRel V w (z.2.obj id) _
    obtain ⟨h1, h2⟩ := h.obj id hid
    rcases l4 id with e | ⟨es, es', e1, e2, hp, hn⟩
    · rw [← e]; exact ⟨h1, h2⟩
    · rw [e1] at h1 h2
      refine ⟨fun _ => h1 (by simp), ?_⟩
      rw [e2]
      obtain ⟨ms, clock, l, g1, g2, g3, g4⟩ := h2.map (fun s r hh => hn s (by rw [hh]; simp))
      exact ObjRel.ofMap g1 (hp.symm.trans g2) g3 g4
  · have e : z.2.obj q = .func m c := e
    have hy : y.2.obj q = .func m c := by
      rcases l4 q with e' | ⟨es, es', e1, e2, -⟩
      · rw [e', e]
      · rw [e2] at e; cases e
    have hm := h.hid q m c hq hy
    show z.2.obj m = _
    rcases l4 m with e' | ⟨es, es', e1, e2, -⟩
    · rw [← e', hm]
    · rw [e1] at hm; cases hm
theorem evJ_sound {P : Program} {Gl : List (Nat × Nat × Option Value)} {prog : Nat → Option JFun} (hb : ∀ f np t, prog f = some (.body np t) → KnowsJ P f np t) (hp : ∀ f sem, prog f = some (.prim sem) → PureOk P Gl f sem) (ha : ∀ f np s t, prog f = some (.alt np s t) → KnowsJ P f np s ∧ KnowsJ P f np t) (hq : ∀ f sem, prog f = some (.sprim sem) → ImpOk P Gl f sem) (hr : ∀ f np t, prog f = some (.rbody np t) → KnowsR P f np t) (hO : ∀ n, OraOk (ciJ prog n)) :
    ∀ n, (∀ f, PureOk P Gl f (cpJ prog n f)) ∧ ∀ f, ImpOk P Gl f (ciJ prog n f)
  | 0 => ⟨fun f I w ds vs r _ _ _ hr => by simp [cpJ, evJ] at hr, fun f V σ σ' w ds vs r _ _ _ hr => by simp [ciJ, evJ] at hr⟩
  | n + 1 => by
    obtain ⟨ihp, ihi⟩ := evJ_sound hb hp ha hq hr hO n
    have pure1 : ∀ (f : FuncId) (np : Nat) (t : T) (I : Nat → Nat → Prop) (w : World) (ds : List DVal) (vs : List Value) (x : DVal × Sto), KnowsJ P f np t → (∀ b n, I b n → b < w.heap.size) → HasG Gl I w → VRels (VI I w.heap.size) w 2 ds vs → ds.length = np →
        handJ (den (fun g xs => (evJ prog n g xs none).map (·.1)) (fun g xs τ => evJ prog n g xs (some τ)) n t ds emptySto) = some x → callable P f ∧ Calls P f vs.toArray w fun e w' => ∃ v, e = .returned v ∧ Below w.heap.size w w' ∧ HRel I w w' x.1 v := by
      intro f np t I w ds vs x hkj hI hG hv hlen hh
      obtain ⟨F, hk, rfl, ht⟩ := hkj.knows
      unfold handJ at hh
      split at hh
      · rename_i v σ hd
        simp only [Option.map_eq_some_iff] at hh
        obtain ⟨z, hz, rfl⟩ := hh
        have hy := symbFun_sound ht hlen hd
        refine ⟨hk.callable, ?_⟩
        refine (fun_sound (cp := cpJ prog n) (ci := ciJ prog n) ihp ihi hk VI_inv (hG.ext fun b n hn => ⟨VI_imm.2 ⟨hI b n hn, hn⟩, rfl⟩) hv.open' hy).mono ?_
        rintro e w' ⟨v, V', rfl, ha, hinv, hrel⟩
        obtain ⟨q1, q2⟩ := hand_sound ha hinv hrel hz
        exact ⟨v, rfl, q1, q2⟩
      · cases hh
    refine ⟨fun f I w ds vs r hI hG hv hr => ?_, fun f V σ σ' w ds vs r hi hG hv hr0 => ?_⟩
    · unfold cpJ evJ at hr
      split at hr
      · rename_i np t hF
        obtain ⟨F, hk, rfl, ht⟩ := (hb f np t hF).knows
        split at hr
        · rename_i hlen
          split at hr
          · rename_i v σ hd
            simp only [Option.map_eq_some_iff] at hr
            obtain ⟨x, ⟨z, hz, rfl⟩, rfl⟩ := hr
            have hy := symbFun_sound ht hlen hd
            refine ⟨hk.callable, ?_⟩
            refine (fun_sound (cp := cpJ prog n) (ci := ciJ prog n) ihp ihi hk VI_inv (hG.ext fun b n hn => ⟨VI_imm.2 ⟨hI b n hn, hn⟩, rfl⟩) hv.open' hy).mono ?_
            rintro e w' ⟨v, V', rfl, ha, hinv, hrel⟩
            obtain ⟨q1, q2⟩ := hand_sound ha hinv hrel hz
            exact ⟨v, rfl, q1, q2⟩
          · simp at hr
        · simp at hr
      · rename_i sem hF
        simp only [Option.map_eq_some_iff] at hr
        obtain ⟨x, ⟨y, hy, rfl⟩, rfl⟩ := hr
        exact hp f sem hF I w ds vs y hI hG hv hy
      · rename_i np s t hF
        obtain ⟨k1, k2⟩ := ha f np s t hF
        split at hr
        · rename_i hlen
          simp only [Option.map_eq_some_iff] at hr
          obtain ⟨x, hx, rfl⟩ := hr
          rcases Option.or_eq_some_iff.1 hx with hx | ⟨-, hx⟩
          · exact pure1 f np s I w ds vs x k1 hI hG hv hlen hx
          · exact pure1 f np t I w ds vs x k2 hI hG hv hlen hx
        · simp at hr
      · simp at hr
    · unfold ciJ evJ at hr0
      split at hr0
      · rename_i np t hF
        obtain ⟨F, hk, rfl, ht⟩ := (hb f np t hF).knows
        split at hr0
        · rename_i hlen
          split at hr0
          · rename_i v σ2 hd
            simp only [Option.some.injEq, Prod.mk.injEq] at hr0
            obtain ⟨rfl, rfl⟩ := hr0
            have hy := symbFun_sound ht hlen hd
            exact ⟨hk.callable, fun_sound (cp := cpJ prog n) (ci := ciJ prog n) ihp ihi hk hi hG hv.open' hy⟩
          · simp at hr0
        · simp at hr0
      · rename_i sem hF
        exact hq f sem hF V σ σ' w ds vs r hi hG hv hr0
      · rename_i np t hF
        obtain ⟨fn, h, h1, h2, h3⟩ := hr f np t hF
        unfold treeR at h3
        split at h3
        · rename_i c F hbody hF3
          split at h3
          · rename_i hch
            simp only [Option.map_eq_some_iff, Prod.mk.injEq] at h3
            obtain ⟨t', ht, rfl, rfl⟩ := h3
            split at hr0
            · rename_i hlen
              unfold rdet at hr0
              split at hr0
              · rename_i hall
                simp only [Option.map_eq_some_iff, Prod.mk.injEq] at hr0
                obtain ⟨z0, hz0, rfl, rfl⟩ := hr0
                have hrun : ∀ o y, outR (den (fun g xs => (evJ prog n g xs none).map (·.1)) (fun g xs τ => evJ prog n g xs (some τ)) n t' ds { σ with ora := o }) = some y → runFun (cpJ prog n) (ciJ prog n) n F ds (σ.setO o) = some y := by
                  intro o y hy
                  unfold outR at hy
                  split at hy
                  · rename_i v τ hd
                    simp only [Option.some.injEq] at hy
                    subst hy
                    exact symbFun_sound ht hlen hd
                  · cases hy
                have hcall : callable P f := ⟨fn, h1, h2, by rw [hbody]; rfl⟩
                refine ⟨hcall, (fun_soundR (n := n) (cp := cpJ prog n) (ci := ciJ prog n) ihp ihi (hO n) h1 h2 hF3 hbody hch hi hG hv.open' (fun o => ?_)).mono ?_⟩
                · obtain ⟨y, z, hy, -⟩ := hall o
                  exact ⟨y, hrun o y hy⟩
                · rintro e w' ⟨o, r, σ', v, V', g1, rfl, g2, g3, g4⟩
                  obtain ⟨y, z, hy, hz, hl⟩ := hall o
                  have hyr := (hrun o y hy).symm.trans g1
                  simp only [Option.some.injEq] at hyr
                  subst hyr
                  have hz := hz0.symm.trans hz
                  simp only [Option.some.injEq] at hz
                  subst hz
                  refine ⟨v, V', rfl, g2, Inv.like (y := (r, σ')) g3 hl _, ?_⟩
                  rw [← hl.1]
                  exact g4
              · cases hr0
            · cases hr0
          · cases h3
        · cases h3
      · cases hr0
def hintR (slots fns : List (Nat × Nat)) (pts : List Nat := []) : Hint := { slot := fun n => (slots.lookup n).getD 0, fn := fun n => (fns.lookup n).getD 0, pt := fun t => pts.contains t, rng := true }
def hintJ (slots fns : List (Nat × Nat)) (pts : List Nat := []) : Hint := { slot := fun n => (slots.lookup n).getD 0, fn := fun n => (fns.lookup n).getD 0, pt := fun t => pts.contains t }
def JOk (P : Program) (Gl : List (Nat × Nat × Option Value)) : Nat × JFun → Prop
  | (f, .body np t) => KnowsJ P f np t
  | (f, .prim sem) => PureOk P Gl f sem
  | (f, .alt np s t) => KnowsJ P f np s ∧ KnowsJ P f np t
  | (f, .sprim sem) => ImpOk P Gl f sem ∧ OraSem sem
  | (f, .rbody np t) => KnowsR P f np t
def AllJ (P : Program) (Gl : List (Nat × Nat × Option Value)) : List (Nat × JFun) → Prop
  | [] => True
  | p :: ps => JOk P Gl p ∧ AllJ P Gl ps
def progJ (t : List (Nat × JFun)) : Nat → Option JFun := fun f => t.lookup f
theorem AllJ.get {P : Program} {Gl : List (Nat × Nat × Option Value)} : ∀ {t : List (Nat × JFun)}, AllJ P Gl t → ∀ {f : Nat} {x : JFun}, t.lookup f = some x → JOk P Gl (f, x)
  | [], _, f, x, h => by simp at h
  | p :: ps, ha, f, x, h => by
    obtain ⟨q, y⟩ := p
    simp only [AllJ] at ha
    rw [List.lookup_cons] at h
    split at h
    · rename_i e
      simp only [Option.some.injEq] at h
      subst h
      have : f = q := by simpa using e
      subst this
      exact ha.1
    · exact ha.2.get h
def detJ (t : List (Nat × JFun)) : Bool := t.all fun p => match p.2 with
  | .body _ t => t.det
  | _ => true
theorem detJ_get {t : List (Nat × JFun)} (h : detJ t = true) {f : Nat} {np : Nat} {b : T} (hf : t.lookup f = some (.body np b)) : b.det = true := by
  have hm : (f, JFun.body np b) ∈ t := by
    clear h
    induction t with
    | nil => simp at hf
    | cons p ps ih =>
      obtain ⟨q, y⟩ := p
      rw [List.lookup_cons] at hf
      split at hf
      · rename_i e
        simp only [Option.some.injEq] at hf
        subst hf
        have : f = q := by simpa using e
        subst this
        simp
      · exact List.mem_cons_of_mem _ (ih hf)
  exact (List.all_eq_true.1 h) _ hm
theorem allJ_sound {P : Program} {Gl : List (Nat × Nat × Option Value)} {t : List (Nat × JFun)} (h : AllJ P Gl t) (hd : detJ t = true) (n : Nat) : (∀ f, PureOk P Gl f (cpJ (progJ t) n f)) ∧ ∀ f, ImpOk P Gl f (ciJ (progJ t) n f) :=
  evJ_sound (fun f np t hF => h.get hF) (fun f sem hF => h.get hF) (fun f np s t hF => h.get hF) (fun f sem hF => (h.get hF).1) (fun f np t hF => h.get hF) (evJ_ora (fun f np b hF => detJ_get hd hF) (fun f sem hF => (h.get hF).2)) n
end Go.Proofs.YtagkgekpfgepoaaDoor
namespace Go.Proofs.YtagkgekpfgepoaaDoor
set_option linter.unusedVariables false
set_option maxRecDepth 100000
open Go
instance vEx (n : Nat) : OfNat Ex n := ⟨.v n⟩
abbrev q (o : POp) (xs : List Ex) (k : T) : T := .p (.p o) xs none k
abbrev qt (o : POp) (xs : List Ex) (g : Nat) (k : T) : T := .p (.p o) xs (some (g, true)) k
abbrev qf (o : POp) (xs : List Ex) (g : Nat) (k : T) : T := .p (.p o) xs (some (g, false)) k
def T5 : T :=
(.p .box [0] none
(q (.call 7) [1]
(q (.un .not) [4]
(qf (.mv) [2] 5
(qf (.call 7) [6] 5
(qf (.un .not) [7] 5
(q (.pick) [5, .k (.bool true), 8]
(qf (.fld 0 (some 3)) [3] 9
(qf (.call 8) [10] 9
(qf (.un .not) [11] 9
(q (.pick) [9, .k (.bool true), 12]
(.ite (.v 13) (q (.call 9) []
(.ret [14]))
(q (.fld 0 none) [3]
(q (.fld 1 none) [3]
(q (.fld 2 none) [3]
(.s (.callI 10) [14, 15, 16] none
(q (.fld 0 none) [3]
(q (.fld 1 none) [3]
(q (.fld 2 none) [3]
(.s (.callI 10) [18, 19, 20] none
(q (.isnil 1 false) [17]
(qf (.mv) [21] 22
(qf (.isnil 1 false) [23] 22
(q (.pick) [22, .k (.bool true), 24]
(.ite (.v 25) (.ret [.k (.bool false)])
(.s (.callI 19) [17, 1] none
(.s (.callI 19) [21, 1] none
(.s (.callI 20) [17] none
(q (.isnil 1 false) [28]
(.ite (.v 29) (.ret [.k (.bool false)])
(.s (.callI 19) [28, 2] none
(.s (.callI 21) [17, 21] none
(q (.un .not) [31]
(.ite (.v 32) (.ret [.k (.bool false)])
(.s (.callI 19) [17, 2] none
(.s (.callI 21) [17, 28] none
(qt (.call 9) [] 34
(q (.pick) [34, 35, .k (.bool false)]
(.ret [36])))))))))))))))))))))))))))))))))))))))
def H5 : List (Nat × Nat) := [(35, 5), (33, 5), (31, 5), (28, 5), (26, 5), (24, 5), (3, 5)]
def T7 : T :=
(.loop 0 [.k (.int .i64 0), .k (.bool false)] (q (.lenSl) [0]
(q (.bin .lss) [1, 3]
(qt (.mv) [0] 4
(qt (.lenSl) [5] 4
(qt (.bin .leq) [6, .k (.int .i64 40)] 4
(q (.pick) [4, 7, .k (.bool false)]
(.ite (.v 8) (q (.idxS 10) [0, 1]
(q (.off 1) [9]
(q (.ldE (some 9)) [10]
(q (.call 22) [11]
(q (.un .not) [12]
(.ite (.v 13) (.ret [.k (.bool false)])
(q (.bin .add) [1, .k (.int .i64 1)]
(.next 0 [14, 2]))))))))
(q (.lenSl) [0]
(q (.bin .leq) [9, .k (.int .i64 40)]
(.ret [10])))))))))))
def H7 : List (Nat × Nat) := [(18, 1), (17, 1)]
def T8 : T :=
(.p .box [0] none
(q (.fld 0 none) [1]
(q (.bin .geq) [2, .k (.int .i64 1)]
(qt (.fld 0 none) [1] 3
(qt (.bin .leq) [4, .k (.int .i64 256)] 3
(q (.pick) [3, 5, .k (.bool false)]
(qt (.fld 1 none) [1] 6
(qt (.bin .geq) [7, .k (.int .i64 1)] 6
(q (.pick) [6, 8, .k (.bool false)]
(qt (.fld 1 none) [1] 9
(qt (.bin .leq) [10, .k (.int .i64 1000000)] 9
(q (.pick) [9, 11, .k (.bool false)]
(qt (.fld 2 none) [1] 12
(qt (.bin .geq) [13, .k (.int .i64 1)] 12
(q (.pick) [12, 14, .k (.bool false)]
(qt (.fld 2 none) [1] 15
(qt (.bin .leq) [16, .k (.int .i64 1000000)] 15
(q (.pick) [15, 17, .k (.bool false)]
(.ret [18])))))))))))))))))))
def H8 : List (Nat × Nat) := [(27, 3), (22, 3), (17, 3), (12, 3), (7, 3), (3, 3), (1, 3)]
def T9 : T :=
(q (.call 23) [.k (.str [114, 111, 111, 116, 58, 111, 98, 106, 101, 99, 116, 95, 114, 58, 102, 105, 108, 101, 95, 116, 58, 115, 48])]
(.p (.wr 0 9) [.k (.agg [(.int .i64 0), (.int .i64 0), (.bool false), (.bool false), (.str []), (.str []), (.str []), .nils, (.int .i64 0)]), 0] none
(q (.fld 0 (some 9)) [1]
(q (.call 24) [2]
(q (.ext 0) [3]
(q (.ext 1) [3]
(q (.call 25) [4]
(q (.ext 0) [6]
(q (.ext 1) [6]
(.p (.wr 0 9) [.k (.agg [(.int .i64 0), (.int .i64 0), (.bool false), (.bool false), (.str []), (.str []), (.str []), .nils, (.int .i64 0)]), 7] none
(q (.bin .neq) [4, .k (.str [100, 101, 110, 105, 101, 100, 32, 123, 32, 114, 101, 97, 100, 32, 119, 114, 105, 116, 101, 32, 125, 32, 102, 111, 114, 32, 114, 111, 111, 116, 58, 115, 121, 115, 116, 101, 109, 58, 117, 115, 101, 114, 95, 116, 58, 115, 48, 32, 116, 111, 32, 114, 111, 111, 116, 58, 111, 98, 106, 101, 99, 116, 95, 114, 58, 102, 105, 108, 101, 95, 116, 58, 115, 48, 32, 58, 32, 102, 105, 108, 101, 32, 116, 105, 109, 101, 32, 53, 32, 115, 101, 113, 32, 49, 32, 99, 111, 117, 110, 116, 32, 50])]
(qf (.mv) [5] 10
(qf (.bin .neq) [11, .k (.int .i64 0)] 10
(q (.pick) [10, .k (.bool true), 12]
(qf (.mv) [8] 13
(qf (.bin .neq) [14, .k (.int .i64 0)] 13
(q (.pick) [13, .k (.bool true), 15]
(qf (.fld 0 (some 9)) [9] 16
(qf (.bslice false 9) [17] 16
(qf (.fld 0 (some 9)) [1] 16
(qf (.bslice false 9) [19] 16
(qf (.call 17) [18, 20] 16
(qf (.un .not) [21] 16
(q (.pick) [16, .k (.bool true), 22]
(.ite (.v 23) (.ret [.k (.bool false)])
(.s (.callI 10) [.k (.int .i64 2), .k (.int .i64 2), .k (.int .i64 10)] none
(q (.isnil 1 false) [24]
(.s (.callI 10) [.k (.int .i64 0), .k (.int .i64 2), .k (.int .i64 10)] (some (25, false))
(qf (.isnil 1 true) [26] 25
(q (.pick) [25, .k (.bool true), 27]
(.s (.callI 10) [.k (.int .i64 2), .k (.int .i64 0), .k (.int .i64 10)] (some (28, false))
(qf (.isnil 1 true) [29] 28
(q (.pick) [28, .k (.bool true), 30]
(.ite (.v 31) (.ret [.k (.bool false)])
(.p (.wr 0 1) [1, .k (.int .i64 0)] none
(.p (.wr 8 1) [32, .k (.int .i64 1)] none
(q (.fld 0 (some 9)) [33]
(.s (.callI 15) [24, 34] none
(q (.fld 0 (some 9)) [33]
(.s (.callI 15) [24, 36] none
(q (.fld 0 (some 9)) [33]
(.s (.callI 15) [24, 38] none
(.s (.callI 12) [24] none
(q (.un .not) [35]
(qf (.mv) [37] 41
(q (.pick) [41, .k (.bool true), 42]
(qf (.mv) [39] 43
(q (.pick) [43, .k (.bool true), 44]
(qf (.mv) [40] 45
(qf (.lenSl) [46] 45
(qf (.bin .neq) [47, .k (.int .i64 1)] 45
(q (.pick) [45, .k (.bool true), 48]
(qf (.mv) [40] 49
(qf (.idxS 9) [50, .k (.int .i64 0)] 49
(qf (.off 8) [51] 49
(.s (.ld none) [52] (some (49, false))
(qf (.bin .neq) [53, .k (.int .i64 2)] 49
(q (.pick) [49, .k (.bool true), 54]
(.ite (.v 55) (.ret [.k (.bool false)])
(.p (.wr 0 1) [33, .k (.int .i64 10)] none
(q (.fld 0 (some 9)) [56]
(.s (.callI 15) [24, 57] none
(q (.call 23) [.k (.str [98])]
(.s (.callI 15) [24, 59] none
(q (.call 23) [.k (.str [99])]
(.s (.callI 15) [24, 61] none
(.s (.callI 16) [24] none
(q (.ext 0) [63]
(q (.ext 1) [63]
(.s (.callI 12) [24] none
(q (.un .not) [58]
(qt (.mv) [62] 67
(q (.pick) [67, 68, .k (.bool false)]
(qt (.mv) [64] 69
(qt (.bin .eql) [70, .k (.int .i64 1)] 69
(q (.pick) [69, 71, .k (.bool false)]
(qt (.mv) [65] 72
(qt (.bin .eql) [73, .k (.int .i64 3)] 72
(q (.pick) [72, 74, .k (.bool false)]
(qt (.mv) [66] 75
(qt (.lenSl) [76] 75
(qt (.bin .eql) [77, .k (.int .i64 2)] 75
(q (.pick) [75, 78, .k (.bool false)]
(qt (.mv) [66] 79
(qt (.idxS 9) [80, .k (.int .i64 0)] 79
(qt (.off 5) [81] 79
(.s (.ld none) [82] (some (79, true))
(qt (.bin .eql) [83, .k (.str [98])] 79
(q (.pick) [79, 84, .k (.bool false)]
(qt (.mv) [66] 85
(qt (.idxS 9) [86, .k (.int .i64 1)] 85
(qt (.off 5) [87] 85
(.s (.ld none) [88] (some (85, true))
(qt (.bin .eql) [89, .k (.str [99])] 85
(q (.pick) [85, 90, .k (.bool false)]
(.ret [91]))))))))))))))))))))))))))))))))))))))))))))))))))))))))))))))))))))))))))))))))))))))))))))))))
def H9 : List (Nat × Nat) := [(88, 3), (56, 3), (55, 3), (4, 6), (1, 3)]
def T10 : T :=
(.s (.callI 26) [1, 2, .k (.int .i64 1024)] none
(q (.bin .lss) [0, .k (.int .i64 1)]
(qf (.mv) [0] 4
(qf (.bin .gtr) [5, .k (.int .i64 256)] 4
(q (.pick) [4, .k (.bool true), 6]
(qf (.mv) [3] 7
(qf (.isnil 1 false) [8] 7
(q (.pick) [7, .k (.bool true), 9]
(.ite (.v 10) (.ret [.k .nilp])
(q (.build [(.int .i64 0), .nils, (.int .i64 0), (.int .i64 0), .nilp] [(0, 1), (4, 1)]) [0, 3]
(.s (.box) [11] none
(.ret [12]))))))))))))
def H10 : List (Nat × Nat) := []
def T12 : T :=
(.s (.callI 27) [0] none
(q (.un .not) [1]
(.ite (.v 2) (.ret [.k .nils])
(q (.nilchk) [0]
(q (.off 1) [3]
(.s (.ld none) [4] none
(q (.lenSl) [5]
(.loop 0 [.k (.int .i64 0), .k .nils] (q (.bin .lss) [7, 6]
(.ite (.v 9) (q (.idxS 9) [5, 7]
(.s (.ld (some 9)) [10] none
(.p (.wr 0 9) [.k (.agg [(.int .i64 0), (.int .i64 0), (.bool false), (.bool false), (.str []), (.str []), (.str []), .nils, (.int .i64 0)]), 11] none
(q (.fld 0 (some 9)) [12]
(q (.call 28) [13]
(q (.bslice false 9) [14]
(.s (.appX 9) [8, 15] none
(q (.bin .add) [7, .k (.int .i64 1)]
(.next 0 [17, 16])))))))))
(.ret [8])))))))))))
def H12 : List (Nat × Nat) := [(22, 999997), (5, 7)]
def T13 : T :=
(.s (.callI 27) [0] none
(.ite (.v 1) (q (.nilchk) [0]
(q (.off 1) [2]
(.s (.st 1) [3, .k .nils] none
(.ret []))))
(.ret [])))
def H13 : List (Nat × Nat) := []
def T14 : T :=
(.p .box [0] none
(q (.fld 0 none) [1]
(q (.bin .lss) [2, .k (.int .i64 0)]
(qf (.fld 0 none) [1] 3
(qf (.bin .gtr) [4, .k (.int .i64 1125899906842624)] 3
(q (.pick) [3, .k (.bool true), 5]
(qf (.fld 1 none) [1] 6
(qf (.bin .lss) [7, .k (.int .i64 0)] 6
(q (.pick) [6, .k (.bool true), 8]
(qf (.fld 1 none) [1] 9
(qf (.bin .gtr) [10, .k (.int .i64 1125899906842624)] 9
(q (.pick) [9, .k (.bool true), 11]
(qf (.fld 8 none) [1] 12
(qf (.bin .lss) [13, .k (.int .i64 1)] 12
(q (.pick) [12, .k (.bool true), 14]
(qf (.fld 8 none) [1] 15
(qf (.bin .gtr) [16, .k (.int .i64 2147483647)] 15
(q (.pick) [15, .k (.bool true), 17]
(.ite (.v 18) (.ret [.k (.int .i64 3)])
(q (.fld 4 none) [1]
(q (.call 29) [19]
(q (.un .not) [20]
(qf (.fld 5 none) [1] 21
(qf (.call 29) [22] 21
(qf (.un .not) [23] 21
(q (.pick) [21, .k (.bool true), 24]
(.ite (.v 25) (.ret [.k (.int .i64 2)])
(q (.fld 6 none) [1]
(q (.call 30) [26]
(q (.un .not) [27]
(.ite (.v 28) (.ret [.k (.int .i64 10)])
(q (.fld 7 none) [1]
(q (.lenSl) [29]
(q (.bin .eql) [30, .k (.int .i64 0)]
(.ite (.v 31) (.ret [.k (.int .i64 2)])
(q (.fld 7 none) [1]
(q (.lenSl) [32]
(q (.bin .gtr) [33, .k (.int .i64 32)]
(.ite (.v 34) (.ret [.k (.int .i64 4)])
(q (.fld 7 none) [1]
(q (.lenSl) [35]
(.loop 0 [.k (.int .i64 0), .k (.int .i64 0)] (q (.bin .lss) [37, 36]
(.ite (.v 39) (q (.idxS 1) [35, 37]
(q (.ldE none) [40]
(q (.call 30) [41]
(q (.un .not) [42]
(.ite (.v 43) (.ret [.k (.int .i64 10)])
(q (.fld 7 none) [1]
(q (.slcV 1 false true false) [44, 37]
(q (.call 31) [45, 41]
(.ite (.v 46) (.ret [.k (.int .i64 12)])
(q (.bin .add) [37, .k (.int .i64 1)]
(.next 0 [47, 38])))))))))))
(.ret [.k (.int .i64 0)])))))))))))))))))))))))))))))))))))))))))))))
def H14 : List (Nat × Nat) := [(71, 3), (66, 1), (60, 3), (56, 3), (51, 3), (46, 3), (40, 3), (35, 3), (30, 3), (25, 3), (20, 3), (15, 3), (10, 3), (6, 3), (1, 3)]
def T15 : T :=
(.s (.box) [1] none
(.s (.callI 27) [0] none
(q (.un .not) [3]
(.s (.ld (some 9)) [2] (some (4, false))
(qf (.call 14) [5] 4
(qf (.bin .neq) [6, .k (.int .i64 0)] 4
(q (.pick) [4, .k (.bool true), 7]
(.ite (.v 8) (.ret [.k (.bool false)])
(q (.nilchk) [0]
(q (.off 4) [9]
(.s (.ld none) [10] none
(.s (.ld (some 9)) [2] none
(q (.call 33) [12]
(q (.off 0) [2]
(.s (.ld none) [14] none
(.s (.callI 32) [11, 13, 15] none
(q (.un .not) [16]
(.ite (.v 17) (q (.nilchk) [0]
(q (.off 2) [18]
(.s (.ld none) [19] none
(q (.off 8) [2]
(.s (.ld none) [21] none
(q (.bin .add) [20, 22]
(q (.nilchk) [0]
(q (.off 2) [24]
(.s (.st 1) [25, 23] none
(.ret [.k (.bool false)]))))))))))
(q (.nilchk) [0]
(q (.off 1) [18]
(.s (.ld none) [19] none
(q (.mkfunc 35) [2]
(.s (.callI 34) [20, 21] none
(q (.bin .geq) [22, .k (.int .i64 0)]
(.ite (.v 23) (q (.nilchk) [0]
(q (.off 1) [24]
(.s (.ld none) [25] none
(q (.idxS 9) [26, 22]
(q (.off 8) [27]
(.s (.ld none) [28] none
(q (.off 8) [2]
(.s (.ld none) [30] none
(q (.bin .add) [29, 31]
(q (.idxS 9) [26, 22]
(q (.off 8) [33]
(.s (.st 1) [34, 32] none
(.ret [.k (.bool false)])))))))))))))
(q (.nilchk) [0]
(q (.off 1) [24]
(.s (.ld none) [25] none
(q (.nilchk) [0]
(q (.off 1) [27]
(.s (.ld none) [28] none
(q (.lenSl) [29]
(q (.nilchk) [0]
(q (.off 1) [31]
(.s (.ld none) [32] none
(q (.lenSl) [33]
(q (.slcV 9 false true true) [26, 30, 34]
(.s (.ld (some 9)) [2] none
(q (.call 28) [36]
(q (.bslice false 9) [37]
(.s (.appM 9) [35, 38] none
(q (.nilchk) [0]
(q (.off 1) [40]
(.s (.st 1) [41, 39] none
(q (.nilchk) [0]
(q (.off 1) [43]
(.s (.ld none) [44] none
(q (.lenSl) [45]
(q (.nilchk) [0]
(q (.off 0) [47]
(.s (.ld none) [48] none
(q (.bin .gtr) [46, 49]
(.ite (.v 50) (q (.nilchk) [0]
(q (.off 3) [51]
(.s (.ld none) [52] none
(q (.nilchk) [0]
(q (.off 1) [54]
(.s (.ld none) [55] none
(q (.idxS 9) [56, .k (.int .i64 0)]
(q (.off 8) [57]
(.s (.ld none) [58] none
(q (.bin .add) [53, 59]
(q (.nilchk) [0]
(q (.off 3) [61]
(.s (.st 1) [62, 60] none
(q (.nilchk) [0]
(q (.off 1) [64]
(.s (.ld none) [65] none
(q (.slcV 9 true false false) [66, .k (.int .i64 1)]
(q (.nilchk) [0]
(q (.off 1) [68]
(.s (.st 1) [69, 67] none
(.ret [.k (.bool true)])))))))))))))))))))))
(.ret [.k (.bool true)]))))))))))))))))))))))))))))))))))))))))))))))))))))))
def H15 : List (Nat × Nat) := [(75, 999999)]
def T16 : T :=
(.s (.callI 27) [0] none
(q (.un .not) [1]
(.ite (.v 2) (.ret [.k (.int .i64 0), .k (.int .i64 0)])
(q (.nilchk) [0]
(q (.off 2) [3]
(.s (.ld none) [4] none
(q (.nilchk) [0]
(q (.off 3) [6]
(.s (.ld none) [7] none
(.ret [5, 8]))))))))))
def H16 : List (Nat × Nat) := []
def T17 : T :=
(q (.lenSl) [0]
(q (.lenSl) [1]
(q (.bin .neq) [2, 3]
(.ite (.v 4) (.ret [.k (.bool false)])
(.loop 0 [.k (.int .i64 0), .k (.bool false)] (q (.lenSl) [0]
(q (.bin .lss) [5, 7]
(.ite (.v 8) (q (.idxS 9) [0, 5]
(q (.ldE (some 9)) [9]
(q (.idxS 9) [1, 5]
(q (.ldE (some 9)) [11]
(q (.call 36) [10, 12]
(q (.un .not) [13]
(qf (.mv) [0] 14
(qf (.mv) [5] 14
(qf (.idxS 9) [15, 16] 14
(qf (.off 0) [17] 14
(qf (.ldE none) [18] 14
(qf (.mv) [1] 14
(qf (.mv) [5] 14
(qf (.idxS 9) [20, 21] 14
(qf (.off 0) [22] 14
(qf (.ldE none) [23] 14
(qf (.bin .neq) [19, 24] 14
(q (.pick) [14, .k (.bool true), 25]
(qf (.mv) [0] 26
(qf (.mv) [5] 26
(qf (.idxS 9) [27, 28] 26
(qf (.off 1) [29] 26
(qf (.ldE none) [30] 26
(qf (.mv) [1] 26
(qf (.mv) [5] 26
(qf (.idxS 9) [32, 33] 26
(qf (.off 1) [34] 26
(qf (.ldE none) [35] 26
(qf (.bin .neq) [31, 36] 26
(q (.pick) [26, .k (.bool true), 37]
(qf (.mv) [0] 38
(qf (.mv) [5] 38
(qf (.idxS 9) [39, 40] 38
(qf (.off 8) [41] 38
(qf (.ldE none) [42] 38
(qf (.mv) [1] 38
(qf (.mv) [5] 38
(qf (.idxS 9) [44, 45] 38
(qf (.off 8) [46] 38
(qf (.ldE none) [47] 38
(qf (.bin .neq) [43, 48] 38
(q (.pick) [38, .k (.bool true), 49]
(.ite (.v 50) (.ret [.k (.bool false)])
(q (.bin .add) [5, .k (.int .i64 1)]
(.next 0 [51, 6])))))))))))))))))))))))))))))))))))))))))))))
(.ret [.k (.bool true)])))))))))
def H17 : List (Nat × Nat) := [(62, 1), (61, 1), (57, 1), (56, 1), (49, 1), (48, 1), (44, 1), (43, 1), (36, 1), (35, 1), (31, 1), (30, 1), (23, 1), (19, 1)]
def T18 : T :=
(.p .box [0] none
(.p .box [1] none
(q (.fld 2 none) [2]
(q (.fld 2 none) [3]
(q (.eqb false) [4, 5]
(qt (.fld 3 none) [2] 6
(qt (.fld 3 none) [3] 6
(qt (.eqb false) [7, 8] 6
(q (.pick) [6, 9, .k (.bool false)]
(qt (.fld 4 none) [2] 10
(qt (.fld 4 none) [3] 10
(qt (.bin .eql) [11, 12] 10
(q (.pick) [10, 13, .k (.bool false)]
(qt (.fld 5 none) [2] 14
(qt (.fld 5 none) [3] 14
(qt (.bin .eql) [15, 16] 14
(q (.pick) [14, 17, .k (.bool false)]
(qt (.fld 6 none) [2] 18
(qt (.fld 6 none) [3] 18
(qt (.bin .eql) [19, 20] 18
(q (.pick) [18, 21, .k (.bool false)]
(qt (.fld 7 none) [2] 22
(qt (.fld 7 none) [3] 22
(qt (.call 37) [23, 24] 22
(q (.pick) [22, 25, .k (.bool false)]
(.ret [26]))))))))))))))))))))))))))
def H18 : List (Nat × Nat) := [(41, 5), (39, 4), (34, 5), (32, 4), (27, 5), (25, 4), (20, 5), (18, 4), (13, 5), (11, 4), (7, 5), (5, 4), (3, 5), (2, 4)]
def T19 : T :=
(.loop 0 [.k (.int .i64 0)] (q (.lenSl) [1]
(q (.bin .lss) [2, 3]
(.ite (.v 4) (q (.idxS 10) [1, 2]
(q (.off 0) [5]
(q (.ldE none) [6]
(q (.bin .rem) [7, .k (.int .u8 2)]
(q (.bin .eql) [8, .k (.int .u8 1)]
(.ite (.v 9) (.s (.callI 13) [0] none
(q (.bin .add) [2, .k (.int .i64 1)]
(.next 0 [11])))
(q (.idxS 10) [1, 2]
(q (.off 1) [10]
(q (.ldE (some 9)) [11]
(.s (.callI 15) [0, 12] none
(q (.bin .add) [2, .k (.int .i64 1)]
(.next 0 [14]))))))))))))
(.ret [])))))
def H19 : List (Nat × Nat) := [(24, 1), (23, 1), (14, 1), (13, 1)]
def T20 : T :=
(.s (.callI 27) [0] none
(q (.un .not) [1]
(.ite (.v 2) (.ret [.k .nilp])
(q (.nilchk) [0]
(.s (.ld (some 5)) [3] none
(.s (.alloc [(.int .i64 0), .nils, (.int .i64 0), (.int .i64 0), .nilp]) [] none
(.s (.st 5) [5, 4] none
(.s (.callI 12) [0] none
(q (.off 1) [5]
(.s (.st 1) [8, 7] none
(q (.nilchk) [0]
(q (.off 4) [10]
(.s (.ld none) [11] none
(.s (.callI 38) [12] none
(q (.off 4) [5]
(.s (.st 1) [14, 13] none
(.ret [5])))))))))))))))))
def H20 : List (Nat × Nat) := []
def T21 : T :=
(.s (.callI 16) [0] none
(q (.ext 0) [2]
(q (.ext 1) [2]
(.s (.callI 16) [1] none
(q (.ext 0) [5]
(q (.ext 1) [5]
(q (.bin .eql) [3, 6]
(qt (.mv) [4] 8
(qt (.mv) [7] 8
(qt (.bin .eql) [9, 10] 8
(q (.pick) [8, 11, .k (.bool false)]
(qt (.mv) [0] 12
(.s (.callI 12) [13] (some (12, true))
(qt (.mv) [1] 12
(.s (.callI 12) [15] (some (12, true))
(.s (.callS 17) [14, 16] (some (12, true))
(q (.pick) [12, 17, .k (.bool false)]
(.ret [18]))))))))))))))))))
def H21 : List (Nat × Nat) := [(32, 999998)]
def T22 : T :=
(.p .box [0] none
(q (.fld 4 none) [1]
(q (.lenStr) [2]
(q (.bin .gtr) [3, .k (.int .i64 300)]
(qf (.fld 5 none) [1] 4
(qf (.lenStr) [5] 4
(qf (.bin .gtr) [6, .k (.int .i64 300)] 4
(q (.pick) [4, .k (.bool true), 7]
(qf (.fld 6 none) [1] 8
(qf (.lenStr) [9] 8
(qf (.bin .gtr) [10, .k (.int .i64 300)] 8
(q (.pick) [8, .k (.bool true), 11]
(qf (.fld 7 none) [1] 12
(qf (.lenSl) [13] 12
(qf (.bin .gtr) [14, .k (.int .i64 40)] 12
(q (.pick) [12, .k (.bool true), 15]
(.ite (.v 16) (.ret [.k (.bool false)])
(.loop 0 [.k (.int .i64 0), .k (.bool false)] (q (.fld 7 none) [1]
(q (.lenSl) [19]
(q (.bin .lss) [17, 20]
(.ite (.v 21) (q (.fld 7 none) [1]
(q (.idxS 1) [22, 17]
(q (.ldE none) [23]
(q (.lenStr) [24]
(q (.bin .gtr) [25, .k (.int .i64 300)]
(.ite (.v 26) (.ret [.k (.bool false)])
(q (.bin .add) [17, .k (.int .i64 1)]
(.next 0 [27, 18]))))))))
(.ret [.k (.bool true)])))))))))))))))))))))))
def H22 : List (Nat × Nat) := [(36, 1), (33, 3), (27, 3), (21, 3), (15, 3), (9, 3), (4, 3), (1, 3)]
def T23 : T :=
(q (.bslice false 1) [.k (.str [114, 101, 97, 100]), .k (.str [119, 114, 105, 116, 101])]
(q (.build [(.int .i64 0), (.int .i64 0), (.bool false), (.bool false), (.str []), (.str []), (.str []), .nils, (.int .i64 0)] [(0, 1), (1, 1), (4, 1), (5, 1), (6, 1), (7, 1), (8, 1)]) [.k (.int .i64 5), .k (.int .i64 1), .k (.str [114, 111, 111, 116, 58, 115, 121, 115, 116, 101, 109, 58, 117, 115, 101, 114, 95, 116, 58, 115, 48]), 0, .k (.str [102, 105, 108, 101]), 1, .k (.int .i64 2)]
(.p (.wr 0 9) [.k (.agg [(.int .i64 0), (.int .i64 0), (.bool false), (.bool false), (.str []), (.str []), (.str []), .nils, (.int .i64 0)]), 2] none
(q (.fld 0 (some 9)) [3]
(.ret [4])))))
def H23 : List (Nat × Nat) := [(2, 4)]
def T24 : T :=
(.p .box [0] none
(q (.fld 0 (some 9)) [1]
(q (.call 14) [2]
(q (.bin .neq) [3, .k (.int .i64 0)]
(.ite (.v 4) (.ret [.k (.str []), 3])
(q (.fld 0 (some 9)) [1]
(q (.call 39) [5]
(.ret [6, .k (.int .i64 0)]))))))))
def H24 : List (Nat × Nat) := [(1, 3)]
def T25 : T :=
(q (.call 41) [0, .k (.str [32])]
(q (.call 40) [1]
(q (.ext 0) [2]
(q (.ext 1) [2]
(.p (.wr 0 9) [.k (.agg [(.int .i64 0), (.int .i64 0), (.bool false), (.bool false), (.str []), (.str []), (.str []), .nils, (.int .i64 0)]), 3] none
(q (.un .not) [4]
(.ite (.v 6) (q (.build [(.int .i64 0), (.int .i64 0), (.bool false), (.bool false), (.str []), (.str []), (.str []), .nils, (.int .i64 0)] []) []
(.p (.wr 0 9) [.k (.agg [(.int .i64 0), (.int .i64 0), (.bool false), (.bool false), (.str []), (.str []), (.str []), .nils, (.int .i64 0)]), 7] none
(q (.fld 0 (some 9)) [8]
(.ret [9, .k (.int .i64 9)]))))
(q (.fld 0 (some 9)) [5]
(q (.call 24) [7]
(q (.ext 0) [8]
(q (.ext 1) [8]
(q (.bin .neq) [10, .k (.int .i64 0)]
(qf (.mv) [9] 11
(qf (.mv) [0] 11
(qf (.bin .neq) [12, 13] 11
(q (.pick) [11, .k (.bool true), 14]
(.ite (.v 15) (q (.build [(.int .i64 0), (.int .i64 0), (.bool false), (.bool false), (.str []), (.str []), (.str []), .nils, (.int .i64 0)] []) []
(.p (.wr 0 9) [.k (.agg [(.int .i64 0), (.int .i64 0), (.bool false), (.bool false), (.str []), (.str []), (.str []), .nils, (.int .i64 0)]), 16] none
(q (.fld 0 (some 9)) [17]
(.ret [18, .k (.int .i64 9)]))))
(q (.fld 0 (some 9)) [5]
(.p (.wr 0 9) [.k (.agg [(.int .i64 0), (.int .i64 0), (.bool false), (.bool false), (.str []), (.str []), (.str []), .nils, (.int .i64 0)]), 16] none
(q (.fld 0 (some 9)) [17]
(.ret [18, .k (.int .i64 0)])))))))))))))))))))))
def H25 : List (Nat × Nat) := [(4, 6), (2, 4)]
def T26 : T :=
(q (.bin .lss) [0, .k (.int .i64 1)]
(qf (.mv) [0] 3
(qf (.bin .gtr) [4, .k (.int .i64 1000000)] 3
(q (.pick) [3, .k (.bool true), 5]
(qf (.mv) [1] 6
(qf (.bin .lss) [7, .k (.int .i64 1)] 6
(q (.pick) [6, .k (.bool true), 8]
(qf (.mv) [1] 9
(qf (.bin .gtr) [10, .k (.int .i64 1000000)] 9
(q (.pick) [9, .k (.bool true), 11]
(qf (.mv) [2] 12
(qf (.bin .lss) [13, .k (.int .i64 1)] 12
(q (.pick) [12, .k (.bool true), 14]
(qf (.mv) [2] 15
(qf (.bin .gtr) [16, .k (.int .i64 1024)] 15
(q (.pick) [15, .k (.bool true), 17]
(.ite (.v 18) (.ret [.k .nilp])
(.s (.mkmap) [] none
(q (.build [(.int .i64 0), (.int .i64 0), (.int .i64 0), (.int .i64 0), (.int .i64 0), (.int .i64 0), .nilm] [(0, 1), (1, 1), (2, 1), (6, 1)]) [0, 1, 2, 19]
(.s (.box) [20] none
(.ret [21])))))))))))))))))))))
def H26 : List (Nat × Nat) := []
def T27 : T :=
(q (.isnil 1 true) [0]
(qt (.mv) [0] 1
(qt (.nilchk) [2] 1
(qt (.off 0) [3] 1
(.s (.ld none) [4] (some (1, true))
(qt (.bin .gtr) [5, .k (.int .i64 0)] 1
(q (.pick) [1, 6, .k (.bool false)]
(.ret [7]))))))))
def H27 : List (Nat × Nat) := []
def T28 : T :=
(.p .box [0] none
(q (.fld 7 none) [1]
(q (.call 42) [2]
(.p (.wr 7 1) [1, 3] none
(q (.fld 0 (some 9)) [4]
(.p (.wr 0 9) [.k (.agg [(.int .i64 0), (.int .i64 0), (.bool false), (.bool false), (.str []), (.str []), (.str []), .nils, (.int .i64 0)]), 5] none
(q (.fld 0 (some 9)) [6]
(.ret [7]))))))))
def H28 : List (Nat × Nat) := [(6, 3), (3, 3), (2, 4), (1, 3)]
def T29 : T :=
(q (.lenStr) [0]
(.loop 0 [.k (.int .i64 0), .k (.bool false)] (q (.bin .lss) [2, 1]
(.ite (.v 4) (q (.idxStr) [0, 2]
(q (.bin .lss) [5, .k (.int .u8 33)]
(qf (.mv) [0] 6
(qf (.mv) [2] 6
(qf (.idxStr) [7, 8] 6
(qf (.bin .gtr) [9, .k (.int .u8 126)] 6
(q (.pick) [6, .k (.bool true), 10]
(.ite (.v 11) (.ret [.k (.bool false)])
(q (.bin .add) [2, .k (.int .i64 1)]
(.next 0 [12, 3]))))))))))
(q (.lenStr) [0]
(q (.bin .geq) [5, .k (.int .i64 1)]
(qt (.mv) [0] 6
(qt (.lenStr) [7] 6
(qt (.bin .leq) [8, .k (.int .i64 8192)] 6
(q (.pick) [6, 9, .k (.bool false)]
(.ret [10])))))))))))
def H29 : List (Nat × Nat) := []
def T30 : T :=
(q (.call 43) [0]
(qt (.mv) [0] 1
(qt (.call 44) [2] 1
(qt (.un .not) [3] 1
(q (.pick) [1, 4, .k (.bool false)]
(.ret [5]))))))
def H30 : List (Nat × Nat) := []
def T31 : T :=
(q (.call 45) [0, 1]
(q (.bin .geq) [2, .k (.int .i64 0)]
(.ret [3])))
def H31 : List (Nat × Nat) := []
def T32 : T :=
(.s (.callI 46) [0] none
(q (.un .not) [3]
(.ite (.v 4) (.ret [.k (.bool false)])
(.s (.callI 47) [0, 2] none
(q (.nilchk) [0]
(q (.off 3) [6]
(.s (.st 1) [7, 5] none
(q (.nilchk) [0]
(q (.off 6) [9]
(.s (.ld none) [10] none
(.s (.look false [.s] (.agg [(.int .i64 0), (.int .i64 0), (.int .i64 0)]) true) [11, 1] none
(q (.ext 0) [12]
(q (.ext 1) [12]
(.p (.wr 0 3) [.k (.agg [(.int .i64 0), (.int .i64 0), (.int .i64 0)]), 13] none
(q (.un .not) [14]
(.join 0 2 (.ite (.v 16) (q (.nilchk) [0]
(q (.off 6) [17]
(.s (.ld none) [18] none
(.s (.lenM) [19] none
(q (.nilchk) [0]
(q (.off 2) [21]
(.s (.ld none) [22] none
(q (.bin .geq) [20, 23]
(.join 1 0 (.ite (.v 24) (.s (.callI 48) [0, 5] none
(.next 1 []))
(.next 1 []))
(q (.nilchk) [0]
(q (.off 6) [25]
(.s (.ld none) [26] none
(.s (.lenM) [27] none
(q (.nilchk) [0]
(q (.off 2) [29]
(.s (.ld none) [30] none
(q (.bin .geq) [28, 31]
(.ite (.v 32) (q (.nilchk) [0]
(q (.off 5) [33]
(.s (.ld none) [34] none
(q (.bin .add) [35, .k (.int .i64 1)]
(q (.nilchk) [0]
(q (.off 5) [37]
(.s (.st 1) [38, 36] none
(.ret [.k (.bool false)]))))))))
(q (.nilchk) [0]
(q (.off 0) [33]
(.s (.ld none) [34] none
(q (.build [(.int .i64 0), (.int .i64 0), (.int .i64 0)] [(0, 1), (1, 1)]) [35, 5]
(.p (.wr 0 3) [15, 36] none
(.next 0 [.k (.bool false), 37]))))))))))))))))))))))))
(.next 0 [.k (.bool false), 15]))
(q (.fld 0 (some 3)) [18]
(.s (.callI 49) [0, 19, 5] none
(.p (.wr 0 3) [18, 20] none
(q (.fld 0 none) [21]
(q (.bin .eql) [22, .k (.int .i64 0)]
(.ite (.v 23) (q (.fld 2 none) [21]
(q (.bin .add) [24, .k (.int .i64 1)]
(.p (.wr 2 1) [21, 25] none
(q (.nilchk) [0]
(q (.off 5) [27]
(.s (.ld none) [28] none
(q (.bin .add) [29, .k (.int .i64 1)]
(q (.nilchk) [0]
(q (.off 5) [31]
(.s (.st 1) [32, 30] none
(q (.nilchk) [0]
(q (.off 6) [34]
(.s (.ld none) [35] none
(q (.fld 0 (some 3)) [26]
(.s (.mupd false [.s]) [36, 1, 37] none
(.ret [.k (.bool false)]))))))))))))))))
(q (.fld 0 none) [21]
(q (.bin .sub) [24, .k (.int .i64 1)]
(.p (.wr 0 1) [21, 25] none
(.p (.wr 2 1) [26, .k (.int .i64 0)] none
(q (.nilchk) [0]
(q (.off 4) [28]
(.s (.ld none) [29] none
(q (.bin .add) [30, .k (.int .i64 1)]
(q (.nilchk) [0]
(q (.off 4) [32]
(.s (.st 1) [33, 31] none
(q (.nilchk) [0]
(q (.off 6) [35]
(.s (.ld none) [36] none
(q (.fld 0 (some 3)) [27]
(.s (.mupd false [.s]) [37, 1, 38] none
(.ret [.k (.bool true)])))))))))))))))))))))))))))))))))))))))
def H32 : List (Nat × Nat) := [(95, 10), (94, 10), (91, 10), (77, 10), (74, 10), (71, 10), (8, 10)]
def T33 : T :=
(.p .box [0] none
(.p (.wr 0 1) [1, .k (.int .i64 0)] none
(.p (.wr 1 1) [2, .k (.int .i64 0)] none
(.p (.wr 8 1) [3, .k (.int .i64 1)] none
(q (.fld 0 (some 9)) [4]
(q (.call 39) [5]
(.ret [6])))))))
def H33 : List (Nat × Nat) := [(5, 3), (4, 3), (3, 3), (1, 3)]
def T34 : T :=
(q (.lenSl) [0]
(.loop 0 [.k (.int .i64 0), .k (.int .i64 0)] (q (.bin .lss) [3, 2]
(.ite (.v 5) (q (.idxS 9) [0, 3]
(.s (.ld (some 9)) [6] none
(.s (.callV) [1, 7] none
(.ite (.v 8) (.ret [3])
(q (.bin .add) [3, .k (.int .i64 1)]
(.next 0 [9, 4]))))))
(.ret [.k (.int .i64 (-1))])))))
def H34 : List (Nat × Nat) := []
def T35 : T :=
(.p .box [0] none
(q (.fld 0 (some 9)) [2]
(.s (.ld (some 9)) [1] none
(q (.call 18) [3, 4]
(.ret [5])))))
def H35 : List (Nat × Nat) := [(2, 4)]
def T36 : T :=
(.p .box [0] none
(.p .box [1] none
(q (.fld 2 none) [2]
(q (.fld 2 none) [3]
(q (.eqb true) [4, 5]
(qf (.fld 3 none) [2] 6
(qf (.fld 3 none) [3] 6
(qf (.eqb true) [7, 8] 6
(q (.pick) [6, .k (.bool true), 9]
(qf (.fld 4 none) [2] 10
(qf (.fld 4 none) [3] 10
(qf (.bin .neq) [11, 12] 10
(q (.pick) [10, .k (.bool true), 13]
(qf (.fld 5 none) [2] 14
(qf (.fld 5 none) [3] 14
(qf (.bin .neq) [15, 16] 14
(q (.pick) [14, .k (.bool true), 17]
(qf (.fld 6 none) [2] 18
(qf (.fld 6 none) [3] 18
(qf (.bin .neq) [19, 20] 18
(q (.pick) [18, .k (.bool true), 21]
(qf (.fld 7 none) [2] 22
(qf (.lenSl) [23] 22
(qf (.fld 7 none) [3] 22
(qf (.lenSl) [25] 22
(qf (.bin .neq) [24, 26] 22
(q (.pick) [22, .k (.bool true), 27]
(.ite (.v 28) (.ret [.k (.bool false)])
(.loop 0 [.k (.int .i64 0), .k (.bool false)] (q (.fld 7 none) [2]
(q (.lenSl) [31]
(q (.bin .lss) [29, 32]
(.ite (.v 33) (q (.fld 7 none) [2]
(q (.idxS 1) [34, 29]
(q (.ldE none) [35]
(q (.fld 7 none) [3]
(q (.idxS 1) [37, 29]
(q (.ldE none) [38]
(q (.bin .neq) [36, 39]
(.ite (.v 40) (.ret [.k (.bool false)])
(q (.bin .add) [29, .k (.int .i64 1)]
(.next 0 [41, 30]))))))))))
(.ret [.k (.bool true)]))))))))))))))))))))))))))))))))))
def H36 : List (Nat × Nat) := [(63, 1), (60, 5), (58, 1), (55, 4), (49, 4), (43, 5), (40, 4), (35, 5), (33, 4), (28, 5), (26, 4), (21, 5), (19, 4), (14, 5), (12, 4), (8, 5), (6, 4), (3, 5), (2, 4)]
def T37 : T :=
(q (.lenSl) [0]
(q (.lenSl) [1]
(q (.bin .neq) [2, 3]
(.ite (.v 4) (.ret [.k (.bool false)])
(q (.lenSl) [0]
(.loop 0 [.k (.int .i64 0), .k (.bool false)] (q (.bin .lss) [6, 5]
(.ite (.v 8) (q (.idxS 1) [0, 6]
(q (.ldE none) [9]
(q (.idxS 1) [1, 6]
(q (.ldE none) [11]
(q (.bin .neq) [10, 12]
(.ite (.v 13) (.ret [.k (.bool false)])
(q (.bin .add) [6, .k (.int .i64 1)]
(.next 0 [14, 7]))))))))
(.ret [.k (.bool true)])))))))))
def H37 : List (Nat × Nat) := [(22, 1), (18, 1)]
def T38 : T :=
(.s (.callI 46) [0] none
(q (.un .not) [1]
(.ite (.v 2) (.ret [.k .nilp])
(q (.nilchk) [0]
(.s (.ld (some 7)) [3] none
(.s (.alloc [(.int .i64 0), (.int .i64 0), (.int .i64 0), (.int .i64 0), (.int .i64 0), (.int .i64 0), .nilm]) [] none
(.s (.st 7) [5, 4] none
(.s (.mkmap) [] none
(q (.off 6) [5]
(.s (.st 1) [8, 7] none
(q (.nilchk) [0]
(q (.off 6) [10]
(.s (.ld none) [11] none
(.s (.rngM) [12] none
(.loop 0 [] (.s (.nextM) [13] none
(q (.ext 0) [14]
(.ite (.v 15) (.s (.entM) [13] none
(q (.ext 0) [16]
(q (.ext 1) [16]
(.p (.wr 0 3) [.k (.agg [(.int .i64 0), (.int .i64 0), (.int .i64 0)]), 18] none
(q (.off 6) [5]
(.s (.ld none) [20] none
(q (.fld 0 (some 3)) [19]
(.s (.mupd false [.s]) [21, 17, 22] none
(.next 0 [])))))))))
(.ret [5])))))))))))))))))))
def H38 : List (Nat × Nat) := [(5, 7)]
def T39 : T :=
(.p .box [0] none
(q (.fld 2 none) [1]
(.join 0 1 (.ite (.v 2) (.next 0 [.k (.str [103, 114, 97, 110, 116, 101, 100])])
(.next 0 [.k (.str [100, 101, 110, 105, 101, 100])]))
(q (.bslice false 1) [3, .k (.str [123])]
(q (.fld 7 none) [1]
(.s (.app false 1) [4, 5] none
(q (.fld 4 none) [1]
(q (.fld 5 none) [1]
(q (.fld 6 none) [1]
(q (.fld 0 none) [1]
(q (.call 50) [10]
(q (.fld 1 none) [1]
(q (.call 50) [12]
(q (.fld 8 none) [1]
(q (.call 50) [14]
(q (.bslice false 1) [.k (.str [125]), .k (.str [102, 111, 114]), 7, .k (.str [116, 111]), 8, .k (.str [58]), 9, .k (.str [116, 105, 109, 101]), 11, .k (.str [115, 101, 113]), 13, .k (.str [99, 111, 117, 110, 116]), 15]
(.s (.app false 1) [6, 16] none
(q (.fld 3 none) [1]
(.ite (.v 18) (q (.bslice false 1) [.k (.str [112, 101, 114, 109, 105, 115, 115, 105, 118, 101])]
(.s (.app false 1) [17, 19] none
(q (.call 51) [20, .k (.str [32])]
(.ret [21]))))
(q (.call 51) [17, .k (.str [32])]
(.ret [19])))))))))))))))))))))
def H39 : List (Nat × Nat) := [(31, 3), (26, 3), (23, 3), (20, 3), (18, 3), (16, 3), (14, 3), (10, 3), (5, 3), (1, 3)]
def T40 : T :=
(.join 0 3 (q (.lenSl) [0]
(q (.bin .lss) [1, .k (.int .i64 2)]
(qf (.mv) [0] 2
(qf (.idxS 1) [3, .k (.int .i64 1)] 2
(qf (.ldE none) [4] 2
(qf (.bin .neq) [5, .k (.str [123])] 2
(q (.pick) [2, .k (.bool true), 6]
(.ite (.v 7) (.next 0 [.k (.bool false), 0, .k (.agg [(.int .i64 0), (.int .i64 0), (.bool false), (.bool false), (.str []), (.str []), (.str []), .nils, (.int .i64 0)])])
(q (.idxS 1) [0, .k (.int .i64 0)]
(q (.ldE none) [8]
(q (.bin .eql) [9, .k (.str [103, 114, 97, 110, 116, 101, 100])]
(.p (.wr 2 1) [.k (.agg [(.int .i64 0), (.int .i64 0), (.bool false), (.bool false), (.str []), (.str []), (.str []), .nils, (.int .i64 0)]), 10] none
(q (.slcV 1 true false false) [0, .k (.int .i64 2)]
(.loop 1 [12, .k .nils, .k (.bool false), 11] (q (.lenSl) [13]
(q (.bin .eql) [17, .k (.int .i64 0)]
(.ite (.v 18) (.next 0 [15, 13, 16])
(q (.idxS 1) [13, .k (.int .i64 0)]
(q (.ldE none) [19]
(q (.bin .neq) [20, .k (.str [125])]
(.ite (.v 21) (q (.fld 7 none) [16]
(q (.idxS 1) [13, .k (.int .i64 0)]
(q (.ldE none) [23]
(q (.bslice false 1) [24]
(.s (.app false 1) [22, 25] none
(.p (.wr 7 1) [16, 26] none
(q (.slcV 1 true false false) [13, .k (.int .i64 1)]
(.next 1 [28, 14, 15, 27]))))))))
(q (.slcV 1 true false false) [13, .k (.int .i64 1)]
(q (.lenSl) [22]
(q (.bin .neq) [23, .k (.int .i64 12)]
(qt (.mv) [22] 24
(qt (.lenSl) [25] 24
(qt (.bin .neq) [26, .k (.int .i64 13)] 24
(q (.pick) [24, 27, .k (.bool false)]
(.ite (.v 28) (.next 0 [15, 13, 16])
(q (.idxS 1) [22, .k (.int .i64 1)]
(q (.ldE none) [29]
(q (.idxS 1) [22, .k (.int .i64 3)]
(q (.ldE none) [31]
(q (.idxS 1) [22, .k (.int .i64 5)]
(q (.ldE none) [33]
(.p (.wr 4 1) [16, 30] none
(.p (.wr 5 1) [35, 32] none
(.p (.wr 6 1) [36, 34] none
(q (.idxS 1) [22, .k (.int .i64 7)]
(q (.ldE none) [38]
(q (.call 52) [39]
(q (.ext 0) [40]
(q (.ext 1) [40]
(.p (.wr 0 1) [37, 41] none
(q (.idxS 1) [22, .k (.int .i64 9)]
(q (.ldE none) [44]
(q (.call 52) [45]
(q (.ext 0) [46]
(q (.ext 1) [46]
(.p (.wr 1 1) [43, 47] none
(q (.idxS 1) [22, .k (.int .i64 11)]
(q (.ldE none) [50]
(q (.call 52) [51]
(q (.ext 0) [52]
(q (.ext 1) [52]
(.p (.wr 8 1) [49, 53] none
(q (.lenSl) [22]
(q (.bin .eql) [56, .k (.int .i64 13)]
(.p (.wr 3 1) [55, 57] none
(q (.fld 0 (some 9)) [58]
(.p (.wr 0 9) [58, 59] none
(q (.fld 0 (some 9)) [60]
(.ret [61, .k (.bool true)])))))))))))))))))))))))))))))))))))))))))))))))))))))))))))))))
(.loop 0 [1, 3] (q (.build [(.int .i64 0), (.int .i64 0), (.bool false), (.bool false), (.str []), (.str []), (.str []), .nils, (.int .i64 0)] []) []
(.p (.wr 0 9) [5, 6] none
(q (.fld 0 (some 9)) [7]
(.ret [8, .k (.bool false)]))))))
def H40 : List (Nat × Nat) := [(87, 4), (83, 4), (78, 1), (75, 4), (70, 1), (67, 4), (62, 1), (59, 4), (58, 4), (57, 4), (55, 1), (52, 1), (49, 1), (35, 4), (31, 1), (28, 4), (25, 1), (18, 4), (15, 1), (10, 1), (2, 4)]
def T41 : T :=
(q (.call 53) [0, 1, .k (.int .i64 0), .k (.int .i64 (-1))]
(.ret [2]))
def H41 : List (Nat × Nat) := []
def T42 : T :=
(q (.isnil 0 false) [0]
(.ite (.v 1) (.ret [.k .nils])
(q (.bslice false 1) []
(.s (.app false 1) [2, 0] none
(.ret [3])))))
def H42 : List (Nat × Nat) := []
def T43 : T :=
(q (.bin .eql) [0, .k (.str [])]
(qf (.mv) [0] 1
(qf (.lenStr) [2] 1
(qf (.bin .gtr) [3, .k (.int .i64 32)] 1
(q (.pick) [1, .k (.bool true), 4]
(qf (.mv) [0] 5
(qf (.idxStr) [6, .k (.int .i64 0)] 5
(qf (.conv .i32) [7] 5
(qf (.call 54) [8] 5
(q (.pick) [5, .k (.bool true), 9]
(.ite (.v 10) (.ret [.k (.bool false)])
(q (.lenStr) [0]
(.loop 0 [.k (.int .i64 0), .k (.bool false)] (q (.bin .lss) [12, 11]
(.ite (.v 14) (q (.idxStr) [0, 12]
(q (.conv .i32) [15]
(q (.call 55) [16]
(q (.un .not) [17]
(qt (.mv) [16] 18
(qt (.call 54) [19] 18
(qt (.un .not) [20] 18
(q (.pick) [18, 21, .k (.bool false)]
(.ite (.v 22) (.ret [.k (.bool false)])
(q (.bin .add) [12, .k (.int .i64 1)]
(.next 0 [23, 13])))))))))))
(.ret [.k (.bool true)]))))))))))))))))
def H43 : List (Nat × Nat) := []
def T44 : T :=
(q (.bin .eql) [0, .k (.str [109, 111, 100, 117, 108, 101])]
(.join 0 1 (.ite (.v 1) (.next 0 [1])
(q (.bin .eql) [0, .k (.str [99, 108, 97, 115, 115])]
(.ite (.v 2) (.next 0 [2])
(q (.bin .eql) [0, .k (.str [116, 121, 112, 101])]
(.ite (.v 3) (.next 0 [3])
(q (.bin .eql) [0, .k (.str [97, 108, 105, 97, 115])]
(.ite (.v 4) (.next 0 [4])
(q (.bin .eql) [0, .k (.str [116, 121, 112, 101, 97, 116, 116, 114, 105, 98, 117, 116, 101])]
(.ite (.v 5) (.next 0 [5])
(q (.bin .eql) [0, .k (.str [97, 116, 116, 114, 105, 98, 117, 116, 101])]
(.ite (.v 6) (.next 0 [6])
(q (.bin .eql) [0, .k (.str [114, 111, 108, 101])]
(.ite (.v 7) (.next 0 [7])
(q (.bin .eql) [0, .k (.str [116, 121, 112, 101, 115])]
(.ite (.v 8) (.next 0 [8])
(q (.bin .eql) [0, .k (.str [114, 111, 108, 101, 97, 108, 108, 111, 119])]
(.ite (.v 9) (.next 0 [9])
(q (.bin .eql) [0, .k (.str [114, 111, 108, 101, 95, 116, 114, 97, 110, 115, 105, 116, 105, 111, 110])]
(.next 0 [10])))))))))))))))))))
(.ite (.v 2) (.ret [.k (.bool true)])
(q (.bin .eql) [0, .k (.str [117, 115, 101, 114])]
(.join 0 1 (.ite (.v 3) (.next 0 [3])
(q (.bin .eql) [0, .k (.str [114, 111, 108, 101, 115])]
(.ite (.v 4) (.next 0 [4])
(q (.bin .eql) [0, .k (.str [108, 101, 118, 101, 108])]
(.ite (.v 5) (.next 0 [5])
(q (.bin .eql) [0, .k (.str [114, 97, 110, 103, 101])]
(.ite (.v 6) (.next 0 [6])
(q (.bin .eql) [0, .k (.str [98, 111, 111, 108])]
(.ite (.v 7) (.next 0 [7])
(q (.bin .eql) [0, .k (.str [116, 114, 117, 101])]
(.ite (.v 8) (.next 0 [8])
(q (.bin .eql) [0, .k (.str [102, 97, 108, 115, 101])]
(.ite (.v 9) (.next 0 [9])
(q (.bin .eql) [0, .k (.str [115, 101, 110, 115, 105, 116, 105, 118, 105, 116, 121])]
(.ite (.v 10) (.next 0 [10])
(q (.bin .eql) [0, .k (.str [99, 97, 116, 101, 103, 111, 114, 121])]
(.next 0 [11])))))))))))))))))
(.ite (.v 4) (.ret [.k (.bool true)])
(q (.bin .eql) [0, .k (.str [97, 108, 108, 111, 119])]
(.join 0 1 (.ite (.v 5) (.next 0 [5])
(q (.bin .eql) [0, .k (.str [97, 117, 100, 105, 116, 97, 108, 108, 111, 119])]
(.ite (.v 6) (.next 0 [6])
(q (.bin .eql) [0, .k (.str [100, 111, 110, 116, 97, 117, 100, 105, 116])]
(.ite (.v 7) (.next 0 [7])
(q (.bin .eql) [0, .k (.str [110, 101, 118, 101, 114, 97, 108, 108, 111, 119])]
(.ite (.v 8) (.next 0 [8])
(q (.bin .eql) [0, .k (.str [116, 121, 112, 101, 95, 116, 114, 97, 110, 115, 105, 116, 105, 111, 110])]
(.ite (.v 9) (.next 0 [9])
(q (.bin .eql) [0, .k (.str [116, 121, 112, 101, 95, 99, 104, 97, 110, 103, 101])]
(.ite (.v 10) (.next 0 [10])
(q (.bin .eql) [0, .k (.str [116, 121, 112, 101, 95, 109, 101, 109, 98, 101, 114])]
(.ite (.v 11) (.next 0 [11])
(q (.bin .eql) [0, .k (.str [114, 97, 110, 103, 101, 95, 116, 114, 97, 110, 115, 105, 116, 105, 111, 110])]
(.next 0 [12])))))))))))))))
(.ite (.v 6) (.ret [.k (.bool true)])
(q (.bin .eql) [0, .k (.str [99, 111, 110, 115, 116, 114, 97, 105, 110])]
(.ite (.v 7) (.ite (.v 7) (.ret [.k (.bool true)])
(.ret [.k (.bool false)]))
(q (.bin .eql) [0, .k (.str [118, 97, 108, 105, 100, 97, 116, 101, 116, 114, 97, 110, 115])]
(.ite (.v 8) (.ite (.v 8) (.ret [.k (.bool true)])
(.ret [.k (.bool false)]))
(q (.bin .eql) [0, .k (.str [105, 102])]
(.ite (.v 9) (.ite (.v 9) (.ret [.k (.bool true)])
(.ret [.k (.bool false)]))
(q (.bin .eql) [0, .k (.str [101, 108, 115, 101])]
(.ite (.v 10) (.ite (.v 10) (.ret [.k (.bool true)])
(.ret [.k (.bool false)]))
(q (.bin .eql) [0, .k (.str [111, 112, 116, 105, 111, 110, 97, 108])]
(.ite (.v 11) (.ite (.v 11) (.ret [.k (.bool true)])
(.ret [.k (.bool false)]))
(q (.bin .eql) [0, .k (.str [114, 101, 113, 117, 105, 114, 101])]
(.ite (.v 12) (.ite (.v 12) (.ret [.k (.bool true)])
(.ret [.k (.bool false)]))
(q (.bin .eql) [0, .k (.str [115, 105, 100])]
(.ite (.v 13) (.ite (.v 13) (.ret [.k (.bool true)])
(.ret [.k (.bool false)]))
(q (.bin .eql) [0, .k (.str [102, 105, 108, 101, 99, 111, 110])]
(.ite (.v 14) (.ite (.v 14) (.ret [.k (.bool true)])
(.ret [.k (.bool false)]))
(q (.bin .eql) [0, .k (.str [112, 101, 114, 109, 105, 115, 115, 105, 118, 101])]
(.ite (.v 15) (.ite (.v 15) (.ret [.k (.bool true)])
(.ret [.k (.bool false)]))
(q (.bin .eql) [0, .k (.str [97, 115, 115, 101, 114, 116])]
(.ite (.v 16) (.ite (.v 16) (.ret [.k (.bool true)])
(.ret [.k (.bool false)]))
(q (.bin .eql) [0, .k (.str [115, 101, 108, 102])]
(.ite (.v 17) (.ite (.v 17) (.ret [.k (.bool true)])
(.ret [.k (.bool false)]))
(q (.bin .eql) [0, .k (.str [105, 110])]
(.ite (.v 18) (.ret [.k (.bool true)])
(.ret [.k (.bool false)]))))))))))))))))))))))))))))))))))
def H44 : List (Nat × Nat) := []
def T45 : T :=
(q (.lenSl) [0]
(.loop 0 [.k (.int .i64 0), .k (.int .i64 0)] (q (.bin .lss) [3, 2]
(.ite (.v 5) (q (.idxS 1) [0, 3]
(q (.ldE none) [6]
(q (.bin .eql) [1, 7]
(.ite (.v 8) (.ret [3])
(q (.bin .add) [3, .k (.int .i64 1)]
(.next 0 [9, 4]))))))
(.ret [.k (.int .i64 (-1))])))))
def H45 : List (Nat × Nat) := [(14, 1)]
def T46 : T :=
(q (.isnil 1 true) [0]
(qt (.mv) [0] 1
(qt (.nilchk) [2] 1
(qt (.off 6) [3] 1
(.s (.ld none) [4] (some (1, true))
(qt (.isnil 2 true) [5] 1
(q (.pick) [1, 6, .k (.bool false)]
(.ret [7]))))))))
def H46 : List (Nat × Nat) := []
def T47 : T :=
(q (.nilchk) [0]
(q (.off 3) [2]
(.s (.ld none) [3] none
(q (.mn) [1, .k (.int .i64 1125899906842624)]
(q (.mx) [4, 5]
(.ret [6]))))))
def H47 : List (Nat × Nat) := []
def T48 : T :=
(q (.nilchk) [0]
(q (.off 6) [2]
(.s (.ld none) [3] none
(.s (.rngM) [4] none
(.loop 0 [] (.s (.nextM) [5] none
(q (.ext 0) [6]
(.ite (.v 7) (.s (.entM) [5] none
(q (.ext 0) [8]
(q (.ext 1) [8]
(.p (.wr 0 3) [.k (.agg [(.int .i64 0), (.int .i64 0), (.int .i64 0)]), 10] none
(q (.fld 0 (some 3)) [11]
(.s (.callI 56) [0, 12, 1] none
(.ite (.v 13) (q (.nilchk) [0]
(q (.off 6) [14]
(.s (.ld none) [15] none
(.s (.mdel false [.s]) [16, 9] none
(.next 0 [])))))
(.next 0 []))))))))
(.ret [])))))))))
def H48 : List (Nat × Nat) := [(5, 7)]
def T49 : T :=
(.p .box [1] none
(q (.fld 1 none) [3]
(q (.bin .sub) [2, 4]
(q (.nilchk) [0]
(q (.off 1) [6]
(.s (.ld none) [7] none
(q (.bin .quo) [5, 8]
(q (.nilchk) [0]
(q (.off 0) [10]
(.s (.ld none) [11] none
(q (.fld 0 none) [3]
(q (.bin .sub) [12, 13]
(q (.mn) [9, 14]
(q (.fld 0 none) [3]
(q (.bin .add) [16, 15]
(.p (.wr 0 1) [3, 17] none
(q (.fld 1 none) [18]
(q (.nilchk) [0]
(q (.off 1) [20]
(.s (.ld none) [21] none
(q (.bin .mul) [15, 22]
(q (.bin .add) [19, 23]
(.p (.wr 1 1) [18, 24] none
(q (.fld 0 none) [25]
(q (.nilchk) [0]
(q (.off 0) [27]
(.s (.ld none) [28] none
(q (.bin .eql) [26, 29]
(.ite (.v 30) (.p (.wr 1 1) [25, 2] none
(q (.fld 0 (some 3)) [31]
(.p (.wr 0 3) [.k (.agg [(.int .i64 0), (.int .i64 0), (.int .i64 0)]), 32] none
(q (.fld 0 (some 3)) [33]
(.ret [34])))))
(q (.fld 0 (some 3)) [25]
(.p (.wr 0 3) [.k (.agg [(.int .i64 0), (.int .i64 0), (.int .i64 0)]), 31] none
(q (.fld 0 (some 3)) [32]
(.ret [33])))))))))))))))))))))))))))))))))
def H49 : List (Nat × Nat) := [(48, 6), (40, 6), (39, 6), (30, 6), (29, 6), (25, 6), (21, 6), (9, 6), (6, 8), (4, 6)]
def T50 : T :=
(q (.call 57) [0]
(.ret [1]))
def H50 : List (Nat × Nat) := []
def T54 : T :=
(q (.bin .geq) [0, .k (.int .i32 48)]
(qt (.mv) [0] 1
(qt (.bin .leq) [2, .k (.int .i32 57)] 1
(q (.pick) [1, 3, .k (.bool false)]
(.ret [4])))))
def H54 : List (Nat × Nat) := []
def T55 : T :=
(q (.bin .geq) [0, .k (.int .i32 97)]
(qt (.mv) [0] 1
(qt (.bin .leq) [2, .k (.int .i32 122)] 1
(q (.pick) [1, 3, .k (.bool false)]
(qf (.mv) [0] 4
(qf (.bin .geq) [5, .k (.int .i32 65)] 4
(qf (.mv) [6] 4
(qt (.mv) [0] 7
(qt (.bin .leq) [8, .k (.int .i32 90)] 7
(qf (.pick) [7, 9, .k (.bool false)] 4
(q (.pick) [4, .k (.bool true), 10]
(qf (.mv) [0] 11
(qf (.bin .eql) [12, .k (.int .i32 95)] 11
(q (.pick) [11, .k (.bool true), 13]
(.ret [14])))))))))))))))
def H55 : List (Nat × Nat) := []
def T56 : T :=
(.p .box [1] none
(q (.stuck) []
(.ret [.k (.bool false)])))
def H56 : List (Nat × Nat) := [(4, 6)]
def T57 : T :=
(q (.call 66) [0, .k (.int .i64 10)]
(.ret [1]))
def H57 : List (Nat × Nat) := []
end Go.Proofs.YtagkgekpfgepoaaDoor
namespace Go.Proofs.YtagkgekpfgepoaaDoor
set_option linter.unusedVariables false
set_option linter.unusedSimpArgs false
open Go
abbrev CallP := Nat → List DVal → Option DVal
abbrev CallI := Nat → List DVal → Sto → Option (DVal × Sto)
def wantP (x : DVal) (b : Bool) (o : Option DVal) : Option DVal := if x.isB b then o else some .undef
def wantS (x : DVal) (b : Bool) (σ : Sto) (o : Option (DVal × Sto)) : Option (DVal × Sto) := if x.isB b then o else some (.undef, σ)
def callPS (C : CallP) (f : Nat) (xs : List DVal) : Option DVal := (sealVals xs).bind fun ys => (C f ys).map DVal.stale
def callFS (C : CallP) (f : Nat) (σ : Sto) (xs : List DVal) : Option (DVal × Sto) := (sealVals xs).bind fun ys => (C f ys).map (importVal σ)
def callIS (I : CallI) (f : Nat) (σ : Sto) (xs : List DVal) : Option (DVal × Sto) := if xs.all DVal.okVal then I f xs σ else none
class Kt (α : Type) where
  f : α
def bnd (x : Option DVal) [k : Kt (DVal → Option Out)] : Option Out := bndP x k.f
def bns (x : Option (DVal × Sto)) [k : Kt (DVal → Sto → Option Out)] : Option Out := bndS x k.f
def itK (c : DVal) [a : Kt (Option Out)] [b : Kt (Option Out)] : Option Out := iteJ c a.f b.f
def wnP (x : DVal) (b : Bool) [o : Kt (Option DVal)] : Option DVal := wantP x b o.f
def wnS (x : DVal) (b : Bool) (σ : Sto) [o : Kt (Option (DVal × Sto))] : Option (DVal × Sto) := wantS x b σ o.f
def finP (o : Option Out) : Option DVal :=
  (match o with
  | some (.done v σ) => (v.handBack σ).map fun u => (u, emptySto)
  | _ => none).map Prod.fst
def finI (o : Option Out) : Option (DVal × Sto) :=
  match o with
  | some (.done v σ') => some (v, σ')
  | _ => none
@[simp] theorem finP_done (v : DVal) (σ : Sto) : finP (some (.done v σ)) = v.handBack σ := by simp [finP, Function.comp_def]
@[simp] theorem finI_done (v : DVal) (σ : Sto) : finI (some (.done v σ)) = some (v, σ) := rfl
@[simp] theorem bnd_some (v : DVal) (k : Kt (DVal → Option Out)) : @bnd (some v) k = k.f v := rfl
@[simp] theorem bns_some (v : DVal) (σ : Sto) (k : Kt (DVal → Sto → Option Out)) : @bns (some (v, σ)) k = k.f v σ := rfl
noncomputable def iteQ {α : Type} (p : Prop) (a b : α) : α := @ite α p (Classical.propDecidable p) a b
@[simp] theorem iteQ_true {α : Type} (a b : α) : iteQ True a b = a := by simp [iteQ]
@[simp] theorem iteQ_false {α : Type} (a b : α) : iteQ False a b = b := by simp [iteQ]
theorem iteQ_pos {α : Type} {p : Prop} {a b : α} (h : p) : iteQ p a b = a := by simp [iteQ, h]
theorem iteQ_neg {α : Type} {p : Prop} {a b : α} (h : ¬ p) : iteQ p a b = b := by simp [iteQ, h]
@[simp] theorem iteQ_same {α : Type} (p : Prop) (a : α) : iteQ p a a = a := by simp [iteQ]
theorem iteQ_eq {α : Type} (p : Prop) [Decidable p] (a b : α) : iteQ p a b = if p then a else b := by by_cases h : p <;> simp [iteQ, h]
theorem iteQ_apply {α β : Type} (f : α → β) (p : Prop) (a b : α) : f (iteQ p a b) = iteQ p (f a) (f b) := by by_cases h : p <;> simp [iteQ, h]
@[congr] theorem iteQ_congr {α : Type} {p p' n' : Prop} {a a' b b' : α} (hp : p = p') (hn : (¬ p) = n') (ha : p' → a = a') (hb : n' → b = b') : iteQ p a b = iteQ p' a' b' := by
  subst hp
  by_cases h : p
  · rw [iteQ_pos h, iteQ_pos h, ha h]
  · rw [iteQ_neg h, iteQ_neg h, hb (by rw [← hn]; exact h)]
@[simp] theorem itK_bool (c : Bool) (a b : Kt (Option Out)) : @itK (.bool c) a b = iteQ (c = true) a.f b.f := by cases c <;> simp [itK, iteJ]
@[simp] theorem retJ_some (v : DVal) (σ : Sto) : retJ (some v) σ = some (.done v σ) := rfl
@[simp] theorem joinJ_next (l : Nat) (k : List DVal → Sto → Option Out) (vs : List DVal) (σ : Sto) : joinJ l k (some (.next l vs σ)) = k vs σ := by simp [joinJ]
@[simp] theorem joinJ_done (l : Nat) (k : List DVal → Sto → Option Out) (v : DVal) (σ : Sto) : joinJ l k (some (.done v σ)) = some (.done v σ) := rfl
theorem iterJ_succ (l : Nat) (f : List DVal → Sto → Option Out) (m : Nat) (vs : List DVal) (σ : Sto) : iterJ l f (m + 1) vs σ = match f vs σ with
    | some (.next i vs' σ') => if i = l then iterJ l f m vs' σ' else some (.next i vs' σ')
    | r => r := rfl
theorem iterJ_next' {l : Nat} {f : List DVal → Sto → Option Out} {m : Nat} {vs vs' : List DVal} {σ σ' : Sto} (h : f vs σ = some (.next l vs' σ')) : iterJ l f (m + 1) vs σ = iterJ l f m vs' σ' := by
  rw [iterJ_succ, h]; simp
theorem iterJ_done {l : Nat} {f : List DVal → Sto → Option Out} {m : Nat} {vs : List DVal} {σ σ' : Sto} {v : DVal} (h : f vs σ = some (.done v σ')) : iterJ l f (m + 1) vs σ = some (.done v σ') := by
  rw [iterJ_succ, h]
theorem iterJ_out {l i : Nat} {f : List DVal → Sto → Option Out} {m : Nat} {vs vs' : List DVal} {σ σ' : Sto} (h : f vs σ = some (.next i vs' σ')) (hi : i ≠ l) : iterJ l f (m + 1) vs σ = some (.next i vs' σ') := by
  rw [iterJ_succ, h]; simp [hi]
noncomputable def gv (p : Prop) (v : DVal) : DVal := iteQ p v .undef
@[simp] theorem gv_true (v : DVal) : gv True v = v := by simp [gv]
@[simp] theorem gv_false (v : DVal) : gv False v = .undef := by simp [gv]
noncomputable def wantQ (p : Prop) (o : Option DVal) : Option DVal := iteQ p o (some .undef)
@[simp] theorem wantQ_true (o : Option DVal) : wantQ True o = o := by simp [wantQ]
@[simp] theorem wantQ_false (o : Option DVal) : wantQ False o = some .undef := by simp [wantQ]
@[simp] theorem wantQ_some (p : Prop) (v : DVal) : wantQ p (some v) = some (gv p v) := by by_cases h : p <;> simp [h]
@[congr] theorem wantQ_congr {p p' : Prop} {o o' : Option DVal} (hp : p = p') (ho : p' → o = o') : wantQ p o = wantQ p' o' := by
  subst hp
  by_cases h : p
  · rw [ho h]
  · simp [h]
@[simp] theorem wnP_t (c : Bool) (o : Kt (Option DVal)) : @wnP (.bool c) true o = wantQ (c = true) o.f := by cases c <;> simp [wnP, wantP, DVal.isB]
@[simp] theorem wnP_f (c : Bool) (o : Kt (Option DVal)) : @wnP (.bool c) false o = wantQ (c = false) o.f := by cases c <;> simp [wnP, wantP, DVal.isB]
@[simp] theorem wnS_t (c : Bool) (σ : Sto) (o : Kt (Option (DVal × Sto))) : @wnS (.bool c) true σ o = iteQ (c = true) o.f (some (.undef, σ)) := by cases c <;> simp [wnS, wantS, DVal.isB]
@[simp] theorem wnS_f (c : Bool) (σ : Sto) (o : Kt (Option (DVal × Sto))) : @wnS (.bool c) false σ o = iteQ (c = false) o.f (some (.undef, σ)) := by cases c <;> simp [wnS, wantS, DVal.isB]
@[simp] theorem wnP_gt (q : Prop) (c : Bool) (o : Kt (Option DVal)) : @wnP (gv q (.bool c)) true o = wantQ (q ∧ c = true) o.f := by
  by_cases h : q <;> cases c <;> simp [h, wnP, wantP, DVal.isB]
@[simp] theorem wnP_gf (q : Prop) (c : Bool) (o : Kt (Option DVal)) : @wnP (gv q (.bool c)) false o = wantQ (q ∧ c = false) o.f := by
  by_cases h : q <;> cases c <;> simp [h, wnP, wantP, DVal.isB]
@[simp] theorem pick_true (a b : DVal) : pickSem [.bool true, a, b] = some a := rfl
@[simp] theorem pick_false (a b : DVal) : pickSem [.bool false, a, b] = some b := rfl
@[simp] theorem pick_and {c a : Bool} {p : Prop} (h : (c = true) ↔ p) : pickSem [.bool c, gv p (.bool a), .bool false] = some (.bool (c && a)) := by
  cases c
  · rfl
  · have : p := h.1 rfl
    simp [this]
@[simp] theorem pick_or {c a : Bool} {p : Prop} (h : (c = false) ↔ p) : pickSem [.bool c, .bool true, gv p (.bool a)] = some (.bool (c || a)) := by
  cases c
  · have : p := h.1 rfl
    simp [this]
  · rfl
@[simp] theorem joinJ_ite (l : Nat) (k : List DVal → Sto → Option Out) (p : Prop) (a b : Option Out) : joinJ l k (iteQ p a b) = iteQ p (joinJ l k a) (joinJ l k b) := iteQ_apply _ _ _ _
@[simp] theorem finP_ite (p : Prop) (a b : Option Out) : finP (iteQ p a b) = iteQ p (finP a) (finP b) := iteQ_apply _ _ _ _
@[simp] theorem finI_ite (p : Prop) (a b : Option Out) : finI (iteQ p a b) = iteQ p (finI a) (finI b) := iteQ_apply _ _ _ _
@[simp] theorem bns_ite (p : Prop) (a b : Option (DVal × Sto)) (k : Kt (DVal → Sto → Option Out)) : @bns (iteQ p a b) k = iteQ p (@bns a k) (@bns b k) := iteQ_apply (fun x => @bns x k) _ _ _
theorem upd_apply' {α : Type} (f : Nat → α) (a b : Nat) (v : α) : upd f a v b = if b = a then v else f b := rfl
@[simp] theorem upd_upd {α : Type} (f : Nat → α) (a : Nat) (v u : α) : upd (upd f a v) a u = upd f a u := by funext b; simp only [upd]; split <;> rfl
attribute [simp] jboxSem.eq_1 jwrSem.eq_1 jrngSem.eq_1 jnxSem.eq_1 resEx.eq_1 resEx.eq_2 POp.sem.eq_1 POp.sem.eq_2 POp.sem.eq_3 POp.sem.eq_4 POp.sem.eq_5 POp.sem.eq_6 POp.sem.eq_7 POp.sem.eq_8 POp.sem.eq_9 POp.sem.eq_10 POp.sem.eq_11 POp.sem.eq_12 POp.sem.eq_13 POp.sem.eq_14 POp.sem.eq_15 POp.sem.eq_16 POp.sem.eq_17 POp.sem.eq_18 POp.sem.eq_19 POp.sem.eq_20 POp.sem.eq_21 POp.sem.eq_22 POp.sem.eq_23 POp.sem.eq_24 POp.sem.eq_25 POp.sem.eq_26 POp.sem.eq_27 POp.sem.eq_28 POp.sem.eq_29 POp.sem.eq_30 POp.sem.eq_31 POp.sem.eq_32 DVal.cells.eq_1 DVal.cells.eq_2 DVal.okCell.eq_1 DVal.okCell.eq_2 DVal.okCell.eq_3 DVal.okCell.eq_4 DVal.okCell.eq_5 DVal.okCell.eq_6 DVal.okCell.eq_7 DVal.okCell.eq_8 readCells.eq_1 readCells.eq_2 writeCells.eq_1 offSem.eq_1 DVal.shift.eq_1 DVal.shift.eq_2 DVal.shift.eq_3 mvSem.eq_1 bin2Sem.eq_1 binSem.eq_1 binSem.eq_2 binSem.eq_3 binSem.eq_4 binInt.eq_1 binInt.eq_2 binInt.eq_3 binInt.eq_4 binInt.eq_5 binInt.eq_6 binInt.eq_7 binInt.eq_8 binInt.eq_9 binInt.eq_10 binInt.eq_11 binInt.eq_12 binInt.eq_13 binInt.eq_14 binInt.eq_15 binStr.eq_1 binStr.eq_2 binStr.eq_3 binStr.eq_4 binStr.eq_5 binStr.eq_6 binStr.eq_7 convSem.eq_1 convSSem.eq_1 eqbSem.eq_1 eqaSem.eq_1 cellsEq.eq_1 cellsEq.eq_2 cellEq.eq_1 cellEq.eq_2 cellEq.eq_3 isnilSem.eq_1 DVal.isNil.eq_1 DVal.isNil.eq_2 DVal.isNil.eq_3 DVal.isNil.eq_4 DVal.isNil.eq_5 DVal.isNil.eq_6 DVal.isNil.eq_7 DVal.isNil.eq_8 DVal.isNil.eq_9 DVal.isNil.eq_10 DVal.isNil.eq_11 DVal.isNil.eq_12 DVal.isNil.eq_13 DVal.isNil.eq_14 unSem.eq_1 unSem.eq_2 unSem.eq_3 unSem.eq_4 unSem.eq_5 DVal.okVal.eq_1 DVal.okVal.eq_2 DVal.handBack.eq_1 DVal.handBack.eq_2 DVal.handBack.eq_3 DVal.sealVal.eq_1 DVal.sealVal.eq_2 DVal.sealCell.eq_1 DVal.sealCell.eq_2 DVal.sealCell.eq_3 DVal.sealCell.eq_4 DVal.sealCell.eq_5 DVal.sealCell.eq_6 DVal.sealCell.eq_7 DVal.sealCell.eq_8 DVal.sealCell.eq_9 DVal.sealCell.eq_10 DVal.sealCell.eq_11 sealVals.eq_1 sealVals.eq_2 sealCells.eq_1 sealCells.eq_2 DVal.stale.eq_1 DVal.stale.eq_2 mxSem.eq_1 mnSem.eq_1 idxSSem.eq_1 idxSSem.eq_2 idxASem.eq_1 idxStrSem.eq_1 fldSem.eq_1 ldESem.eq_1 extSem.eq_1 fillCells.eq_1 fillCells.eq_2 sealElems.eq_1 sealElems.eq_2 slcSSem.eq_1 slcVSem.eq_1 slcVSem.eq_2 slcVSem.eq_3 lenStrSem.eq_1 lenSlSem.eq_1 lenSlSem.eq_2 lenSlSem.eq_3 lenSlSem.eq_4 nilchkSem.eq_1 nilchkSem.eq_2 nilchkSem.eq_3 nilchkSem.eq_4 nilchkSem.eq_5 importVal.eq_1 importVal.eq_2 ldOSem.eq_2 callVSem.eq_1 bounds.eq_1 bounds.eq_2 bounds.eq_3 bounds.eq_4 bounds.eq_5 bounds.eq_6 goI.eq_1 callPS.eq_1 callFS.eq_1 callIS.eq_1 upd_apply' mkISem.eq_1 tyASem.eq_1 tyASem.eq_2 callMSem.eq_1 DVal.plain.eq_1 DVal.plain.eq_2 DVal.plainCell.eq_1 DVal.plainCell.eq_2 DVal.plainCell.eq_3
end Go.Proofs.YtagkgekpfgepoaaDoor
