/- Texts of this proof, part 3: see the card for what is proved. -/
import Derived.Test.YtklepphkbbjbjaaDoorPc02
import Derived.Test.YtklepphkbbjbjaaDoorPc00
namespace Go.Proofs.YtklepphkbbjbjaaDoor
set_option linter.unusedVariables false
set_option linter.unusedSimpArgs false
open Go
theorem lookup_mem {α : Type} {k : Nat} {v : α} : ∀ {l : List (Nat × α)}, l.lookup k = some v → (k, v) ∈ l
  | [], h => by simp at h
  | (a, b) :: l, h => by
    rw [List.lookup_cons] at h
    split at h
    · rename_i e
      have e : k = a := by simpa using e
      simp only [Option.some.injEq] at h
      subst h e
      exact List.mem_cons_self
    · exact List.mem_cons_of_mem _ (lookup_mem h)
def Gok (n : Nat) : Gd → Prop
  | none => True
  | some (i, _) => i < n
def SVok (ρ : List DVal) (L : Nat → Nat × DVal) (x : DVal) : SV → Prop
  | .ex e => e.ok ρ.length = true ∧ x = e.val ρ
  | .ptr r off g => Gok ρ.length g ∧ (gB ρ g = true → x = .loc r (L r).1 off)
structure Corr (s : SS) (ρ : List DVal) (st : St) : Prop where
  len : ρ.length = s.nv
  env : ∀ t sv, (t, sv) ∈ s.env → SVok ρ st.loc (st.env t) sv
  loc : ∀ r e g, (r, (e, g)) ∈ s.loc → e.ok ρ.length = true ∧ Gok ρ.length g ∧ (gB ρ g = true → (st.loc r).2 = e.val ρ)
theorem ok_append {ρ vs : List DVal} {e : Ex} (h : e.ok ρ.length = true) : e.ok (ρ ++ vs).length = true ∧ e.val (ρ ++ vs) = e.val ρ := by
  cases e with
  | k d => exact ⟨rfl, rfl⟩
  | v i =>
    have hi : i < ρ.length := by simpa [Ex.ok, Nat.blt_eq] using h
    refine ⟨by simp [Ex.ok, Nat.blt_eq]; omega, ?_⟩
    simp [Ex.val, List.getD_eq_getElem?_getD, List.getElem?_append_left hi]
theorem gok_append {ρ vs : List DVal} {g : Gd} (h : Gok ρ.length g) : Gok (ρ ++ vs).length g ∧ gB (ρ ++ vs) g = gB ρ g := by
  cases g with
  | none => exact ⟨trivial, rfl⟩
  | some p =>
    obtain ⟨i, b⟩ := p
    simp only [Gok] at h
    refine ⟨by simp only [Gok, List.length_append]; omega, ?_⟩
    simp [gB, List.getD_eq_getElem?_getD, List.getElem?_append_left h]
theorem SVok.append {ρ vs : List DVal} {L : Nat → Nat × DVal} {x : DVal} {sv : SV} (h : SVok ρ L x sv) : SVok (ρ ++ vs) L x sv := by
  cases sv with
  | ex e => simp only [SVok] at h ⊢; exact ⟨(ok_append h.1).1, by rw [(ok_append h.1).2]; exact h.2⟩
  | ptr r off g => simp only [SVok] at h ⊢; exact ⟨(gok_append h.1).1, by rw [(gok_append h.1).2]; exact h.2⟩
theorem Corr.more {s : SS} {ρ vs : List DVal} {st : St} (h : Corr s ρ st) {k : Nat} (hk : vs.length = k) : Corr (s.more k) (ρ ++ vs) st :=
  ⟨by simp [SS.more, h.len, hk], fun t sv hm => (h.env t sv hm).append, fun r e g hm => by
    obtain ⟨h1, h2, h3⟩ := h.loc r e g hm
    exact ⟨(ok_append h1).1, (gok_append h2).1, by rw [(gok_append h2).2, (ok_append h1).2]; exact h3⟩⟩
theorem Corr.put {s : SS} {ρ : List DVal} {st : St} (h : Corr s ρ st) {d : Option Nat} {x : DVal} {sv : SV} (hx : SVok ρ st.loc x sv) : Corr (s.put d sv) ρ (st.put d x) := by
  cases d with
  | none => exact h
  | some t =>
    refine ⟨h.len, fun t' sv' hm => ?_, h.loc⟩
    simp only [SS.put, List.mem_cons, List.mem_filter, Prod.mk.injEq] at hm
    rcases hm with ⟨rfl, rfl⟩ | ⟨hm, hne⟩
    · simpa [St.put, upd] using hx
    · have : t' ≠ t := by simpa using hne
      simpa [St.put, upd, this] using h.env t' sv' hm
theorem put_sto (st : St) (d : Option Nat) (x : DVal) : (st.put d x).sto = st.sto := by cases d <;> rfl
theorem put_loc (st : St) (d : Option Nat) (x : DVal) : (st.put d x).loc = st.loc := by cases d <;> rfl
theorem Corr.rebox {s : SS} {ρ : List DVal} {st : St} (h : Corr s ρ st) {r ep : Nat} {c : DVal} : Corr ({ s.drop r with loc := s.loc.filter fun p => p.1 != r }) ρ { st with loc := upd st.loc r (ep, c) } := by
  refine ⟨h.len, fun t sv hm => ?_, fun q e g hm => ?_⟩
  · simp only [SS.drop, List.mem_filter] at hm
    have := h.env t sv hm.1
    cases sv with
    | ex e => exact this
    | ptr q off g =>
      have hq : q ≠ r := by simpa [SV.notTo] using hm.2
      simpa [SVok, upd, hq] using this
  · simp only [List.mem_filter] at hm
    have hq : q ≠ r := by simpa using hm.2
    simpa [upd, hq] using h.loc q e g hm.1
theorem Corr.setc {s : SS} {ρ : List DVal} {st : St} (h : Corr s ρ st) {r : Nat} {c : DVal} : Corr ({ s with loc := s.loc.filter fun p => p.1 != r }) ρ { st with loc := upd st.loc r ((st.loc r).1, c) } := by
  refine ⟨h.len, fun t sv hm => ?_, fun q e g hm => ?_⟩
  · have := h.env t sv hm
    cases sv with
    | ex e => exact this
    | ptr q off g =>
      by_cases hq : q = r
      · subst hq; simpa [SVok, upd] using this
      · simpa [SVok, upd, hq] using this
  · simp only [List.mem_filter] at hm
    have hq : q ≠ r := by simpa using hm.2
    simpa [upd, hq] using h.loc q e g hm.1
theorem Corr.addLoc {s : SS} {ρ : List DVal} {st : St} {r : Nat} {e : Ex} {g : Gd} (h : Corr { s with loc := s.loc.filter fun p => p.1 != r } ρ st) (he : e.ok ρ.length = true) (hg : Gok ρ.length g) (hv : gB ρ g = true → (st.loc r).2 = e.val ρ) :
    Corr (s.setLoc r e g) ρ st := by
  refine ⟨h.len, h.env, fun q e' g' hm => ?_⟩
  simp only [SS.setLoc, List.mem_cons, Prod.mk.injEq] at hm
  rcases hm with ⟨rfl, rfl, rfl⟩ | hm
  · exact ⟨he, hg, hv⟩
  · exact h.loc q e' g' hm
theorem Corr.sub {s s' : SS} {ρ : List DVal} {st : St} (h : Corr s ρ st) (h1 : ∀ p, p ∈ s'.env → p ∈ s.env) (h2 : ∀ p, p ∈ s'.loc → p ∈ s.loc) (h3 : s'.nv = s.nv) : Corr s' ρ st :=
  ⟨by rw [h3]; exact h.len, fun t sv hm => h.env t sv (h1 _ hm), fun r e g hm => h.loc r e g (h2 _ hm)⟩
theorem Corr.dep {s : SS} {ρ : List DVal} {st : St} (h : Corr s ρ st) (d : Nat) : Corr { s with dep := d } ρ st := ⟨h.len, h.env, h.loc⟩
theorem Corr.sto {s : SS} {ρ : List DVal} {st : St} (h : Corr s ρ st) (σ : Sto) : Corr s ρ { st with sto := σ } := ⟨h.len, h.env, h.loc⟩
theorem Corr.ex {s : SS} {ρ : List DVal} {st : St} (h : Corr s ρ st) {x : Opd} {e : Ex} (hx : s.ex x = some e) : e.ok ρ.length = true ∧ x.val st.env = e.val ρ := by
  cases x with
  | c v => simp only [SS.ex, Option.some.injEq] at hx; subst hx; exact ⟨rfl, rfl⟩
  | t n =>
    simp only [SS.ex] at hx
    split at hx
    · rename_i e' hs
      simp only [Option.some.injEq] at hx
      subst hx
      have := h.env n _ (lookup_mem hs)
      simpa [SVok, Opd.val] using this
    · cases hx
theorem Corr.exs {s : SS} {ρ : List DVal} {st : St} (h : Corr s ρ st) : ∀ {xs : List Opd} {es : List Ex}, s.exs xs = some es → xs.map (Opd.val st.env) = es.map (Ex.val ρ)
  | [], es, hx => by simp only [SS.exs, Option.some.injEq] at hx; subst hx; rfl
  | x :: xs, es, hx => by
    simp only [SS.exs] at hx
    split at hx
    · rename_i e es' h1 h2
      simp only [Option.some.injEq] at hx
      subst hx
      simp only [List.map_cons, (h.ex h1).2, h.exs h2]
    · cases hx
theorem okG_holds {ρ : List DVal} {g G : Gd} (h : okG g G = true) (hG : gB ρ G = true) : gB ρ g = true := by
  cases g with
  | none => rfl
  | some p =>
    obtain ⟨i, b⟩ := p
    cases G with
    | none => simp [okG] at h
    | some q =>
      obtain ⟨j, c⟩ := q
      simp only [okG, Bool.and_eq_true, beq_iff_eq] at h
      have h1 : i = j := Nat.eq_of_beq_eq_true h.1
      rw [h1, h.2]; exact hG
theorem Corr.ptr {s : SS} {ρ : List DVal} {st : St} (h : Corr s ρ st) {x : Opd} {G : Gd} {r off : Nat} (hx : s.ptr G x = some (r, off)) (hG : gB ρ G = true) : x.val st.env = .loc r (st.loc r).1 off := by
  cases x with
  | c v => simp [SS.ptr] at hx
  | t n =>
    simp only [SS.ptr] at hx
    split at hx
    · rename_i r' off' g hs
      split at hx
      · rename_i hok
        simp only [Option.some.injEq, Prod.mk.injEq] at hx
        obtain ⟨rfl, rfl⟩ := hx
        exact (h.env n _ (lookup_mem hs)).2 (okG_holds hok hG)
      · cases hx
    · cases hx
theorem Corr.cont {s : SS} {ρ : List DVal} {st : St} (h : Corr s ρ st) {G : Gd} {r : Nat} {e : Ex} (hx : s.cont G r = some e) : e.ok ρ.length = true ∧ (gB ρ G = true → (st.loc r).2 = e.val ρ) := by
  simp only [SS.cont] at hx
  split at hx
  · rename_i e' g hs
    split at hx
    · rename_i hok
      simp only [Option.some.injEq] at hx
      subst hx
      obtain ⟨h1, h2, h3⟩ := h.loc r _ _ (lookup_mem hs)
      exact ⟨h1, fun hG => h3 (okG_holds hok hG)⟩
    · cases hx
  · cases hx
def gS (st : St) : Option (Nat × Bool) → Bool
  | none => true
  | some (t, b) => (st.env t).isB b
theorem Corr.guard {s : SS} {ρ : List DVal} {st : St} (h : Corr s ρ st) {g : Option (Nat × Bool)} {G : Gd} (hx : s.guard g = some G) : Gok ρ.length G ∧ gS st g = gB ρ G := by
  cases g with
  | none => simp only [SS.guard, Option.some.injEq] at hx; subst hx; exact ⟨trivial, rfl⟩
  | some p =>
    obtain ⟨t, b⟩ := p
    simp only [SS.guard] at hx
    split at hx
    · rename_i i hs
      simp only [Option.some.injEq] at hx
      subst hx
      obtain ⟨h1, h2⟩ := h.env t _ (lookup_mem hs)
      refine ⟨by simpa [Ex.ok, Nat.blt_eq, Gok] using h1, ?_⟩
      simp only [gB, gS, h2, Ex.val]
    · cases hx
section
variable {cp : Nat → List DVal → Option DVal} {ci : Nat → List DVal → Sto → Option (DVal × Sto)}
def runIns (cp : Nat → List DVal → Option DVal) (ci : Nat → List DVal → Sto → Option (DVal × Sto)) : List JIns → List DVal → Sto → Option (List DVal × Sto)
  | [], ρ, σ => some (ρ, σ)
  | i :: is, ρ, σ => match i.op with
    | .p o => match guarded ρ i.g (o.sem cp (i.xs.map (Ex.val ρ))) with
      | some v => runIns cp ci is (ρ ++ [v]) σ
      | none => none
    | .s o => match guardedS ρ σ i.g (o.sem cp ci σ (i.xs.map (Ex.val ρ))) with
      | some (v, σ') => runIns cp ci is (ρ ++ [v]) σ'
      | none => none
theorem runIns_append : ∀ (is js : List JIns) (ρ : List DVal) (σ : Sto), runIns cp ci (is ++ js) ρ σ = (runIns cp ci is ρ σ).bind fun x => runIns cp ci js x.1 x.2
  | [], js, ρ, σ => rfl
  | i :: is, js, ρ, σ => by
    simp only [List.cons_append, runIns]
    split
    · split
      · rw [runIns_append is js]
      · rfl
    · split
      · rw [runIns_append is js]
      · rfl
theorem den_insTree {n : Nat} (t : T) : ∀ (is : List JIns) (ρ : List DVal) (σ : Sto), den cp ci n (insTree is t) ρ σ = (runIns cp ci is ρ σ).bind fun x => den cp ci n t x.1 x.2
  | [], ρ, σ => rfl
  | i :: is, ρ, σ => by
    obtain ⟨op, xs, g⟩ := i
    cases op with
    | p o =>
      simp only [insTree, JIns.tree, den, runIns, bndP]
      split
      · rename_i v e; rw [den_insTree t is]; simp only [e]
      · rename_i e; simp only [e]; rfl
    | s o =>
      simp only [insTree, JIns.tree, den, runIns, bndS]
      split
      · rename_i v σ' e; rw [den_insTree t is]; simp only [e]
      · rename_i e; simp only [e]; rfl
theorem guarded_eq {ρ : List DVal} {g : Gd} {x : Option DVal} : guarded ρ g x = if gB ρ g then x else some .undef := by
  cases g with
  | none => rfl
  | some p => rfl
theorem guardedS_eq {ρ : List DVal} {σ : Sto} {g : Gd} {x : Option (DVal × Sto)} : guardedS ρ σ g x = if gB ρ g then x else some (.undef, σ) := by
  cases g with
  | none => rfl
  | some p => rfl
theorem runIns_p {o : JOp} {es : List Ex} {G : Gd} {ρ ρ' : List DVal} {σ σ' : Sto} (h : runIns cp ci [⟨.p o, es, G⟩] ρ σ = some (ρ', σ')) :
    ∃ v, (if gB ρ G then o.sem cp (es.map (Ex.val ρ)) else some .undef) = some v ∧ ρ' = ρ ++ [v] ∧ σ' = σ := by
  simp only [runIns, guarded_eq] at h
  split at h
  · rename_i v e
    simp only [Option.some.injEq, Prod.mk.injEq] at h
    exact ⟨v, e, h.1.symm, h.2.symm⟩
  · cases h
theorem step_eq {s : SS} {ρ : List DVal} {st : St} (h : Corr s ρ st) {o : IOper} {G : Gd} (hg : s.guard o.guard = some G) :
    stepOp cp ci o st = if gB ρ G then execOp' cp ci o.dst o.op o.xs st else some (st.put o.dst .undef) := by
  have := (h.guard hg).2
  unfold stepOp
  split
  · rename_i e; rw [e] at this; simp only [gS] at this; rw [← this]; simp
  · rename_i g b e; rw [e] at this; simp only [gS] at this; rw [← this]
theorem v_last {ρ : List DVal} {v : DVal} : Ex.val (ρ ++ [v]) (.v ρ.length) = v := by simp [Ex.val]
theorem v_ok {ρ : List DVal} {v : DVal} : Ex.ok (ρ ++ [v]).length (.v ρ.length) = true := by simp [Ex.ok, Nat.blt_eq]
theorem Corr.bind {s : SS} {ρ : List DVal} {st : St} (h : Corr s ρ st) (d : Option Nat) (v : DVal) : Corr ((s.more 1).put d (.ex (.v s.nv))) (ρ ++ [v]) (st.put d v) := by
  refine (h.more (vs := [v]) rfl).put ?_
  rw [← h.len]
  exact ⟨v_ok, v_last.symm⟩
theorem mv_sem {st : St} {x : Opd} {r ep off n : Nat} {o : POp} (ho : isMv o = some n) (hx : x.val st.env = .loc r ep off) : o.sem cp ([x].map (Opd.val st.env)) = some (.loc r ep (off + n)) := by
  unfold isMv at ho
  split at ho <;> simp only [Option.some.injEq, reduceCtorEq] at ho
  · subst ho; simp [POp.sem, mvSem, hx]
  · subst ho; simp [POp.sem, nilchkSem, hx]
  · subst ho; simp [POp.sem, offSem, DVal.shift, hx]
theorem symbP_sound {s s' : SS} {G : Gd} {dst : Option Nat} {o : POp} {xs : List Opd} {is : List JIns} {ρ ρ' : List DVal} {st : St} {σ' : Sto} (hs : symbP s G dst o xs = some (is, s')) (h : Corr s ρ st) (hG : Gok ρ.length G)
    (hr : runIns cp ci is ρ st.sto = some (ρ', σ')) : ∃ st', (if gB ρ G then execOp' cp ci dst (.p o) xs st else some (st.put dst .undef)) = some st' ∧ st'.sto = σ' ∧ Corr s' ρ' st' := by
  unfold symbP at hs
  split at hs
  · rename_i r off hp
    simp only [Option.some.injEq, Prod.mk.injEq] at hs
    obtain ⟨rfl, rfl⟩ := hs
    simp only [runIns, Option.some.injEq, Prod.mk.injEq] at hr
    obtain ⟨rfl, rfl⟩ := hr
    split at hp
    · rename_i n x hm
      simp only [Option.map_eq_some_iff, Prod.mk.injEq] at hp
      obtain ⟨⟨r', off'⟩, hp, rfl, rfl⟩ := hp
      cases hb : gB ρ G with
      | true =>
        have hv := h.ptr hp hb
        refine ⟨st.put dst (.loc r' (st.loc r').1 (off' + n)), ?_, put_sto .., h.put ⟨hG, fun _ => rfl⟩⟩
        simp only [if_true, execOp', mv_sem (cp := cp) hm hv, Option.map_some]
      | false => exact ⟨st.put dst .undef, rfl, put_sto .., h.put ⟨hG, fun e => by rw [hb] at e; cases e⟩⟩
    · cases hp
  · split at hs
    · rename_i es hes
      have hval := h.exs hes
      split at hs
      · rename_i e _
        simp only [Option.some.injEq, Prod.mk.injEq] at hs
        obtain ⟨rfl, rfl⟩ := hs
        simp only [runIns, Option.some.injEq, Prod.mk.injEq] at hr
        obtain ⟨rfl, rfl⟩ := hr
        cases xs with
        | nil => simp [SS.exs] at hes
        | cons x xs =>
          cases xs with
          | cons y ys => simp only [SS.exs] at hes; split at hes <;> simp at hes; rename_i h2; split at h2 <;> simp at h2; simp [← h2] at hes
          | nil =>
            have hx : s.ex x = some e := by
              simp only [SS.exs] at hes
              split at hes
              · rename_i e' es' h1 h2
                simp only [Option.some.injEq, List.cons.injEq] at hes h2
                rw [h1, hes.1]
              · cases hes
            have := h.ex hx
            refine ⟨st.put dst (e.val ρ), ?_, put_sto .., h.put ⟨this.1, rfl⟩⟩
            simp [gB, execOp', POp.sem, mvSem, this.2]
      · simp only [Option.some.injEq, Prod.mk.injEq] at hs
        obtain ⟨rfl, rfl⟩ := hs
        obtain ⟨v, hv, rfl, rfl⟩ := runIns_p hr
        refine ⟨st.put dst v, ?_, put_sto .., h.bind dst v⟩
        cases hb : gB ρ G with
        | true => rw [hb] at hv; simp only [if_true, JOp.sem] at hv; simp only [if_true, execOp', hval, hv, Option.map_some]
        | false => rw [hb] at hv; simp at hv; subst hv; simp
    · cases hs
theorem rebox_corr {s : SS} {ρ : List DVal} {st : St} (h : Corr s ρ st) {r : Nat} {dst : Option Nat} {G : Gd} (hG : Gok ρ.length G) {c : DVal} {e : Ex} (he : e.ok ρ.length = true) (hc : gB ρ G = true → c = e.val ρ) :
    (gB ρ G = true → Corr (((s.drop r).put dst (.ptr r 0 G)).setLoc r e G) ρ ({ st with loc := upd st.loc r ((st.loc r).1 + 1, c) }.put dst (.loc r ((st.loc r).1 + 1) 0))) ∧
    (gB ρ G = false → Corr (((s.drop r).put dst (.ptr r 0 G)).setLoc r e G) ρ (st.put dst .undef)) := by
  constructor
  · intro hb
    refine Corr.addLoc ?_ he hG fun _ => ?_
    · have h1 := (h.rebox (r := r) (ep := (st.loc r).1 + 1) (c := c)).put (d := dst) (x := .loc r ((st.loc r).1 + 1) 0) (sv := .ptr r 0 G) ⟨hG, fun _ => by simp [upd]⟩
      refine h1.sub (fun p hp => ?_) (fun p hp => ?_) ?_
      · cases dst <;> simpa [SS.put, SS.drop] using hp
      · cases dst <;> simpa [SS.put, SS.drop] using hp
      · cases dst <;> rfl
    · rw [put_loc]; simp [upd, hc hb]
  · intro hb
    refine Corr.addLoc ?_ he hG fun e => by rw [hb] at e; cases e
    have h1 := h.put (d := dst) (x := .undef) (sv := .ptr r 0 G) ⟨hG, fun e => by rw [hb] at e; cases e⟩
    refine h1.sub (fun p hp => ?_) (fun p hp => ?_) ?_
    · cases dst with
      | none => simp only [SS.put, SS.drop, List.mem_filter] at hp ⊢; exact hp.1
      | some t =>
        simp only [SS.put, SS.drop, List.mem_cons, List.mem_filter] at hp ⊢
        rcases hp with hp | hp
        · exact .inl hp
        · exact .inr ⟨hp.1.1, hp.2⟩
    · cases dst <;> (simp only [SS.put, SS.drop, List.mem_filter] at hp ⊢; exact hp.1)
    · cases dst <;> rfl
theorem symbL_sound {s s' : SS} {G : Gd} {dst : Option Nat} {r : Nat} {o : LOp} {xs : List Opd} {is : List JIns} {ρ ρ' : List DVal} {st : St} {σ' : Sto} (hs : symbL s G dst r o xs = some (is, s')) (h : Corr s ρ st) (hG : Gok ρ.length G)
    (hr : runIns cp ci is ρ st.sto = some (ρ', σ')) : ∃ st', (if gB ρ G then execOp' cp ci dst (.lw r o) xs st else some (st.put dst .undef)) = some st' ∧ st'.sto = σ' ∧ Corr s' ρ' st' := by
  unfold symbL at hs
  split at hs
  · rename_i x
    simp only [Option.map_eq_some_iff, Prod.mk.injEq] at hs
    obtain ⟨e, he, rfl, rfl⟩ := hs
    obtain ⟨v, hv, rfl, rfl⟩ := runIns_p hr
    have hx := h.ex he
    have hm := h.more (vs := [v]) (k := 1) rfl
    have key := rebox_corr (r := r) (dst := dst) hm (gok_append (vs := [v]) hG).1 (c := v) (e := .v s.nv) (by rw [← h.len]; exact v_ok) (fun _ => by rw [← h.len]; exact v_last.symm)
    rw [(gok_append hG).2] at key
    cases hb : gB ρ G with
    | true =>
      rw [hb] at hv
      simp only [if_true, JOp.sem, List.map_cons, List.map_nil, jboxSem] at hv
      split at hv
      · rename_i hok
        simp only [Option.some.injEq] at hv
        refine ⟨_, ?_, ?_, key.1 hb⟩
        · simp only [if_true, execOp', LOp.sem, List.map_cons, List.map_nil, boxLSem, hx.2, hok, Option.map_some]
          rw [← hv]
        · rw [put_sto]
      · cases hv
    | false => exact ⟨_, rfl, put_sto .., key.2 hb⟩
  · rename_i z
    simp only [Option.some.injEq, Prod.mk.injEq] at hs
    obtain ⟨rfl, rfl⟩ := hs
    simp only [runIns, Option.some.injEq, Prod.mk.injEq] at hr
    obtain ⟨rfl, rfl⟩ := hr
    have key := rebox_corr (r := r) (dst := dst) h hG (c := .agg z) (e := .k (.agg z)) rfl (fun _ => rfl)
    cases hb : gB ρ G with
    | true =>
      refine ⟨_, ?_, ?_, key.1 hb⟩
      · simp only [if_true, execOp', LOp.sem, List.map_nil, allocLSem, Option.map_some]
      · rw [put_sto]
    | false => exact ⟨_, rfl, put_sto .., key.2 hb⟩
  · rename_i x
    simp only [Option.map_eq_some_iff, Prod.mk.injEq] at hs
    obtain ⟨e, he, rfl, rfl⟩ := hs
    obtain ⟨v, hv, rfl, rfl⟩ := runIns_p hr
    have hx := h.ex he
    have hm := h.more (vs := [v]) (k := 1) rfl
    have key := rebox_corr (r := r) (dst := dst) hm (gok_append (vs := [v]) hG).1 (c := v) (e := .v s.nv) (by rw [← h.len]; exact v_ok) (fun _ => by rw [← h.len]; exact v_last.symm)
    rw [(gok_append hG).2] at key
    cases hb : gB ρ G with
    | true =>
      rw [hb] at hv
      simp only [if_true, JOp.sem, List.map_cons, List.map_nil, ← hx.2] at hv
      unfold jrngSem at hv
      split at hv
      · rename_i q hq
        simp only [List.cons.injEq, and_true] at hq
        simp only [Option.some.injEq] at hv
        refine ⟨_, ?_, ?_, key.1 hb⟩
        · simp only [if_true, execOp', LOp.sem, List.map_cons, List.map_nil, rngSem, hq, Option.map_some]
          rw [← hv]
        · rw [put_sto]
      · cases hv
    | false => exact ⟨_, rfl, put_sto .., key.2 hb⟩
  · rename_i n p x
    split at hs
    · rename_i q off e c hp he hc
      split at hs
      · rename_i hq
        subst hq
        simp only [Option.some.injEq, Prod.mk.injEq] at hs
        obtain ⟨rfl, rfl⟩ := hs
        obtain ⟨v, hv, rfl, rfl⟩ := runIns_p hr
        have hx := h.ex he
        have hcv := h.cont hc
        have hundef : SVok (ρ ++ [v]) st.loc .undef (.ex (.k .undef)) := ⟨rfl, rfl⟩
        cases hb : gB ρ G with
        | true =>
          rw [hb] at hv
          have hp' := h.ptr hp hb
          have hc' := hcv.2 hb
          simp only [if_true, JOp.sem, List.map_cons, List.map_nil, ← hx.2, ← hc'] at hv
          unfold jwrSem at hv
          split at hv
          · rename_i cs u hq
            simp only [List.cons.injEq, and_true] at hq
            obtain ⟨hq1, hq2⟩ := hq
            split at hv
            · rename_i hcond
              simp only [Option.map_eq_some_iff] at hv
              obtain ⟨cs', hw, rfl⟩ := hv
              refine ⟨({ st with loc := upd st.loc q ((st.loc q).1, .agg cs') }).put dst .undef, ?_, by rw [put_sto], ?_⟩
              · simp only [if_true, execOp', LOp.sem, List.map_cons, List.map_nil, hp', stLSem, hq2]
                rw [if_pos ⟨trivial, trivial, hcond.1, hcond.2⟩, hq1]
                simp only [hw, Option.map_some]
              · refine Corr.addLoc ?_ ?_ (gok_append hG).1 fun _ => ?_
                · have h1 := ((h.setc (r := q) (c := .agg cs')).more (vs := [DVal.agg cs']) (k := 1) rfl).put (d := dst) (x := .undef) (sv := .ex (.k .undef)) ⟨rfl, rfl⟩
                  refine h1.sub (fun p hp => ?_) (fun p hp => ?_) ?_
                  · cases dst <;> exact hp
                  · cases dst <;> exact hp
                  · cases dst <;> rfl
                · rw [← h.len]; exact v_ok
                · rw [put_loc, ← h.len, v_last]; simp [upd]
            · cases hv
          · cases hv
        | false =>
          refine ⟨_, rfl, put_sto .., ?_⟩
          refine Corr.addLoc ?_ ?_ (gok_append hG).1 fun e => ?_
          · have h1 := (h.more (vs := [v]) (k := 1) rfl).put (d := dst) (x := .undef) (sv := .ex (.k .undef)) ⟨rfl, rfl⟩
            refine h1.sub (fun p hp => ?_) (fun p hp => ?_) ?_
            · cases dst <;> exact hp
            · cases dst <;> (simp only [SS.put, SS.more, List.mem_filter] at hp ⊢; exact hp.1)
            · cases dst <;> rfl
          · rw [← h.len]; exact v_ok
          · rw [(gok_append hG).2, hb] at e; cases e
      · cases hs
    · cases hs
  · rename_i p
    split at hs
    · rename_i q c hp hc
      split at hs
      · rename_i hq
        subst hq
        simp only [Option.some.injEq, Prod.mk.injEq] at hs
        obtain ⟨rfl, rfl⟩ := hs
        have hcv := h.cont hc
        simp only [runIns, guarded_eq, (gok_append hG).2, List.map_cons, List.map_nil, (ok_append hcv.1).2] at hr
        split at hr
        · rename_i v hv
          split at hr
          · rename_i u hu
            simp only [Option.some.injEq, Prod.mk.injEq, List.append_assoc, List.cons_append, List.nil_append] at hr
            obtain ⟨rfl, rfl⟩ := hr
            have e1 : Ex.ok (ρ ++ [v, u]).length (.v s.nv) = true := by simp [Ex.ok, Nat.blt_eq, h.len]
            have e2 : Ex.val (ρ ++ [v, u]) (.v s.nv) = v := by simp [Ex.val, ← h.len, List.getD_eq_getElem?_getD]
            have e3 : Ex.ok (ρ ++ [v, u]).length (.v (s.nv + 1)) = true := by simp [Ex.ok, Nat.blt_eq, h.len]
            have e4 : Ex.val (ρ ++ [v, u]) (.v (s.nv + 1)) = u := by simp [Ex.val, ← h.len, List.getD_eq_getElem?_getD]
            cases hb : gB ρ G with
            | true =>
              rw [hb] at hv hu
              have hp' := h.ptr hp hb
              have hc' := hcv.2 hb
              simp only [if_true, JOp.sem, ← hc'] at hv hu
              have hn : nextSem q (st.loc q) [.loc q (st.loc q).1 0] = some (v, ((st.loc q).1, u)) := by
                unfold jnxSem at hv hu
                split at hv
                · rename_i z pos hz
                  simp only [List.cons.injEq, and_true] at hz
                  rw [hz] at hu
                  simp only at hu
                  simp only [nextSem, true_and, if_true, hz]
                  by_cases hlt : pos < z.length
                  · simp only [hlt, if_true, Option.some.injEq] at hv hu ⊢
                    subst hv hu
                    simp
                  · simp only [hlt, if_false, Option.some.injEq] at hv hu ⊢
                    subst hv hu
                    simp [← hz]
                · cases hv
              refine ⟨({ st with loc := upd st.loc q ((st.loc q).1, u) }).put dst v, ?_, by rw [put_sto], ?_⟩
              · simp only [if_true, execOp', LOp.sem, List.map_cons, List.map_nil, hp', hn, Option.map_some]
              · refine Corr.addLoc ?_ e3 (gok_append hG).1 fun _ => ?_
                · have h1 := ((h.setc (r := q) (c := u)).more (vs := [v, u]) (k := 2) rfl).put (d := dst) (x := v) (sv := .ex (.v s.nv)) ⟨e1, e2.symm⟩
                  refine h1.sub (fun p hp => ?_) (fun p hp => ?_) ?_
                  · cases dst <;> exact hp
                  · cases dst <;> exact hp
                  · cases dst <;> rfl
                · rw [put_loc, e4]; simp [upd]
            | false =>
              rw [hb] at hv hu
              simp at hv hu
              subst hv hu
              refine ⟨_, rfl, put_sto .., ?_⟩
              refine Corr.addLoc ?_ e3 (gok_append hG).1 fun e => ?_
              · have h1 := (h.more (vs := [DVal.undef, DVal.undef]) (k := 2) rfl).put (d := dst) (x := .undef) (sv := .ex (.v s.nv)) ⟨e1, e2.symm⟩
                refine h1.sub (fun p hp => ?_) (fun p hp => ?_) ?_
                · cases dst <;> exact hp
                · cases dst <;> (simp only [SS.put, SS.more, List.mem_filter] at hp ⊢; exact hp.1)
                · cases dst <;> rfl
              · rw [(gok_append hG).2, hb] at e; cases e
          · cases hr
        · cases hr
      · cases hs
    · cases hs
  · cases hs
theorem symbOp_sound {s s' : SS} {o : IOper} {is : List JIns} {ρ ρ' : List DVal} {st : St} {σ' : Sto} (hs : symbOp s o = some (is, s')) (h : Corr s ρ st) (hr : runIns cp ci is ρ st.sto = some (ρ', σ')) :
    ∃ st', stepOp cp ci o st = some st' ∧ st'.sto = σ' ∧ Corr s' ρ' st' := by
  unfold symbOp at hs
  split at hs
  · cases hs
  · rename_i G hg
    have hG := (h.guard hg).1
    rw [step_eq h hg]
    split at hs
    · rename_i q e; rw [e]; exact symbP_sound hs h hG hr
    · rename_i r sz e
      rw [e]
      split at hs
      · rename_i x hxs
        split at hs
        · rename_i q off c hp hc
          split at hs
          · rename_i hq
            subst hq
            simp only [Option.some.injEq, Prod.mk.injEq] at hs
            obtain ⟨rfl, rfl⟩ := hs
            obtain ⟨v, hv, rfl, rfl⟩ := runIns_p hr
            refine ⟨st.put o.dst v, ?_, put_sto .., h.bind o.dst v⟩
            cases hb : gB ρ G with
            | true =>
              rw [hb] at hv
              have hp' := h.ptr hp hb
              have hc' := (h.cont hc).2 hb
              simp only [if_true, JOp.sem, POp.sem, List.map_cons, List.map_nil, ← hc'] at hv
              unfold fldSem at hv
              split at hv
              · rename_i cs hcs
                simp only [List.cons.injEq, and_true] at hcs
                simp only [if_true, execOp', hxs, List.map_cons, List.map_nil, hp', readLoc, true_and, hcs, hv, Option.map_some]
              · cases hv
            | false => rw [hb] at hv; simp at hv; subst hv; simp
          · cases hs
        · cases hs
      · cases hs
    · rename_i r q e; rw [e]; exact symbL_sound hs h hG hr
    · rename_i b q e
      rw [e]
      simp only [Option.map_eq_some_iff, Prod.mk.injEq] at hs
      obtain ⟨es, hes, rfl, rfl⟩ := hs
      have hval := h.exs hes
      simp only [runIns, guardedS_eq] at hr
      split at hr
      · rename_i v σ2 e2
        simp only [Option.some.injEq, Prod.mk.injEq] at hr
        obtain ⟨rfl, rfl⟩ := hr
        cases hb : gB ρ G with
        | true =>
          rw [hb] at e2
          simp only [if_true] at e2
          refine ⟨({ st with sto := σ2 }).put o.dst v, ?_, by rw [put_sto], (h.sto σ2).bind o.dst v⟩
          simp only [if_true, execOp', hval, e2, Option.map_some]
        | false =>
          rw [hb] at e2
          simp at e2
          obtain ⟨rfl, rfl⟩ := e2
          exact ⟨_, rfl, put_sto .., h.bind o.dst .undef⟩
      · cases hr
theorem symbOps_sound : ∀ {ops : List IOper} {s s' : SS} {is : List JIns} {ρ ρ' : List DVal} {st : St} {σ' : Sto}, symbOps ops s = some (is, s') → Corr s ρ st → runIns cp ci is ρ st.sto = some (ρ', σ') →
    ∃ st', runOps cp ci ops st = some st' ∧ st'.sto = σ' ∧ Corr s' ρ' st'
  | [], s, s', is, ρ, ρ', st, σ', hs, h, hr => by
    simp only [symbOps, Option.some.injEq, Prod.mk.injEq] at hs
    obtain ⟨rfl, rfl⟩ := hs
    simp only [runIns, Option.some.injEq, Prod.mk.injEq] at hr
    obtain ⟨rfl, rfl⟩ := hr
    exact ⟨st, rfl, rfl, h⟩
  | o :: os, s, s', is, ρ, ρ', st, σ', hs, h, hr => by
    simp only [symbOps] at hs
    split at hs
    · rename_i is1 s1 h1
      split at hs
      · rename_i is2 s2 h2
        simp only [Option.some.injEq, Prod.mk.injEq] at hs
        obtain ⟨rfl, rfl⟩ := hs
        rw [runIns_append] at hr
        simp only [Option.bind_eq_some_iff] at hr
        obtain ⟨⟨ρ1, σ1⟩, hr1, hr2⟩ := hr
        obtain ⟨st1, a1, rfl, a3⟩ := symbOp_sound h1 h hr1
        obtain ⟨st2, b1, b2, b3⟩ := symbOps_sound h2 a3 hr2
        exact ⟨st2, by simp only [runOps, a1, Option.bind_some, b1], b2, b3⟩
      · cases hs
    · cases hs
end
end Go.Proofs.YtklepphkbbjbjaaDoor
namespace Go.Proofs.YtklepphkbbjbjaaDoor
set_option linter.unusedVariables false
set_option linter.unusedSimpArgs false
open Go
structure Fr (W WR WB : List Nat) (st st' : St) : Prop where
  env : ∀ t, t ∉ W → st'.env t = st.env t
  loc : ∀ r, r ∉ WR → (st'.loc r).2 = (st.loc r).2
  ep : ∀ r, r ∉ WB → (st'.loc r).1 = (st.loc r).1
theorem Fr.refl (W WR WB : List Nat) (st : St) : Fr W WR WB st st := ⟨fun _ _ => rfl, fun _ _ => rfl, fun _ _ => rfl⟩
theorem Fr.trans {W WR WB : List Nat} {a b c : St} (h : Fr W WR WB a b) (h' : Fr W WR WB b c) : Fr W WR WB a c :=
  ⟨fun t ht => (h'.env t ht).trans (h.env t ht), fun r hr => (h'.loc r hr).trans (h.loc r hr), fun r hr => (h'.ep r hr).trans (h.ep r hr)⟩
theorem Fr.wider {W WR WB W' WR' WB' : List Nat} {a b : St} (h : Fr W WR WB a b) (h1 : ∀ x, x ∈ W → x ∈ W') (h2 : ∀ x, x ∈ WR → x ∈ WR') (h3 : ∀ x, x ∈ WB → x ∈ WB') : Fr W' WR' WB' a b :=
  ⟨fun t ht => h.env t fun hm => ht (h1 t hm), fun r hr => h.loc r fun hm => hr (h2 r hm), fun r hr => h.ep r fun hm => hr (h3 r hm)⟩
def frCode (c : ICode) (st st' : St) : Prop := Fr (c.wr IOper.dst) (c.wr IOper.root) (c.wr IOper.boxed) st st'
section
variable {cp : Nat → List DVal → Option DVal} {ci : Nat → List DVal → Sto → Option (DVal × Sto)} {n : Nat}
theorem put_env {st : St} {d : Option Nat} {x : DVal} {t : Nat} (h : d ≠ some t) : (st.put d x).env t = st.env t := by
  cases d with
  | none => rfl
  | some u =>
    have : t ≠ u := fun e => h (by rw [e])
    simp [St.put, upd, this]
theorem op_frame {o : IOper} {st st' : St} (h : stepOp cp ci o st = some st') : (∀ t, o.dst ≠ some t → st'.env t = st.env t) ∧ (∀ r, o.root ≠ some r → (st'.loc r).2 = (st.loc r).2) ∧ (∀ r, o.boxed ≠ some r → (st'.loc r).1 = (st.loc r).1) := by
  have hput : ∀ (st0 : St) (x : DVal), st0.loc = st.loc → st0.env = st.env → st' = st0.put o.dst x → (∀ t, o.dst ≠ some t → st'.env t = st.env t) ∧ (∀ r, o.root ≠ some r → (st'.loc r).2 = (st.loc r).2) ∧ (∀ r, o.boxed ≠ some r → (st'.loc r).1 = (st.loc r).1) := by
    rintro st0 x h1 h2 rfl
    exact ⟨fun t ht => by rw [put_env ht, h2], fun r _ => by rw [put_loc, h1], fun r _ => by rw [put_loc, h1]⟩
  have hexec : execOp' cp ci o.dst o.op o.xs st = some st' → (∀ t, o.dst ≠ some t → st'.env t = st.env t) ∧ (∀ r, o.root ≠ some r → (st'.loc r).2 = (st.loc r).2) ∧ (∀ r, o.boxed ≠ some r → (st'.loc r).1 = (st.loc r).1) := by
    clear h
    intro h
    obtain ⟨dst, op, xs, g⟩ := o
    simp only at h hput
    unfold execOp' at h
    split at h
    · simp only [Option.map_eq_some_iff] at h
      obtain ⟨x, -, rfl⟩ := h
      exact hput st x rfl rfl rfl
    · simp only [Option.map_eq_some_iff] at h
      obtain ⟨x, -, rfl⟩ := h
      exact hput st x rfl rfl rfl
    · rename_i r q
      simp only [Option.map_eq_some_iff] at h
      obtain ⟨x, hx, rfl⟩ := h
      refine ⟨fun t ht => put_env (st := { st with loc := upd st.loc r x.2 }) ht, fun p hp => ?_, fun p hp => ?_⟩
      · have : p ≠ r := fun e => hp (by simp [IOper.root, e])
        rw [put_loc]; simp [upd, this]
      · by_cases e : p = r
        · subst e
          rw [put_loc]
          simp only [upd, if_true]
          cases q with
          | box => simp [IOper.boxed] at hp
          | alloc z => simp [IOper.boxed] at hp
          | rng => simp [IOper.boxed] at hp
          | st k =>
            simp only [LOp.sem] at hx
            unfold stLSem at hx
            split at hx
            · split at hx
              · split at hx
                · simp only [Option.map_eq_some_iff] at hx
                  obtain ⟨_, -, rfl⟩ := hx
                  rfl
                · cases hx
              · cases hx
            · cases hx
          | next =>
            simp only [LOp.sem] at hx
            unfold nextSem at hx
            split at hx
            · split at hx
              · split at hx
                · split at hx <;> (simp only [Option.some.injEq] at hx; rw [← hx])
                · cases hx
              · cases hx
            · cases hx
        · rw [put_loc]; simp [upd, e]
    · simp only [Option.map_eq_some_iff] at h
      obtain ⟨x, -, rfl⟩ := h
      exact hput { st with sto := x.2 } x.1 rfl rfl rfl
  unfold stepOp at h
  split at h
  · exact hexec h
  · split at h
    · exact hexec h
    · simp only [Option.some.injEq] at h
      exact hput st .undef rfl rfl h.symm
theorem ops_frame : ∀ {ops : List IOper} {st st' : St}, runOps cp ci ops st = some st' → Fr (ops.filterMap IOper.dst) (ops.filterMap IOper.root) (ops.filterMap IOper.boxed) st st'
  | [], st, st', h => by simp only [runOps, Option.some.injEq] at h; subst h; exact Fr.refl ..
  | o :: os, st, st', h => by
    simp only [runOps, Option.bind_eq_some_iff] at h
    obtain ⟨st1, h1, h2⟩ := h
    obtain ⟨a1, a2, a3⟩ := op_frame h1
    have b := ops_frame h2
    have sub : ∀ (f : IOper → Option Nat) x, x ∈ os.filterMap f → x ∈ (o :: os).filterMap f := fun f x hx => by
      simp only [List.mem_filterMap] at hx ⊢
      obtain ⟨y, h1, h2⟩ := hx
      exact ⟨y, List.mem_cons_of_mem _ h1, h2⟩
    have hd : ∀ (f : IOper → Option Nat) x, x ∉ (o :: os).filterMap f → f o ≠ some x := fun f x hx e => hx (by simp only [List.mem_filterMap]; exact ⟨o, List.mem_cons_self, e⟩)
    exact Fr.trans ⟨fun t ht => a1 t (hd _ t ht), fun r hr => a2 r (hd _ r hr), fun r hr => a3 r (hd _ r hr)⟩ (b.wider (sub _) (sub _) (sub _))
theorem code_frame : ∀ (c : ICode) {st st' : St} {e : Exit}, runCode cp ci n c st = some (e, st') → frCode c st st'
  | .skip, st, st', e, h => by simp only [runCode, Option.some.injEq, Prod.mk.injEq] at h; obtain ⟨-, rfl⟩ := h; exact Fr.refl ..
  | .ret, st, st', e, h => by simp only [runCode, Option.some.injEq, Prod.mk.injEq] at h; obtain ⟨-, rfl⟩ := h; exact Fr.refl ..
  | .exit i, st, st', e, h => by simp only [runCode, Option.some.injEq, Prod.mk.injEq] at h; obtain ⟨-, rfl⟩ := h; exact Fr.refl ..
  | .reg ops, st, st', e, h => by
    simp only [runCode, Option.map_eq_some_iff, Prod.mk.injEq] at h
    obtain ⟨s, h1, -, rfl⟩ := h
    exact ops_frame h1
  | .seq a b, st, st', e, h => by
    have wl : ∀ {x y : St}, frCode a x y → frCode (.seq a b) x y := fun h => h.wider (fun x hx => by simp [ICode.wr, hx]) (fun x hx => by simp [ICode.wr, hx]) (fun x hx => by simp [ICode.wr, hx])
    have wr : ∀ {x y : St}, frCode b x y → frCode (.seq a b) x y := fun h => h.wider (fun x hx => by simp [ICode.wr, hx]) (fun x hx => by simp [ICode.wr, hx]) (fun x hx => by simp [ICode.wr, hx])
    simp only [runCode] at h
    split at h
    · rename_i s hs
      exact (wl (code_frame a hs)).trans (wr (code_frame b h))
    · exact wl (code_frame a h)
  | .cond c a b, st, st', e, h => by
    simp only [runCode] at h
    split at h
    · exact (code_frame a h).wider (fun x hx => by simp [ICode.wr, hx]) (fun x hx => by simp [ICode.wr, hx]) (fun x hx => by simp [ICode.wr, hx])
    · exact (code_frame b h).wider (fun x hx => by simp [ICode.wr, hx]) (fun x hx => by simp [ICode.wr, hx]) (fun x hx => by simp [ICode.wr, hx])
    · cases h
  | .block id a, st, st', e, h => by
    simp only [runCode] at h
    split at h
    · rename_i i s hs
      have := code_frame a hs
      split at h <;> (simp only [Option.some.injEq, Prod.mk.injEq] at h; obtain ⟨-, rfl⟩ := h; exact this)
    · exact code_frame a h
  | .loop a, st, st', e, h => by
    simp only [runCode] at h
    have aux : ∀ m st, iter (runCode cp ci n a) m st = some (e, st') → frCode a st st' := by
      intro m
      induction m with
      | zero => intro st h; simp [iter] at h
      | succ m ih =>
        intro st h
        simp only [iter] at h
        split at h
        · rename_i s hs
          exact (code_frame a hs).trans (ih s h)
        · exact code_frame a h
    exact aux n st h
theorem varsEnv_ok {ρ : List DVal} {L : Nat → Nat × DVal} {env : Nat → DVal} {vs us : List DVal} : ∀ {ts : List Nat} {b : Nat}, ρ.length + vs.length = b → ∀ t sv, (t, sv) ∈ varsEnv b ts → SVok (ρ ++ (vs ++ (ts.map env ++ us))) L (env t) sv
  | [], b, hb, t, sv, hm => by simp [varsEnv] at hm
  | d :: ds, b, hb, t, sv, hm => by
    simp only [varsEnv, List.mem_cons, Prod.mk.injEq] at hm
    rcases hm with ⟨rfl, rfl⟩ | hm
    · refine ⟨by simp [Ex.ok, Nat.blt_eq]; omega, ?_⟩
      subst hb
      simp [Ex.val, List.getD_eq_getElem?_getD]
    · have := varsEnv_ok (ρ := ρ) (vs := vs ++ [env d]) (us := us) (ts := ds) (b := b + 1) (L := L) (env := env) (by simp; omega) t sv hm
      simpa using this
theorem varsLoc_ok {ρ : List DVal} {f : Nat → DVal} {vs : List DVal} : ∀ {rs : List Nat} {b : Nat}, ρ.length + vs.length = b → ∀ r e g, (r, (e, g)) ∈ varsLoc b rs → g = none ∧ e.ok (ρ ++ (vs ++ rs.map f)).length = true ∧ f r = e.val (ρ ++ (vs ++ rs.map f))
  | [], b, hb, r, e, g, hm => by simp [varsLoc] at hm
  | d :: ds, b, hb, r, e, g, hm => by
    simp only [varsLoc, List.mem_cons, Prod.mk.injEq] at hm
    rcases hm with ⟨rfl, rfl, rfl⟩ | hm
    · refine ⟨rfl, by simp [Ex.ok, Nat.blt_eq]; omega, ?_⟩
      subst hb
      simp [Ex.val, List.getD_eq_getElem?_getD]
    · have := varsLoc_ok (ρ := ρ) (f := f) (vs := vs ++ [f d]) (rs := ds) (b := b + 1) (by simp; omega) r e g hm
      simpa using this
def valsOf (a : ICode) (s : SS) (st : St) : List DVal :=
  (slotVars (a.wr IOper.dst) s.env).map st.env ++ (rootVars (a.wr IOper.root) s.loc).map fun r => (st.loc r).2
theorem valsOf_length {a : ICode} {s : SS} {st : St} : (valsOf a s st).length = numVals a s := by simp [valsOf, numVals]
theorem padFrom_drop {vs : List DVal} : ∀ {m i : Nat}, i + m = vs.length → padFrom vs i m = vs.drop i
  | 0, i, h => by rw [List.drop_eq_nil_of_le (by omega)]; rfl
  | m + 1, i, h => by
    rw [padFrom, padFrom_drop (by omega), List.drop_eq_getElem_cons (by omega : i < vs.length)]
    rw [List.getD_eq_getElem?_getD, List.getElem?_eq_getElem (by omega : i < vs.length)]
    rfl
@[simp] theorem padFrom_vals {a : ICode} {s : SS} {st : St} : padFrom (valsOf a s st) 0 (numVals a s) = valsOf a s st := by
  rw [padFrom_drop (by rw [valsOf_length]; omega)]; rfl
def PtrsOk (a : ICode) (s : SS) (st : St) : Prop := ∀ t r off, (t, (r, off)) ∈ ptrVars (a.wr IOper.dst) s.env → st.env t = .loc r (st.loc r).1 off
theorem head_corr {a : ICode} {s : SS} {ρ : List DVal} {st0 st : St} (h : Corr s ρ st0) (hf : frCode a st0 st) (hp : PtrsOk a s st) (dep : Nat) : Corr (headOf a s dep) (ρ ++ valsOf a s st) st := by
  refine ⟨?_, fun t sv hm => ?_, fun r e g hm => ?_⟩
  · simp [headOf, valsOf, h.len]
  · simp only [headOf, List.mem_append, List.mem_map] at hm
    rcases hm with (hm | ⟨⟨t', r, off⟩, hm, he⟩) | hm
    · have := varsEnv_ok (ρ := ρ) (vs := []) (us := (rootVars (a.wr IOper.root) s.loc).map fun r => (st.loc r).2) (L := st.loc) (env := st.env) (by simp [h.len]) t sv hm
      simpa [valsOf] using this
    · simp only [Prod.mk.injEq] at he
      obtain ⟨rfl, rfl⟩ := he
      exact ⟨trivial, fun _ => hp _ _ _ hm⟩
    · simp only [keepEnv, List.mem_filter, Bool.and_eq_true, Bool.not_eq_true', List.contains_eq_mem, decide_eq_false_iff_not] at hm
      obtain ⟨hm, hw, hb⟩ := hm
      have := (h.env t sv hm).append (vs := valsOf a s st)
      rw [hf.env t hw]
      cases sv with
      | ex e => exact this
      | ptr r off g =>
        simp only at hb
        refine ⟨this.1, fun hg => ?_⟩
        rw [hf.ep r (by simpa using hb)]
        exact this.2 hg
  · simp only [headOf, List.mem_append] at hm
    rcases hm with hm | hm
    · have := varsLoc_ok (ρ := ρ) (f := fun r => (st.loc r).2) (vs := (slotVars (a.wr IOper.dst) s.env).map st.env) (by simp [h.len]) r e g hm
      obtain ⟨rfl, h1, h2⟩ := this
      exact ⟨h1, trivial, fun _ => h2⟩
    · simp only [keepLoc, List.mem_filter, Bool.not_eq_true', List.contains_eq_mem, decide_eq_false_iff_not] at hm
      obtain ⟨h1, h2, h3⟩ := h.loc r e g hm.1
      refine ⟨(ok_append h1).1, (gok_append h2).1, fun hg => ?_⟩
      rw [(gok_append h2).2] at hg
      rw [hf.loc r hm.2, (ok_append h1).2]
      exact h3 hg
theorem getSlots_ok {s : SS} {ρ : List DVal} {st : St} (h : Corr s ρ st) : ∀ {ts : List Nat} {es : List Ex}, getSlots s ts = some es → es.map (Ex.val ρ) = ts.map st.env
  | [], es, hs => by simp only [getSlots, Option.some.injEq] at hs; subst hs; rfl
  | t :: ts, es, hs => by
    simp only [getSlots] at hs
    split at hs
    · rename_i e es' h1 h2
      simp only [Option.some.injEq] at hs
      subst hs
      simp only [List.map_cons, getSlots_ok h h2, ← (h.ex h1).2, Opd.val]
    · cases hs
theorem getRoots_ok {s : SS} {ρ : List DVal} {st : St} (h : Corr s ρ st) : ∀ {ts : List Nat} {es : List Ex}, getRoots s ts = some es → es.map (Ex.val ρ) = ts.map fun r => (st.loc r).2
  | [], es, hs => by simp only [getRoots, Option.some.injEq] at hs; subst hs; rfl
  | t :: ts, es, hs => by
    simp only [getRoots] at hs
    split at hs
    · rename_i e es' h1 h2
      simp only [Option.some.injEq] at hs
      subst hs
      simp only [List.map_cons, getRoots_ok h h2, (h.cont h1).2 rfl]
    · cases hs
theorem samePtrs_ok {s : SS} {ρ : List DVal} {st : St} (h : Corr s ρ st) : ∀ {ps : List (Nat × (Nat × Nat))}, samePtrs s ps = true → ∀ t r off, (t, (r, off)) ∈ ps → st.env t = .loc r (st.loc r).1 off
  | [], _, t, r, off, hm => by simp at hm
  | (u, (q, o)) :: ps, hs, t, r, off, hm => by
    simp only [samePtrs, Bool.and_eq_true] at hs
    simp only [List.mem_cons, Prod.mk.injEq] at hm
    rcases hm with ⟨rfl, rfl, rfl⟩ | hm
    · have h1 := hs.1
      split at h1
      · rename_i q' o' hp
        simp only [Bool.and_eq_true] at h1
        have e1 := Nat.eq_of_beq_eq_true h1.1
        have e2 := Nat.eq_of_beq_eq_true h1.2
        subst e1 e2
        exact h.ptr hp rfl
      · cases h1
    · exact samePtrs_ok h hs.2 t r off hm
theorem nowVals_ok {a : ICode} {s0 s : SS} {ρ : List DVal} {st : St} {es : List Ex} (h : Corr s ρ st) (hs : nowVals a s0 s = some es) : es.map (Ex.val ρ) = valsOf a s0 st ∧ PtrsOk a s0 st := by
  simp only [nowVals] at hs
  split at hs
  · rename_i e1 e2 h1 h2
    split at hs
    · rename_i h3
      simp only [Option.some.injEq] at hs
      subst hs
      exact ⟨by rw [List.map_append, getSlots_ok h h1, getRoots_ok h h2]; rfl, samePtrs_ok h h3⟩
    · cases hs
  · cases hs
theorem iterJ_next {l i : Nat} {f : List DVal → Sto → Option Out} {vs' : List DVal} {σ' : Sto} : ∀ {m : Nat} {vs : List DVal} {σ : Sto}, iterJ l f m vs σ = some (.next i vs' σ') → i ≠ l ∧ ∃ us τ, f us τ = some (.next i vs' σ')
  | 0, vs, σ, h => by simp [iterJ] at h
  | m + 1, vs, σ, h => by
    simp only [iterJ] at h
    split at h
    · rename_i j ws τ e
      split at h
      · exact iterJ_next h
      · rename_i hne
        simp only [Option.some.injEq, Out.next.injEq] at h
        obtain ⟨rfl, rfl, rfl⟩ := h
        exact ⟨hne, _, _, e⟩
    · rename_i hne
      exact absurd h (hne i vs' σ')
theorem esc_next {l i : Nat} {vs : List DVal} {τ : Sto} : ∀ (t : T) (ρ : List DVal) (σ : Sto), t.esc l = true → den cp ci n t ρ σ = some (.next i vs τ) → i ≠ l
  | .ret xs, ρ, σ, he, h => by
    simp only [den, retJ] at h
    split at h <;> simp at h
  | .p o xs g k, ρ, σ, he, h => by
    simp only [den, bndP] at h
    split at h
    · exact esc_next k _ _ he h
    · cases h
  | .s o xs g k, ρ, σ, he, h => by
    simp only [den, bndS] at h
    split at h
    · exact esc_next k _ _ he h
    · cases h
  | .ite c a b, ρ, σ, he, h => by
    simp only [T.esc, Bool.and_eq_true] at he
    simp only [den, iteJ] at h
    split at h
    · exact esc_next a _ _ he.1 h
    · exact esc_next b _ _ he.2 h
    · cases h
  | .loop j init body, ρ, σ, he, h => by
    simp only [T.esc, Bool.or_eq_true, beq_iff_eq] at he
    simp only [den] at h
    obtain ⟨h1, us, τ', h2⟩ := iterJ_next h
    rcases he with rfl | he
    · exact h1
    · exact esc_next body _ _ he h2
  | .join j m body k, ρ, σ, he, h => by
    simp only [T.esc, Bool.and_eq_true, Bool.or_eq_true, beq_iff_eq] at he
    simp only [den, joinJ] at h
    split at h
    · rename_i i' vs' σ' e
      split at h
      · exact esc_next k _ _ he.2 h
      · rename_i hne
        simp only [Option.some.injEq, Out.next.injEq] at h
        obtain ⟨rfl, rfl, rfl⟩ := h
        rcases he.1 with rfl | he
        · exact hne
        · exact esc_next body _ _ he e
    · exact absurd h (by rename_i hne; exact hne _ _ _)
  | .next j xs, ρ, σ, he, h => by
    simp only [T.esc, bne_iff_ne, ne_eq] at he
    simp only [den, Option.some.injEq, Out.next.injEq] at h
    rw [← h.1]
    exact he
theorem noEsc_some {l : Nat} {t t' : T} (h : noEsc l t = some t') : t' = t ∧ t.esc l = true := by
  unfold noEsc at h
  split at h
  · rename_i he; simp only [Option.some.injEq] at h; exact ⟨h.symm, he⟩
  · cases h
def Leads (cp : Nat → List DVal → Option DVal) (ci : Nat → List DVal → Sto → Option (DVal × Sto)) (n : Nat) (k : Exit → SS → Option T) (out : Out) (e : Exit) (st' : St) : Prop :=
  ∃ s' t' ρ', k e s' = some t' ∧ Corr s' ρ' st' ∧ den cp ci n t' ρ' st'.sto = some out
theorem joinAt_leads {a : ICode} {s : SS} {k : Exit → SS → Option T} {out : Out} {e : Exit} {st' : St} (h : Leads cp ci n (joinAt a s k) out e st') :
    (e = .normal ∧ out = .next s.dep (valsOf a s st') st'.sto ∧ PtrsOk a s st') ∨ (e ≠ .normal ∧ (∀ vs τ, out ≠ .next s.dep vs τ) ∧ Leads cp ci n k out e st') := by
  obtain ⟨s', t', ρ', h1, h2, h3⟩ := h
  have other : e ≠ .normal → (k e s').bind (noEsc s.dep) = some t' → (e = .normal ∧ out = .next s.dep (valsOf a s st') st'.sto ∧ PtrsOk a s st') ∨ (e ≠ .normal ∧ (∀ vs τ, out ≠ .next s.dep vs τ) ∧ Leads cp ci n k out e st') := by
    intro hne h1
    simp only [Option.bind_eq_some_iff] at h1
    obtain ⟨t, ht, hn⟩ := h1
    obtain ⟨rfl, hesc⟩ := noEsc_some hn
    refine .inr ⟨hne, fun vs τ e => ?_, s', t', ρ', ht, h2, h3⟩
    rw [e] at h3
    exact esc_next _ _ _ hesc h3 rfl
  unfold joinAt at h1
  split at h1
  · simp only [Option.map_eq_some_iff] at h1
    obtain ⟨es, he, rfl⟩ := h1
    simp only [den, Option.some.injEq] at h3
    obtain ⟨a1, a2⟩ := nowVals_ok h2 he
    rw [a1] at h3
    exact .inl ⟨rfl, h3.symm, a2⟩
  · rename_i hne
    exact other (fun e => hne e) h1
theorem symb_sound : ∀ (c : ICode) (rs : Nat) (s : SS) (k : Exit → SS → Option T) (t : T), symb c rs s k = some t → ∀ (ρ : List DVal) (st : St) (out : Out), Corr s ρ st → den cp ci n t ρ st.sto = some out →
    ∃ e st', runCode cp ci n c st = some (e, st') ∧ Leads cp ci n k out e st'
  | .skip, rs, s, k, t, hs, ρ, st, out, h, hd => ⟨.normal, st, rfl, s, t, ρ, hs, h, hd⟩
  | .ret, rs, s, k, t, hs, ρ, st, out, h, hd => ⟨.ret, st, rfl, s, t, ρ, hs, h, hd⟩
  | .exit i, rs, s, k, t, hs, ρ, st, out, h, hd => ⟨.exit i, st, rfl, s, t, ρ, hs, h, hd⟩
  | .reg ops, rs, s, k, t, hs, ρ, st, out, h, hd => by
    simp only [symb] at hs
    split at hs
    · rename_i is s' h1
      simp only [Option.map_eq_some_iff] at hs
      obtain ⟨t', hk, rfl⟩ := hs
      rw [den_insTree] at hd
      simp only [Option.bind_eq_some_iff] at hd
      obtain ⟨⟨ρ', σ'⟩, hr, hd⟩ := hd
      obtain ⟨st', a1, rfl, a3⟩ := symbOps_sound h1 h hr
      exact ⟨.normal, st', by simp only [runCode, a1, Option.map_some], s', t', ρ', hk, a3, hd⟩
    · cases hs
  | .seq a b, rs, s, k, t, hs, ρ, st, out, h, hd => by
    simp only [symb] at hs
    obtain ⟨e, st1, h1, s1, t1, ρ1, h2, h3, h4⟩ := symb_sound a _ _ _ _ hs ρ st out h hd
    simp only at h2
    split at h2
    · obtain ⟨e2, st2, g1, g2⟩ := symb_sound b _ _ _ _ h2 ρ1 st1 out h3 h4
      exact ⟨e2, st2, by simp only [runCode, h1, g1], g2⟩
    · rename_i hne
      refine ⟨e, st1, ?_, s1, t1, ρ1, h2, h3, h4⟩
      simp only [runCode, h1]
      cases e <;> first | exact absurd rfl hne | rfl
  | .cond c a b, rs, s, k, t, hs, ρ, st, out, h, hd => by
    simp only [symb] at hs
    split at hs
    · rename_i e he
      have hc := (h.ex he).2
      split at hs
      · split at hs
        · rename_i ta tb tk h1 h2 h3
          simp only [Option.some.injEq] at hs
          subst hs
          simp only [den, joinJ] at hd
          have key : ∀ (x : ICode) (tx : T), (∀ (ρ : List DVal) (st : St) (out : Out), Corr { s with dep := s.dep + 1 } ρ st → den cp ci n tx ρ st.sto = some out → ∃ e st', runCode cp ci n x st = some (e, st') ∧ Leads cp ci n (joinAt (.cond c a b) s k) out e st') → runCode cp ci n (.cond c a b) st = runCode cp ci n x st →
              ∀ o, den cp ci n tx ρ st.sto = some o → (match some o with | some (.next i vs' σ') => if i = s.dep then den cp ci n tk (ρ ++ padFrom vs' 0 (numVals (.cond c a b) s)) σ' else some (.next i vs' σ') | r => r) = some out → ∃ e st', runCode cp ci n (.cond c a b) st = some (e, st') ∧ Leads cp ci n k out e st' := by
            intro x tx hx hrun o ho hd
            obtain ⟨e1, st1, g1, g2⟩ := hx ρ st o (h.dep _) ho
            rw [← hrun] at g1
            rcases joinAt_leads g2 with ⟨rfl, rfl, g3⟩ | ⟨g3, g4, g5⟩
            · simp only [if_true, padFrom_vals] at hd
              exact ⟨.normal, st1, g1, _, tk, _, h3, head_corr h (code_frame _ g1) g3 _, hd⟩
            · refine ⟨e1, st1, g1, ?_⟩
              cases o with
              | done v σ => simp only [Option.some.injEq] at hd; rw [← hd]; exact g5
              | next i vs τ =>
                have : i ≠ s.dep := fun e => g4 vs τ (by rw [e])
                simp only [this, if_false, Option.some.injEq] at hd
                rw [← hd]; exact g5
          simp only [iteJ] at hd
          rw [← hc] at hd
          split at hd
          all_goals rename_i heq
          · split at heq
            · rename_i hv
              exact key a ta (symb_sound a _ _ _ _ h1) (by simp only [runCode, hv]) _ heq (by simpa using hd)
            · rename_i hv
              exact key b tb (symb_sound b _ _ _ _ h2) (by simp only [runCode, hv]) _ heq (by simpa using hd)
            · cases heq
          · split at hd
            · rename_i hv
              exact key a ta (symb_sound a _ _ _ _ h1) (by simp only [runCode, hv]) out hd (by
                cases out with
                | done v σ => rfl
                | next i vs τ => exact absurd (by simp only [hv]; exact hd) (heq i vs τ))
            · rename_i hv
              exact key b tb (symb_sound b _ _ _ _ h2) (by simp only [runCode, hv]) out hd (by
                cases out with
                | done v σ => rfl
                | next i vs τ => exact absurd (by simp only [hv]; exact hd) (heq i vs τ))
            · cases hd
        · cases hs
      · split at hs
        · rename_i ta tb h1 h2
          simp only [Option.some.injEq] at hs
          subst hs
          simp only [den, iteJ] at hd
          rw [← hc] at hd
          split at hd
          · rename_i hv
            obtain ⟨e1, st1, g1, g2⟩ := symb_sound a _ _ _ _ h1 ρ st out h hd
            exact ⟨e1, st1, by simp only [runCode, hv, g1], g2⟩
          · rename_i hv
            obtain ⟨e1, st1, g1, g2⟩ := symb_sound b _ _ _ _ h2 ρ st out h hd
            exact ⟨e1, st1, by simp only [runCode, hv, g1], g2⟩
          · cases hd
        · cases hs
    · cases hs
  | .block id a, rs, s, k, t, hs, ρ, st, out, h, hd => by
    -- an end of the body is an end of the block
    have conv : ∀ (k0 : Exit → SS → Option T) (o : Out) (e1 : Exit) (st1 : St), runCode cp ci n a st = some (e1, st1) → Leads cp ci n (fun e s' => match e with | .exit i => if i = id then k0 .normal s' else k0 (.exit i) s' | e => k0 e s') o e1 st1 →
        ∃ e st', runCode cp ci n (.block id a) st = some (e, st') ∧ Leads cp ci n k0 o e st' := by
      intro k0 o e1 st1 g1 g2
      obtain ⟨s', t', ρ', g2, g3, g4⟩ := g2
      simp only at g2
      split at g2
      · rename_i i
        split at g2
        · rename_i hi
          exact ⟨.normal, st1, by simp only [runCode, g1, hi, if_true], s', t', ρ', g2, g3, g4⟩
        · rename_i hi
          exact ⟨.exit i, st1, by simp only [runCode, g1, hi, if_false], s', t', ρ', g2, g3, g4⟩
      · rename_i hne
        refine ⟨e1, st1, ?_, s', t', ρ', g2, g3, g4⟩
        simp only [runCode, g1]
        try (cases e1 <;> first | exact absurd rfl (hne _) | rfl)
    simp only [symb] at hs
    split at hs
    · split at hs
      · rename_i ta tk h1 h2
        simp only [Option.some.injEq] at hs
        subst hs
        simp only [den, joinJ] at hd
        have key : ∀ o, den cp ci n ta ρ st.sto = some o → (match some o with | some (.next i vs' σ') => if i = s.dep then den cp ci n tk (ρ ++ padFrom vs' 0 (numVals (.block id a) s)) σ' else some (.next i vs' σ') | r => r) = some out → ∃ e st', runCode cp ci n (.block id a) st = some (e, st') ∧ Leads cp ci n k out e st' := by
          intro o ho hd
          obtain ⟨e1, st1, g1, g2⟩ := symb_sound a _ _ _ _ h1 ρ st o (h.dep _) ho
          obtain ⟨e1, st1, g1, g2⟩ := conv _ o e1 st1 g1 g2
          rcases joinAt_leads g2 with ⟨rfl, rfl, g3⟩ | ⟨g3, g4, g5⟩
          · simp only [if_true, padFrom_vals] at hd
            exact ⟨.normal, st1, g1, _, tk, _, h2, head_corr h (code_frame _ g1) g3 _, hd⟩
          · refine ⟨e1, st1, g1, ?_⟩
            cases o with
            | done v σ => simp only [Option.some.injEq] at hd; rw [← hd]; exact g5
            | next i vs τ =>
              have : i ≠ s.dep := fun e => g4 vs τ (by rw [e])
              simp only [this, if_false, Option.some.injEq] at hd
              rw [← hd]; exact g5
        split at hd
        · rename_i heq
          exact key _ heq (by simpa using hd)
        · rename_i heq
          exact key out hd (by
            cases out with
            | done v σ => rfl
            | next i vs τ => exact absurd hd (heq i vs τ))
      · cases hs
    · obtain ⟨e1, st1, g1, g2⟩ := symb_sound a _ _ _ _ hs ρ st out h hd
      exact conv k out e1 st1 g1 g2
  | .loop a, rs, s, k, t, hs, ρ, st, out, h, hd => by
    simp only [symb] at hs
    split at hs
    · rename_i init hinit
      simp only [Option.map_eq_some_iff] at hs
      obtain ⟨body, hb, rfl⟩ := hs
      obtain ⟨i1, i2⟩ := nowVals_ok h hinit
      simp only [den] at hd
      have hlen : init.length = numVals a s := by rw [← valsOf_length (a := a) (s := s) (st := st), ← i1, List.length_map]
      rw [i1, hlen] at hd
      have aux : ∀ m st1, frCode a st st1 → PtrsOk a s st1 → iterJ s.dep (fun vs σ => den cp ci n body (ρ ++ padFrom vs 0 (numVals a s)) σ) m (valsOf a s st1) st1.sto = some out →
          ∃ e st', iter (runCode cp ci n a) m st1 = some (e, st') ∧ Leads cp ci n k out e st' := by
        intro m
        induction m with
        | zero => intro st1 _ _ hd; simp [iterJ] at hd
        | succ m ih =>
          intro st1 hf hp hd
          simp only [iterJ, padFrom_vals] at hd
          have hcorr := head_corr h hf hp (s.dep + 1)
          cases ho : den cp ci n body (ρ ++ valsOf a s st1) st1.sto with
          | none => rw [ho] at hd; simp at hd
          | some o =>
            rw [ho] at hd
            obtain ⟨e1, st2, g1, g2⟩ := symb_sound a _ _ _ _ hb _ st1 o hcorr ho
            rcases joinAt_leads g2 with ⟨rfl, rfl, g3⟩ | ⟨g3, g4, g5⟩
            · simp only [if_true] at hd
              obtain ⟨e3, st3, q1, q2⟩ := ih st2 (hf.trans (code_frame a g1)) g3 hd
              exact ⟨e3, st3, by simp only [iter, g1, q1], q2⟩
            · refine ⟨e1, st2, ?_, ?_⟩
              · simp only [iter, g1]
                cases e1 <;> first | exact absurd rfl g3 | rfl
              · cases o with
                | done v σ => simp only [Option.some.injEq] at hd; rw [← hd]; exact g5
                | next i vs τ =>
                  have : i ≠ s.dep := fun e => g4 vs τ (by rw [e])
                  simp only [this, if_false, Option.some.injEq] at hd
                  rw [← hd]; exact g5
      obtain ⟨e, st', g1, g2⟩ := aux n st (Fr.refl ..) i2 hd
      exact ⟨e, st', by simp only [runCode, g1], g2⟩
    · cases hs
theorem resTree_sound : ∀ {rs : List IRes} {s : SS} {es : List Ex} {t : T} {ρ : List DVal} {st : St} {out : Out}, resTree rs s es = some t → Corr s ρ st → (∀ e, e ∈ es → e.ok ρ.length = true) → den cp ci n t ρ st.sto = some out →
    ∃ vs d, out = .done d st.sto ∧ resEx (es.map (Ex.val ρ) ++ vs) = some d ∧ (rs.length = vs.length) ∧ ((es.map (Ex.val ρ) ++ vs).all DVal.okVal = true → resVals st rs = some vs)
  | [], s, es, t, ρ, st, out, hs, h, hok, hd => by
    simp only [resTree, Option.some.injEq] at hs
    subst hs
    simp only [den, retJ] at hd
    split at hd
    · rename_i d e
      simp only [Option.some.injEq] at hd
      exact ⟨[], d, hd.symm, by simpa using e, rfl, fun _ => rfl⟩
    · cases hd
  | .t i :: rs, s, es, t, ρ, st, out, hs, h, hok, hd => by
    simp only [resTree, Option.bind_eq_some_iff] at hs
    obtain ⟨e, he, hs⟩ := hs
    obtain ⟨a1, a2⟩ := h.ex he
    obtain ⟨vs, d, g1, g2, g3, g4⟩ := resTree_sound hs h (fun x hx => by
      simp only [List.mem_append, List.mem_singleton] at hx
      rcases hx with hx | rfl
      · exact hok x hx
      · exact a1) hd
    refine ⟨e.val ρ :: vs, d, g1, by simpa using g2, by simp [g3], fun hall => ?_⟩
    have hrest := g4 (by simpa using hall)
    have hv : DVal.okVal (e.val ρ) = true := by simp only [List.all_append, List.all_cons, Bool.and_eq_true] at hall; exact hall.2.1
    simp only [Opd.val] at a2
    simp only [resVals, IRes.val, hrest, a2, hv, if_true]
  | .cell r sz :: rs, s, es, t, ρ, st, out, hs, h, hok, hd => by
    simp only [resTree] at hs
    split at hs
    · rename_i q off c hp hc
      split at hs
      · rename_i hq
        subst hq
        simp only [Option.map_eq_some_iff] at hs
        obtain ⟨t', hs, rfl⟩ := hs
        simp only [den, bndP, guarded] at hd
        split at hd
        · rename_i v hv
          have hp' := h.ptr hp rfl
          obtain ⟨hcok, hc'⟩ := h.cont hc
          have hc' := hc' rfl
          have hmap : es.map (Ex.val (ρ ++ [v])) = es.map (Ex.val ρ) := List.map_congr_left fun x hx => (ok_append (hok x hx)).2
          obtain ⟨vs, d, g1, g2, g3, g4⟩ := resTree_sound (es := es ++ [.v s.nv]) hs (h.more (vs := [v]) rfl) (fun x hx => by
            simp only [List.mem_append, List.mem_singleton] at hx
            rcases hx with hx | rfl
            · exact (ok_append (hok x hx)).1
            · rw [← h.len]; exact v_ok) hd
          rw [List.map_append, hmap] at g2 g4
          have hlast : [Ex.v s.nv].map (Ex.val (ρ ++ [v])) = [v] := by rw [← h.len]; simp [v_last]
          rw [hlast] at g2 g4
          refine ⟨v :: vs, d, g1, by simpa using g2, by simp [g3], fun hall => ?_⟩
          have hrest := g4 (by simpa using hall)
          have hvok : DVal.okVal v = true := by simp only [List.all_append, List.all_cons, Bool.and_eq_true] at hall; exact hall.2.1
          have hrd : readLoc q sz (st.loc q) [st.env q] = some v := by
            simp only [Opd.val] at hp'
            simp only [JOp.sem, POp.sem, List.map_cons, List.map_nil, ← hc'] at hv
            unfold fldSem at hv
            split at hv
            · rename_i cs hcs
              simp only [List.cons.injEq, and_true] at hcs
              simp only [hp', readLoc, true_and, if_true, hcs, hv]
            · cases hv
          simp only [resVals, IRes.val, hrd, hrest, hvok, if_true]
        · cases hd
      · cases hs
    · cases hs
theorem resEx_sound {st : St} {rs : List IRes} {vs : List DVal} {d : DVal} (h1 : resEx vs = some d) (h2 : rs.length = vs.length) (h3 : vs.all DVal.okVal = true → resVals st rs = some vs) : resVal st rs = some d := by
  unfold resEx at h1
  split at h1
  · rename_i v
    split at h1
    · rename_i hok
      simp only [Option.some.injEq] at h1
      subst h1
      have := h3 (by simpa using hok)
      simp only [resVal, this]
    · cases h1
  · rename_i hne
    split at h1
    · rename_i hok
      simp only [Option.some.injEq] at h1
      subst h1
      have := h3 hok
      unfold resVal
      rw [this]
      split
      · rename_i v e; exact absurd (Option.some.inj e) (hne v)
      · rename_i us _ e; rw [Option.some.inj e]
      · rename_i e; cases e
    · cases h1
theorem parEnv_mem : ∀ {n t : Nat} {sv : SV}, (t, sv) ∈ parEnv n → t < n ∧ sv = .ex (.v t)
  | 0, t, sv, h => by simp [parEnv] at h
  | n + 1, t, sv, h => by
    simp only [parEnv, List.mem_cons, Prod.mk.injEq] at h
    rcases h with ⟨rfl, rfl⟩ | h
    · exact ⟨by omega, rfl⟩
    · have := parEnv_mem h; exact ⟨by omega, this.2⟩
theorem symbFun_sound {F : IFunc} {t : T} {args : List DVal} {σ σ' : Sto} {v : DVal} (hs : symbFun F = some t) (hlen : args.length = F.npar) (hd : den cp ci n t args σ = some (.done v σ')) : runFun cp ci n F args σ = some (v, σ') := by
  have h0 : Corr { env := parEnv F.npar, loc := [], nv := F.npar, dep := 0 } args (enter args σ) := by
    refine ⟨hlen, fun t sv hm => ?_, fun r e g hm => by simp at hm⟩
    obtain ⟨h1, rfl⟩ := parEnv_mem hm
    exact ⟨by simp [Ex.ok, Nat.blt_eq, hlen, h1], rfl⟩
  obtain ⟨e, st', g1, s', t', ρ', g2, g3, g4⟩ := symb_sound (cp := cp) (ci := ci) (n := n) _ _ _ _ _ hs args (enter args σ) _ h0 hd
  have fin : resTree F.res s' [] = some t' → (resVal st' F.res).map (fun v => (v, st'.sto)) = some (v, σ') := by
    intro hr
    obtain ⟨vs, d, a1, a2, a3, a4⟩ := resTree_sound hr g3 (by simp) g4
    simp only [List.map_nil, List.nil_append] at a2 a4
    simp only [Out.done.injEq] at a1
    obtain ⟨rfl, rfl⟩ := a1
    rw [resEx_sound a2 a3 a4]
    rfl
  unfold runFun
  rw [if_pos hlen, g1]
  simp only at g2
  split at g2
  · exact fin g2
  · exact fin g2
  · cases g2
end
end Go.Proofs.YtklepphkbbjbjaaDoor
namespace Go.Proofs.YtklepphkbbjbjaaDoor
set_option linter.unusedVariables false
set_option linter.unusedSimpArgs false
open Go Go.RowKit
def treeOf (P : Program) (h : Hint) (fn : Func) : Option (Nat × T) :=
  match h.rng, compFunc P h fn with
  | false, some F => (symbFun F).map fun t => (F.npar, t)
  | _, _ => none
def KnowsJ (P : Program) (f : FuncId) (np : Nat) (t : T) : Prop := ∃ fn h, P.funcs[f]? = some fn ∧ (fn.name == "runtime.NumGoroutine") = false ∧ treeOf P h fn = some (np, t)
theorem KnowsJ.knows {P : Program} {f : FuncId} {np : Nat} {t : T} (hk : KnowsJ P f np t) : ∃ F, Knows P f F ∧ F.npar = np ∧ symbFun F = some t := by
  obtain ⟨fn, h, h1, h2, h3⟩ := hk
  unfold treeOf at h3
  split at h3
  · rename_i F hr0 hF
    simp only [Option.map_eq_some_iff, Prod.mk.injEq] at h3
    obtain ⟨t', ht, rfl, rfl⟩ := h3
    exact ⟨F, ⟨fn, h, h1, h2, hr0, hF⟩, rfl, ht⟩
  · cases h3
def Out.setO (o : Nat → Nat) : Out → Out
  | .done v σ => .done v (σ.setO o)
  | .next l vs σ => .next l vs (σ.setO o)
theorem iterJ_ora {l : Nat} {f : List DVal → Sto → Option Out} (hf : ∀ vs σ o, f vs (σ.setO o) = (f vs σ).map (Out.setO o)) : ∀ (m : Nat) (vs : List DVal) (σ : Sto) (o : Nat → Nat), iterJ l f m vs (σ.setO o) = (iterJ l f m vs σ).map (Out.setO o)
  | 0, _, _, _ => rfl
  | m + 1, vs, σ, o => by
    simp only [iterJ, hf]
    cases h : f vs σ with
    | none => rfl
    | some x =>
      cases x with
      | done v τ => rfl
      | next i vs' τ =>
        simp only [Option.map_some, Out.setO]
        split
        · exact iterJ_ora hf m vs' τ o
        · rfl
theorem den_ora {cp : Nat → List DVal → Option DVal} {ci : Nat → List DVal → Sto → Option (DVal × Sto)} (hci : OraOk ci) {n : Nat} : ∀ (t : T), t.det = true → ∀ (ρ : List DVal) (σ : Sto) (o : Nat → Nat), den cp ci n t ρ (σ.setO o) = (den cp ci n t ρ σ).map (Out.setO o)
  | .ret xs, _, ρ, σ, o => by
    simp only [den]
    cases resEx (xs.map (Ex.val ρ)) <;> rfl
  | .p op xs g k, hd, ρ, σ, o => by
    simp only [T.det] at hd
    simp only [den]
    cases guarded ρ g (op.sem cp (xs.map (Ex.val ρ))) with
    | none => rfl
    | some v => exact den_ora hci k hd _ σ o
  | .s op xs g k, hd, ρ, σ, o => by
    simp only [T.det, Bool.and_eq_true, Bool.not_eq_true'] at hd
    have hdet : ∀ b, (IOp.s b op).det = true := fun b => by cases op <;> first | rfl | (have := hd.1; simp [SOp.isNext] at this)
    have hg : guardedS ρ (σ.setO o) g (op.sem cp ci (σ.setO o) (xs.map (Ex.val ρ))) = (guardedS ρ σ g (op.sem cp ci σ (xs.map (Ex.val ρ)))).map (setO2 o) := by
      rw [SOp.ora hci hdet]
      cases g with
      | none => rfl
      | some p =>
        obtain ⟨i, b⟩ := p
        simp only [guardedS]
        split <;> rfl
    simp only [den]
    rw [hg]
    cases guardedS ρ σ g (op.sem cp ci σ (xs.map (Ex.val ρ))) with
    | none => rfl
    | some y => exact den_ora hci k hd.2 _ y.2 o
  | .ite c a b, hd, ρ, σ, o => by
    simp only [T.det, Bool.and_eq_true] at hd
    simp only [den, den_ora hci a hd.1 ρ σ o, den_ora hci b hd.2 ρ σ o]
    unfold iteJ
    split <;> rfl
  | .loop l init body, hd, ρ, σ, o => by
    simp only [T.det] at hd
    simp only [den]
    exact iterJ_ora (fun vs σ o => den_ora hci body hd _ σ o) n _ σ o
  | .join l m body k, hd, ρ, σ, o => by
    simp only [T.det, Bool.and_eq_true] at hd
    simp only [den, den_ora hci body hd.1 ρ σ o]
    cases den cp ci n body ρ σ with
    | none => rfl
    | some x =>
      cases x with
      | done v τ => rfl
      | next i vs τ =>
        simp only [Option.map_some, Out.setO, joinJ]
        split
        · exact den_ora hci k hd.2 _ τ o
        · rfl
  | .next l xs, _, ρ, σ, o => rfl
def OraSem (sem : List DVal → Sto → Option (DVal × Sto)) : Prop := ∀ ds σ o, sem ds (σ.setO o) = (sem ds σ).map (setO2 o)
theorem rdet_ora (σ : Sto) (o : Nat → Nat) (g : (Nat → Nat) → Option (DVal × Sto)) : rdet (σ.setO o) g = (rdet σ g).map (setO2 o) := by
  unfold rdet
  by_cases hc : ∀ o, ∃ y z, g o = some y ∧ g (fun _ => 0) = some z ∧ likeR y z
  · rw [if_pos hc, if_pos hc, Option.map_map]
    rfl
  · rw [if_neg hc, if_neg hc]
    rfl
theorem evJ_ora {prog : Nat → Option JFun} (hb : ∀ f np t, prog f = some (.body np t) → t.det = true) (hs : ∀ f sem, prog f = some (.sprim sem) → OraSem sem) : ∀ n, OraOk (ciJ prog n)
  | 0 => fun f xs σ o => rfl
  | n + 1 => fun f xs σ o => by
    have ih := evJ_ora hb hs n
    unfold ciJ evJ
    cases hf : prog f with
    | none => rfl
    | some jf =>
      cases jf with
      | body np t =>
        simp only
        split
        · have hd := den_ora (cp := fun g xs => (evJ prog n g xs none).map (·.1)) (ci := fun g xs τ => evJ prog n g xs (some τ)) ih (n := n) t (hb f np t hf) xs σ o
          rw [hd]
          generalize den _ _ n t xs σ = X
          cases X with
          | none => rfl
          | some x => cases x <;> rfl
        · rfl
      | prim sem => rfl
      | alt np s t => rfl
      | sprim sem => exact hs f sem hf xs σ o
      | rbody np t =>
        simp only
        split
        · exact rdet_ora σ o _
        · rfl
def treeR (P : Program) (h : Hint) (fn : Func) : Option (Nat × T) :=
  match fn.body, compFunc P h fn with
  | some c, some F => if choiceOk F.body c then (symbFun F).map fun t => (F.npar, t) else none
  | _, _ => none
def KnowsR (P : Program) (f : FuncId) (np : Nat) (t : T) : Prop := ∃ fn h, P.funcs[f]? = some fn ∧ (fn.name == "runtime.NumGoroutine") = false ∧ treeR P h fn = some (np, t)
theorem Inv.like {V : Vw} {L : Nat → Nat × DVal} {y z : DVal × Sto} {w : World} (h : Inv V L y.2 w) (hl : likeR y z) (o : Nat → Nat) : Inv V L { z.2 with ora := o } w := by
  obtain ⟨-, l1, l2, l3, l4⟩ := hl
  refine ⟨h.hB, h.tag, h.ep, h.root, h.nobj.trans l1, fun id hid => ?_, h.ntok.trans l2, h.fr.trans l3, h.tag4, h.tok, fun q m c hq e => ?_, h.hrt⟩
  · show (z.2.obj id ≠ .undef → _) ∧ ObjRel V w (z.2.obj id) _
    obtain ⟨h1, h2⟩ := h.obj id hid
    rcases l4 id with e | ⟨es, es', e1, e2, hp, hn⟩
    · rw [← e]; exact ⟨h1, h2⟩
    · rw [e1] at h1 h2
      refine ⟨fun _ => h1 (by simp), ?_⟩
      rw [e2]
      obtain ⟨ms, clock, l, g1, g2, g3, g4⟩ := h2.map (fun s r hh => hn s (by rw [hh]; simp))
      exact ObjRel.ofMap g1 (hp.symm.trans g2) g3 g4
  · have e : z.2.obj q = .func m c := e
    have hy : y.2.obj q = .func m c := by
      rcases l4 q with e' | ⟨es, es', e1, e2, -⟩
      · rw [e', e]
      · rw [e2] at e; cases e
    have hm := h.hid q m c hq hy
    show z.2.obj m = _
    rcases l4 m with e' | ⟨es, es', e1, e2, -⟩
    · rw [← e', hm]
    · rw [e1] at hm; cases hm
theorem evJ_sound {P : Program} {Gl : List (Nat × Nat × Option Value)} {prog : Nat → Option JFun} (hb : ∀ f np t, prog f = some (.body np t) → KnowsJ P f np t) (hp : ∀ f sem, prog f = some (.prim sem) → PureOk P Gl f sem) (ha : ∀ f np s t, prog f = some (.alt np s t) → KnowsJ P f np s ∧ KnowsJ P f np t) (hq : ∀ f sem, prog f = some (.sprim sem) → ImpOk P Gl f sem) (hr : ∀ f np t, prog f = some (.rbody np t) → KnowsR P f np t) (hO : ∀ n, OraOk (ciJ prog n)) :
    ∀ n, (∀ f, PureOk P Gl f (cpJ prog n f)) ∧ ∀ f, ImpOk P Gl f (ciJ prog n f)
  | 0 => ⟨fun f I w ds vs r _ _ _ hr => by simp [cpJ, evJ] at hr, fun f V σ σ' w ds vs r _ _ _ hr => by simp [ciJ, evJ] at hr⟩
  | n + 1 => by
    obtain ⟨ihp, ihi⟩ := evJ_sound hb hp ha hq hr hO n
    have pure1 : ∀ (f : FuncId) (np : Nat) (t : T) (I : Nat → Nat → Prop) (w : World) (ds : List DVal) (vs : List Value) (x : DVal × Sto), KnowsJ P f np t → (∀ b n, I b n → b < w.heap.size) → HasG Gl I w → VRels (VI I w.heap.size) w 2 ds vs → ds.length = np →
        handJ (den (fun g xs => (evJ prog n g xs none).map (·.1)) (fun g xs τ => evJ prog n g xs (some τ)) n t ds emptySto) = some x → callable P f ∧ Calls P f vs.toArray w fun e w' => ∃ v, e = .returned v ∧ Below w.heap.size w w' ∧ HRel I w w' x.1 v := by
      intro f np t I w ds vs x hkj hI hG hv hlen hh
      obtain ⟨F, hk, rfl, ht⟩ := hkj.knows
      unfold handJ at hh
      split at hh
      · rename_i v σ hd
        simp only [Option.map_eq_some_iff] at hh
        obtain ⟨z, hz, rfl⟩ := hh
        have hy := symbFun_sound ht hlen hd
        refine ⟨hk.callable, ?_⟩
        refine (fun_sound (cp := cpJ prog n) (ci := ciJ prog n) ihp ihi hk VI_inv (hG.ext fun b n hn => ⟨VI_imm.2 ⟨hI b n hn, hn⟩, rfl⟩) hv.open' hy).mono ?_
        rintro e w' ⟨v, V', rfl, ha, hinv, hrel⟩
        obtain ⟨q1, q2⟩ := hand_sound ha hinv hrel hz
        exact ⟨v, rfl, q1, q2⟩
      · cases hh
    refine ⟨fun f I w ds vs r hI hG hv hr => ?_, fun f V σ σ' w ds vs r hi hG hv hr0 => ?_⟩
    · unfold cpJ evJ at hr
      split at hr
      · rename_i np t hF
        obtain ⟨F, hk, rfl, ht⟩ := (hb f np t hF).knows
        split at hr
        · rename_i hlen
          split at hr
          · rename_i v σ hd
            simp only [Option.map_eq_some_iff] at hr
            obtain ⟨x, ⟨z, hz, rfl⟩, rfl⟩ := hr
            have hy := symbFun_sound ht hlen hd
            refine ⟨hk.callable, ?_⟩
            refine (fun_sound (cp := cpJ prog n) (ci := ciJ prog n) ihp ihi hk VI_inv (hG.ext fun b n hn => ⟨VI_imm.2 ⟨hI b n hn, hn⟩, rfl⟩) hv.open' hy).mono ?_
            rintro e w' ⟨v, V', rfl, ha, hinv, hrel⟩
            obtain ⟨q1, q2⟩ := hand_sound ha hinv hrel hz
            exact ⟨v, rfl, q1, q2⟩
          · simp at hr
        · simp at hr
      · rename_i sem hF
        simp only [Option.map_eq_some_iff] at hr
        obtain ⟨x, ⟨y, hy, rfl⟩, rfl⟩ := hr
        exact hp f sem hF I w ds vs y hI hG hv hy
      · rename_i np s t hF
        obtain ⟨k1, k2⟩ := ha f np s t hF
        split at hr
        · rename_i hlen
          simp only [Option.map_eq_some_iff] at hr
          obtain ⟨x, hx, rfl⟩ := hr
          rcases Option.or_eq_some_iff.1 hx with hx | ⟨-, hx⟩
          · exact pure1 f np s I w ds vs x k1 hI hG hv hlen hx
          · exact pure1 f np t I w ds vs x k2 hI hG hv hlen hx
        · simp at hr
      · simp at hr
    · unfold ciJ evJ at hr0
      split at hr0
      · rename_i np t hF
        obtain ⟨F, hk, rfl, ht⟩ := (hb f np t hF).knows
        split at hr0
        · rename_i hlen
          split at hr0
          · rename_i v σ2 hd
            simp only [Option.some.injEq, Prod.mk.injEq] at hr0
            obtain ⟨rfl, rfl⟩ := hr0
            have hy := symbFun_sound ht hlen hd
            exact ⟨hk.callable, fun_sound (cp := cpJ prog n) (ci := ciJ prog n) ihp ihi hk hi hG hv.open' hy⟩
          · simp at hr0
        · simp at hr0
      · rename_i sem hF
        exact hq f sem hF V σ σ' w ds vs r hi hG hv hr0
      · rename_i np t hF
        obtain ⟨fn, h, h1, h2, h3⟩ := hr f np t hF
        unfold treeR at h3
        split at h3
        · rename_i c F hbody hF3
          split at h3
          · rename_i hch
            simp only [Option.map_eq_some_iff, Prod.mk.injEq] at h3
            obtain ⟨t', ht, rfl, rfl⟩ := h3
            split at hr0
            · rename_i hlen
              unfold rdet at hr0
              split at hr0
              · rename_i hall
                simp only [Option.map_eq_some_iff, Prod.mk.injEq] at hr0
                obtain ⟨z0, hz0, rfl, rfl⟩ := hr0
                have hrun : ∀ o y, outR (den (fun g xs => (evJ prog n g xs none).map (·.1)) (fun g xs τ => evJ prog n g xs (some τ)) n t' ds { σ with ora := o }) = some y → runFun (cpJ prog n) (ciJ prog n) n F ds (σ.setO o) = some y := by
                  intro o y hy
                  unfold outR at hy
                  split at hy
                  · rename_i v τ hd
                    simp only [Option.some.injEq] at hy
                    subst hy
                    exact symbFun_sound ht hlen hd
                  · cases hy
                have hcall : callable P f := ⟨fn, h1, h2, by rw [hbody]; rfl⟩
                refine ⟨hcall, (fun_soundR (n := n) (cp := cpJ prog n) (ci := ciJ prog n) ihp ihi (hO n) h1 h2 hF3 hbody hch hi hG hv.open' (fun o => ?_)).mono ?_⟩
                · obtain ⟨y, z, hy, -⟩ := hall o
                  exact ⟨y, hrun o y hy⟩
                · rintro e w' ⟨o, r, σ', v, V', g1, rfl, g2, g3, g4⟩
                  obtain ⟨y, z, hy, hz, hl⟩ := hall o
                  have hyr := (hrun o y hy).symm.trans g1
                  simp only [Option.some.injEq] at hyr
                  subst hyr
                  have hz := hz0.symm.trans hz
                  simp only [Option.some.injEq] at hz
                  subst hz
                  refine ⟨v, V', rfl, g2, Inv.like (y := (r, σ')) g3 hl _, ?_⟩
                  rw [← hl.1]
                  exact g4
              · cases hr0
            · cases hr0
          · cases h3
        · cases h3
      · cases hr0
def hintR (slots fns : List (Nat × Nat)) (pts : List Nat := []) : Hint := { slot := fun n => (slots.lookup n).getD 0, fn := fun n => (fns.lookup n).getD 0, pt := fun t => pts.contains t, rng := true }
def hintJ (slots fns : List (Nat × Nat)) (pts : List Nat := []) : Hint := { slot := fun n => (slots.lookup n).getD 0, fn := fun n => (fns.lookup n).getD 0, pt := fun t => pts.contains t }
def JOk (P : Program) (Gl : List (Nat × Nat × Option Value)) : Nat × JFun → Prop
  | (f, .body np t) => KnowsJ P f np t
  | (f, .prim sem) => PureOk P Gl f sem
  | (f, .alt np s t) => KnowsJ P f np s ∧ KnowsJ P f np t
  | (f, .sprim sem) => ImpOk P Gl f sem ∧ OraSem sem
  | (f, .rbody np t) => KnowsR P f np t
def AllJ (P : Program) (Gl : List (Nat × Nat × Option Value)) : List (Nat × JFun) → Prop
  | [] => True
  | p :: ps => JOk P Gl p ∧ AllJ P Gl ps
def progJ (t : List (Nat × JFun)) : Nat → Option JFun := fun f => t.lookup f
theorem AllJ.get {P : Program} {Gl : List (Nat × Nat × Option Value)} : ∀ {t : List (Nat × JFun)}, AllJ P Gl t → ∀ {f : Nat} {x : JFun}, t.lookup f = some x → JOk P Gl (f, x)
  | [], _, f, x, h => by simp at h
  | p :: ps, ha, f, x, h => by
    obtain ⟨q, y⟩ := p
    simp only [AllJ] at ha
    rw [List.lookup_cons] at h
    split at h
    · rename_i e
      simp only [Option.some.injEq] at h
      subst h
      have : f = q := by simpa using e
      subst this
      exact ha.1
    · exact ha.2.get h
def detJ (t : List (Nat × JFun)) : Bool := t.all fun p => match p.2 with
  | .body _ t => t.det
  | _ => true
theorem detJ_get {t : List (Nat × JFun)} (h : detJ t = true) {f : Nat} {np : Nat} {b : T} (hf : t.lookup f = some (.body np b)) : b.det = true := by
  have hm : (f, JFun.body np b) ∈ t := by
    clear h
    induction t with
    | nil => simp at hf
    | cons p ps ih =>
      obtain ⟨q, y⟩ := p
      rw [List.lookup_cons] at hf
      split at hf
      · rename_i e
        simp only [Option.some.injEq] at hf
        subst hf
        have : f = q := by simpa using e
        subst this
        simp
      · exact List.mem_cons_of_mem _ (ih hf)
  exact (List.all_eq_true.1 h) _ hm
theorem allJ_sound {P : Program} {Gl : List (Nat × Nat × Option Value)} {t : List (Nat × JFun)} (h : AllJ P Gl t) (hd : detJ t = true) (n : Nat) : (∀ f, PureOk P Gl f (cpJ (progJ t) n f)) ∧ ∀ f, ImpOk P Gl f (ciJ (progJ t) n f) :=
  evJ_sound (fun f np t hF => h.get hF) (fun f sem hF => h.get hF) (fun f np s t hF => h.get hF) (fun f sem hF => (h.get hF).1) (fun f np t hF => h.get hF) (evJ_ora (fun f np b hF => detJ_get hd hF) (fun f sem hF => (h.get hF).2)) n
end Go.Proofs.YtklepphkbbjbjaaDoor
namespace Go.Proofs.YtklepphkbbjbjaaDoor
set_option linter.unusedVariables false
set_option maxRecDepth 100000
open Go
instance vEx (n : Nat) : OfNat Ex n := ⟨.v n⟩
abbrev q (o : POp) (xs : List Ex) (k : T) : T := .p (.p o) xs none k
abbrev qt (o : POp) (xs : List Ex) (g : Nat) (k : T) : T := .p (.p o) xs (some (g, true)) k
abbrev qf (o : POp) (xs : List Ex) (g : Nat) (k : T) : T := .p (.p o) xs (some (g, false)) k
def T7 : T :=
(.s (.callI 9) [.k (.int .i64 1)] none
(q (.call 14) [.k (.int .i64 1)]
(.p (.wr 0 2) [.k (.agg [.nils, (.int .i64 0)]), 3] none
(q (.isnil 1 false) [2]
(.ite (.v 5) (.ret [.k (.bool false)])
(q (.lenSl) [0]
(q (.bin .gtr) [6, .k (.int .i64 40)]
(qf (.mv) [1] 7
(qf (.lenSl) [8] 7
(qf (.bin .gtr) [9, .k (.int .i64 40)] 7
(q (.pick) [7, .k (.bool true), 10]
(.ite (.v 11) (q (.call 10) []
(.ret [12]))
(q (.fld 0 (some 2)) [4]
(.s (.callI 15) [2, 12, 0] none
(q (.ext 0) [13]
(q (.ext 1) [13]
(.p (.wr 0 2) [4, 14] none
(.s (.callI 27) [2] none
(q (.un .not) [15]
(qf (.mv) [17] 18
(qf (.isnil 1 false) [19] 18
(q (.pick) [18, .k (.bool true), 20]
(.ite (.v 21) (.ret [.k (.bool false)])
(q (.fld 0 (some 2)) [16]
(.s (.callI 15) [2, 22, 1] none
(q (.ext 0) [23]
(q (.ext 1) [23]
(.p (.wr 0 2) [.k (.agg [.nils, (.int .i64 0)]), 24] none
(q (.un .not) [25]
(qf (.mv) [17] 27
(qf (.fld 0 (some 2)) [16] 27
(.s (.callI 26) [28, 29] (some (27, false))
(qf (.un .not) [30] 27
(q (.pick) [27, .k (.bool true), 31]
(.ite (.v 32) (.ret [.k (.bool false)])
(q (.fld 0 (some 2)) [16]
(.s (.callI 15) [17, 33, 1] none
(q (.ext 0) [34]
(q (.ext 1) [34]
(.p (.wr 0 2) [.k (.agg [.nils, (.int .i64 0)]), 35] none
(qt (.mv) [17] 36
(qt (.fld 0 (some 2)) [37] 36
(.s (.callI 26) [38, 39] (some (36, true))
(q (.pick) [36, 40, .k (.bool false)]
(qt (.mv) [2] 41
(qt (.fld 0 (some 2)) [26] 41
(.s (.callI 26) [42, 43] (some (41, true))
(q (.pick) [41, 44, .k (.bool false)]
(qt (.call 10) [] 45
(q (.pick) [45, 46, .k (.bool false)]
(.ret [47])))))))))))))))))))))))))))))))))))))))))))))))))))
def H7 : List (Nat × Nat) := [(11, 13), (9, 11), (6, 8)]
def T9 : T :=
(.s (.mkmap) [] none
(q (.build [(.int .i64 0), (.str []), (.int .i64 0), (.int .i64 0)] [(2, 1), (3, 1)]) [.k (.int .i64 2), 0]
(.s (.mupd false [.i .i64]) [1, .k (.int .i64 1), 2] none
(.s (.mkmap) [] none
(.s (.mkmap) [] none
(.s (.mupd false [.i .i64]) [4, .k (.int .i64 1), 5] none
(q (.build [.nilm, .nilm, (.int .i64 0)] [(0, 1), (1, 1), (2, 1)]) [1, 4, .k (.int .i64 2)]
(.s (.box) [7] none
(.ret [8])))))))))
def H9 : List (Nat × Nat) := []
def T10 : T :=
(.s (.callI 9) [.k (.int .i64 5)] none
(q (.isnil 1 false) [0]
(.ite (.v 1) (.ret [.k (.bool false)])
(.s (.callI 11) [0, .k (.int .i64 1), .k (.str [101, 116, 99]), .k (.int .i64 2), .k (.int .i64 6)] none
(q (.ext 0) [2]
(q (.ext 1) [2]
(.s (.callI 11) [0, .k (.int .i64 2), .k (.str [112, 97, 115, 115, 119, 100]), .k (.int .i64 1), .k (.int .i64 7)] none
(q (.ext 0) [5]
(q (.ext 1) [5]
(.s (.callI 11) [0, .k (.int .i64 3), .k (.str [120]), .k (.int .i64 1), .k (.int .i64 1)] none
(q (.ext 0) [8]
(q (.ext 1) [8]
(.s (.callI 11) [0, .k (.int .i64 2), .k (.str [112, 97, 115, 115, 119, 100]), .k (.int .i64 1), .k (.int .i64 1)] none
(q (.ext 0) [11]
(q (.ext 1) [11]
(.s (.callI 11) [0, .k (.int .i64 1), .k (.str [97, 47, 98]), .k (.int .i64 1), .k (.int .i64 1)] none
(q (.ext 0) [14]
(q (.ext 1) [14]
(.s (.callI 25) [0, .k (.int .i64 3)] none
(q (.ext 0) [17]
(q (.ext 1) [17]
(.s (.callI 12) [0, .k (.int .i64 2)] none
(.s (.callI 23) [0] none
(.s (.callI 12) [0, .k (.int .i64 3)] none
(.s (.callI 11) [0, .k (.int .i64 1), .k (.str [120]), .k (.int .i64 4), .k (.int .i64 1)] none
(q (.ext 0) [23]
(q (.ext 1) [23]
(q (.bin .eql) [3, .k (.int .i64 2)]
(qt (.mv) [6] 26
(qt (.bin .eql) [27, .k (.int .i64 3)] 26
(q (.pick) [26, 28, .k (.bool false)]
(qt (.mv) [24] 29
(qt (.bin .eql) [30, .k (.int .i64 4)] 29
(q (.pick) [29, 31, .k (.bool false)]
(qt (.mv) [4] 32
(qt (.bin .eql) [33, .k (.int .i64 0)] 32
(q (.pick) [32, 34, .k (.bool false)]
(qt (.mv) [7] 35
(qt (.bin .eql) [36, .k (.int .i64 0)] 35
(q (.pick) [35, 37, .k (.bool false)]
(qt (.mv) [10] 38
(qt (.bin .eql) [39, .k (.int .i64 13)] 38
(q (.pick) [38, 40, .k (.bool false)]
(qt (.mv) [13] 41
(qt (.bin .eql) [42, .k (.int .i64 12)] 41
(q (.pick) [41, 43, .k (.bool false)]
(qt (.mv) [16] 44
(qt (.bin .eql) [45, .k (.int .i64 10)] 44
(q (.pick) [44, 46, .k (.bool false)]
(qt (.mv) [18] 47
(qt (.bin .eql) [48, .k (.str [47, 101, 116, 99, 47, 112, 97, 115, 115, 119, 100])] 47
(q (.pick) [47, 49, .k (.bool false)]
(qt (.mv) [19] 50
(q (.pick) [50, 51, .k (.bool false)]
(qt (.mv) [20] 52
(qt (.bin .eql) [53, .k (.int .i64 23)] 52
(q (.pick) [52, 54, .k (.bool false)]
(qt (.mv) [21] 55
(qt (.bslice false 1) [.k (.int .i64 1), .k (.int .i64 2), .k (.int .i64 3)] 55
(qt (.call 20) [56, 57] 55
(q (.pick) [55, 58, .k (.bool false)]
(qt (.mv) [22] 59
(qt (.bin .eql) [60, .k (.int .i64 0)] 59
(q (.pick) [59, 61, .k (.bool false)]
(qt (.mv) [25] 62
(qt (.bin .eql) [63, .k (.int .i64 0)] 62
(q (.pick) [62, 64, .k (.bool false)]
(.ret [65]))))))))))))))))))))))))))))))))))))))))))))))))))))))))))))))))))))
def H10 : List (Nat × Nat) := []
def T11 : T :=
(.s (.callI 30) [0] none
(q (.un .not) [5]
(.ite (.v 6) (.ret [.k (.int .i64 0), .k (.int .i64 1)])
(.s (.callI 31) [0, 1] none
(q (.ext 0) [7]
(q (.ext 1) [7]
(.p (.wr 0 4) [.k (.agg [(.int .i64 0), (.str []), (.int .i64 0), (.int .i64 0)]), 8] none
(q (.nilchk) [0]
(q (.off 1) [11]
(.s (.ld none) [12] none
(.s (.look false [.i .i64] .nilm false) [13, 1] none
(.s (.look false [.s] (.int .i64 0) true) [14, 2] none
(q (.ext 0) [15]
(q (.ext 1) [15]
(q (.un .not) [9]
(.ite (.v 18) (.ret [.k (.int .i64 0), .k (.int .i64 11)])
(q (.fld 2 none) [10]
(q (.bin .neq) [19, .k (.int .i64 2)]
(.ite (.v 20) (.ret [.k (.int .i64 0), .k (.int .i64 13)])
(q (.bin .lss) [3, .k (.int .i64 1)]
(qf (.mv) [3] 21
(qf (.bin .gtr) [22, .k (.int .i64 4)] 21
(q (.pick) [21, .k (.bool true), 23]
(.ite (.v 24) (.ret [.k (.int .i64 0), .k (.int .i64 2)])
(q (.call 32) [2]
(q (.un .not) [25]
(.ite (.v 26) (.ret [.k (.int .i64 0), .k (.int .i64 10)])
(.ite (.v 17) (.ret [.k (.int .i64 0), .k (.int .i64 12)])
(.s (.callI 33) [0, 1] none
(q (.lenStr) [27]
(q (.bin .add) [28, .k (.int .i64 1)]
(q (.lenStr) [2]
(q (.bin .add) [29, 30]
(q (.bin .gtr) [31, .k (.int .i64 256)]
(.ite (.v 32) (.ret [.k (.int .i64 0), .k (.int .i64 4)])
(q (.nilchk) [0]
(q (.off 0) [33]
(.s (.ld none) [34] none
(.s (.lenM) [35] none
(q (.bin .geq) [36, .k (.int .i64 256)]
(.ite (.v 37) (.ret [.k (.int .i64 0), .k (.int .i64 25)])
(q (.nilchk) [0]
(q (.off 2) [38]
(.s (.ld none) [39] none
(q (.nilchk) [0]
(q (.off 2) [41]
(.s (.ld none) [42] none
(q (.bin .add) [43, .k (.int .i64 1)]
(q (.nilchk) [0]
(q (.off 2) [45]
(.s (.st 1) [46, 44] none
(q (.nilchk) [0]
(q (.off 0) [48]
(.s (.ld none) [49] none
(q (.build [(.int .i64 0), (.str []), (.int .i64 0), (.int .i64 0)] [(0, 1), (1, 1), (2, 1), (3, 1)]) [1, 2, 3, 4]
(.s (.mupd false [.i .i64]) [50, 40, 51] none
(q (.nilchk) [0]
(q (.off 1) [53]
(.s (.ld none) [54] none
(.s (.look false [.i .i64] .nilm false) [55, 1] none
(.s (.mupd false [.s]) [56, 2, 40] none
(q (.bin .eql) [3, .k (.int .i64 2)]
(.ite (.v 58) (q (.nilchk) [0]
(q (.off 1) [59]
(.s (.ld none) [60] none
(.s (.mkmap) [] none
(.s (.mupd false [.i .i64]) [61, 40, 62] none
(.ret [40, .k (.int .i64 0)]))))))
(.ret [40, .k (.int .i64 0)]))))))))))))))))))))))))))))))))))))))))))))))))))))))))))))))))
def H11 : List (Nat × Nat) := [(41, 14), (12, 14)]
def T12 : T :=
(.s (.callI 30) [0] none
(q (.un .not) [2]
(.ite (.v 3) (.ret [.k (.int .i64 1)])
(.s (.callI 31) [0, 1] none
(q (.ext 0) [4]
(q (.ext 1) [4]
(.p (.wr 0 4) [.k (.agg [(.int .i64 0), (.str []), (.int .i64 0), (.int .i64 0)]), 5] none
(q (.un .not) [6]
(.ite (.v 8) (.ret [.k (.int .i64 11)])
(q (.bin .eql) [1, .k (.int .i64 1)]
(qf (.mv) [0] 9
(qf (.nilchk) [10] 9
(qf (.off 1) [11] 9
(.s (.ld none) [12] (some (9, false))
(qf (.mv) [1] 9
(.s (.look false [.i .i64] .nilm false) [13, 14] (some (9, false))
(.s (.lenM) [15] (some (9, false))
(qf (.bin .gtr) [16, .k (.int .i64 0)] 9
(q (.pick) [9, .k (.bool true), 17]
(.ite (.v 18) (.ret [.k (.int .i64 23)])
(q (.nilchk) [0]
(q (.off 1) [19]
(.s (.ld none) [20] none
(q (.fld 0 none) [7]
(.s (.look false [.i .i64] .nilm false) [21, 22] none
(q (.fld 1 none) [7]
(.s (.mdel false [.s]) [23, 24] none
(q (.nilchk) [0]
(q (.off 1) [26]
(.s (.ld none) [27] none
(.s (.mdel false [.i .i64]) [28, 1] none
(q (.nilchk) [0]
(q (.off 0) [30]
(.s (.ld none) [31] none
(.s (.mdel false [.i .i64]) [32, 1] none
(.ret [.k (.int .i64 0)]))))))))))))))))))))))))))))))))))))
def H12 : List (Nat × Nat) := [(39, 7), (36, 7), (5, 7)]
def T13 : T :=
(.s (.callI 30) [0] none
(q (.un .not) [1]
(.ite (.v 2) (.ret [.k (.int .i64 0)])
(q (.nilchk) [0]
(q (.off 0) [3]
(.s (.ld none) [4] none
(.s (.lenM) [5] none
(.ret [6]))))))))
def H13 : List (Nat × Nat) := []
def T14 : T :=
(q (.build [(.int .i64 0), (.int .i64 0), (.str []), (.int .i64 0), (.int .i64 0)] [(0, 1), (3, 1), (4, 1)]) [.k (.int .i64 1), .k (.int .i64 2), 0]
(q (.bslice false 5) [1]
(q (.build [.nils, (.int .i64 0)] [(0, 1), (1, 1)]) [2, .k (.int .i64 1)]
(.p (.wr 0 2) [.k (.agg [.nils, (.int .i64 0)]), 3] none
(q (.fld 0 (some 2)) [4]
(.ret [5]))))))
def H14 : List (Nat × Nat) := [(2, 4)]
def T15 : T :=
(.p .box [1] none
(.loop 0 [.k (.int .i64 0), .k (.bool false), .k (.agg [.nils, (.int .i64 0)]), 3] (q (.lenSl) [2]
(q (.bin .lss) [4, 8]
(.ite (.v 9) (q (.idxS 6) [2, 4]
(q (.ldE (some 6)) [10]
(.p (.wr 0 6) [.k (.agg [(.int .i64 0), (.int .i64 0), (.int .i64 0), (.int .i64 0), (.int .i64 0), (.str [])]), 11] none
(q (.fld 0 none) [12]
(q (.bin .eql) [13, .k (.int .i64 0)]
(.ite (.v 14) (q (.fld 0 (some 2)) [7]
(q (.fld 2 none) [12]
(q (.fld 5 none) [12]
(q (.fld 3 none) [12]
(q (.fld 4 none) [12]
(q (.call 34) [15, 16, 17, 18, 19]
(q (.ext 0) [20]
(q (.ext 1) [20]
(q (.ext 2) [20]
(.p (.wr 0 2) [.k (.agg [.nils, (.int .i64 0)]), 21] none
(q (.fld 2 none) [12]
(q (.fld 5 none) [12]
(q (.fld 3 none) [12]
(q (.fld 4 none) [12]
(.s (.callI 11) [0, 25, 26, 27, 28] none
(q (.ext 0) [29]
(q (.ext 1) [29]
(q (.bin .neq) [30, 22]
(qf (.mv) [31] 32
(qf (.mv) [23] 32
(qf (.bin .neq) [33, 34] 32
(q (.pick) [32, .k (.bool true), 35]
(.ite (.v 36) (q (.fld 0 (some 2)) [7]
(.p (.wr 0 2) [6, 37] none
(q (.fld 0 (some 2)) [38]
(.ret [39, .k (.bool false)]))))
(q (.fld 0 (some 2)) [24]
(.p (.wr 0 2) [7, 37] none
(q (.bin .add) [4, .k (.int .i64 1)]
(.next 0 [39, 5, 6, 38])))))))))))))))))))))))))))
(q (.bin .eql) [13, .k (.int .i64 1)]
(.ite (.v 15) (q (.fld 0 (some 2)) [7]
(q (.fld 1 none) [12]
(q (.call 35) [16, 17]
(q (.ext 0) [18]
(q (.ext 1) [18]
(.p (.wr 0 2) [.k (.agg [.nils, (.int .i64 0)]), 19] none
(q (.fld 1 none) [12]
(.s (.callI 12) [0, 22] none
(q (.bin .neq) [23, 20]
(.ite (.v 24) (q (.fld 0 (some 2)) [7]
(.p (.wr 0 2) [6, 25] none
(q (.fld 0 (some 2)) [26]
(.ret [27, .k (.bool false)]))))
(q (.fld 0 (some 2)) [21]
(.p (.wr 0 2) [7, 25] none
(q (.bin .add) [4, .k (.int .i64 1)]
(.next 0 [27, 5, 6, 26]))))))))))))))
(q (.fld 0 (some 2)) [7]
(q (.fld 1 none) [12]
(q (.fld 4 none) [12]
(q (.call 36) [16, 17, 18]
(q (.ext 0) [19]
(q (.ext 1) [19]
(.p (.wr 0 2) [.k (.agg [.nils, (.int .i64 0)]), 20] none
(q (.fld 1 none) [12]
(q (.fld 4 none) [12]
(.s (.callI 29) [0, 23, 24] none
(q (.bin .neq) [25, 21]
(.ite (.v 26) (q (.fld 0 (some 2)) [7]
(.p (.wr 0 2) [6, 27] none
(q (.fld 0 (some 2)) [28]
(.ret [29, .k (.bool false)]))))
(q (.fld 0 (some 2)) [22]
(.p (.wr 0 2) [7, 27] none
(q (.bin .add) [4, .k (.int .i64 1)]
(.next 0 [29, 5, 6, 28]))))))))))))))))))))))))
(q (.fld 0 (some 2)) [7]
(.p (.wr 0 2) [6, 10] none
(q (.fld 0 (some 2)) [11]
(.ret [12, .k (.bool true)])))))))))
def H15 : List (Nat × Nat) := [(43, 11), (41, 11), (17, 19), (35, 11), (33, 11), (99, 11), (15, 17), (93, 11), (74, 11), (72, 11), (70, 11), (68, 11), (10, 12), (60, 11), (58, 11), (56, 11), (54, 11), (29, 11), (9, 11), (27, 1), (6, 8), (4, 6)]
def T16 : T :=
(.s (.callI 30) [0] none
(q (.un .not) [2]
(qf (.mv) [1] 3
(qf (.bin .eql) [4, .k (.str [])] 3
(q (.pick) [3, .k (.bool true), 5]
(qf (.mv) [1] 6
(qf (.idxStr) [7, .k (.int .i64 0)] 6
(qf (.bin .neq) [8, .k (.int .u8 47)] 6
(q (.pick) [6, .k (.bool true), 9]
(.ite (.v 10) (.ret [.k (.int .i64 0), .k (.bool false)])
(q (.bin .eql) [1, .k (.str [47])]
(.ite (.v 11) (.ret [.k (.int .i64 1), .k (.bool true)])
(q (.slcS true false) [1, .k (.int .i64 1)]
(q (.call 37) [12, .k (.str [47])]
(q (.lenSl) [13]
(.loop 0 [.k (.int .i64 0), .k (.int .i64 1), .k (.bool false), .k (.int .i64 0)] (q (.bin .lss) [15, 14]
(.ite (.v 19) (q (.idxS 1) [13, 15]
(q (.ldE none) [20]
(q (.nilchk) [0]
(q (.off 1) [22]
(.s (.ld none) [23] none
(.s (.look false [.i .i64] .nilm false) [24, 16] none
(.s (.look false [.s] (.int .i64 0) true) [25, 21] none
(q (.ext 0) [26]
(q (.ext 1) [26]
(q (.un .not) [28]
(.ite (.v 29) (.ret [.k (.int .i64 0), .k (.bool false)])
(q (.bin .add) [15, .k (.int .i64 1)]
(.next 0 [30, 27, 17, 18])))))))))))))
(.ret [16, .k (.bool true)])))))))))))))))))))
def H16 : List (Nat × Nat) := [(31, 1)]
def T18 : T :=
(.s (.callI 31) [0, 1] none
(q (.ext 0) [2]
(q (.ext 1) [2]
(.p (.wr 0 4) [.k (.agg [(.int .i64 0), (.str []), (.int .i64 0), (.int .i64 0)]), 3] none
(q (.fld 2 none) [5]
(.ret [6, 4]))))))
def H18 : List (Nat × Nat) := [(14, 8), (6, 8)]
def T19 : T :=
(.p .box [0] none
(q (.fld 0 (some 2)) [2]
(q (.call 39) [3, 1]
(q (.bin .lss) [4, .k (.int .i64 0)]
(.ite (.v 5) (.ret [.k (.int .i64 0), .k (.bool false)])
(q (.fld 0 none) [2]
(q (.idxS 5) [6, 4]
(q (.off 3) [7]
(q (.ldE none) [8]
(.ret [9, .k (.bool true)]))))))))))
def H19 : List (Nat × Nat) := [(16, 1), (15, 1), (12, 4), (2, 4)]
def T20 : T :=
(q (.lenSl) [0]
(q (.lenSl) [1]
(q (.bin .neq) [2, 3]
(.ite (.v 4) (.ret [.k (.bool false)])
(.loop 0 [.k (.int .i64 0), .k (.bool false)] (q (.lenSl) [0]
(q (.bin .lss) [5, 7]
(.ite (.v 8) (q (.idxS 1) [0, 5]
(q (.ldE none) [9]
(q (.idxS 1) [1, 5]
(q (.ldE none) [11]
(q (.bin .neq) [10, 12]
(.ite (.v 13) (.ret [.k (.bool false)])
(q (.bin .add) [5, .k (.int .i64 1)]
(.next 0 [14, 6]))))))))
(.ret [.k (.bool true)])))))))))
def H20 : List (Nat × Nat) := [(23, 1), (19, 1)]
def T21 : T :=
(.s (.callI 30) [0] none
(q (.un .not) [2]
(.ite (.v 3) (.ret [.k .nils])
(q (.nilchk) [0]
(q (.off 1) [4]
(.s (.ld none) [5] none
(.s (.look false [.i .i64] .nilm false) [6, 1] none
(.s (.rngM) [7] none
(.loop 0 [.k .nils] (.s (.nextM) [8] none
(q (.ext 0) [10]
(.ite (.v 11) (.s (.entM) [8] none
(q (.ext 0) [12]
(q (.bslice false 1) [13]
(.s (.appX 1) [9, 14] none
(.next 0 [15])))))
(.s (.callI 40) [9] none
(q (.lenSl) [9]
(.loop 1 [.k (.int .i64 0), .k .nils] (q (.bin .lss) [14, 13]
(.ite (.v 16) (q (.idxS 1) [9, 14]
(.s (.ld none) [17] none
(q (.nilchk) [0]
(q (.off 1) [19]
(.s (.ld none) [20] none
(.s (.look false [.i .i64] .nilm false) [21, 1] none
(.s (.look false [.s] (.int .i64 0) false) [22, 18] none
(q (.bslice false 1) [23]
(.s (.app false 1) [15, 24] none
(q (.bin .add) [14, .k (.int .i64 1)]
(.next 1 [26, 25])))))))))))
(.ret [15]))))))))))))))))))
def H21 : List (Nat × Nat) := [(27, 999997)]
def T22 : T :=
(.p .box [0] none
(.loop 0 [.k (.int .i64 0), .k .nils, .k .nils] (q (.fld 0 none) [2]
(q (.lenSl) [6]
(q (.bin .lss) [3, 7]
(.ite (.v 8) (q (.fld 0 none) [2]
(q (.idxS 5) [9, 3]
(.s (.ld (some 5)) [10] none
(.p (.wr 0 5) [.k (.agg [(.int .i64 0), (.int .i64 0), (.str []), (.int .i64 0), (.int .i64 0)]), 11] none
(q (.fld 1 none) [12]
(q (.bin .neq) [13, 1]
(qf (.fld 0 none) [12] 14
(qf (.bin .eql) [15, .k (.int .i64 1)] 14
(q (.pick) [14, .k (.bool true), 16]
(.ite (.v 17) (q (.bin .add) [3, .k (.int .i64 1)]
(.next 0 [18, 4, 5]))
(q (.fld 0 none) [12]
(q (.bslice false 1) [18]
(.s (.appX 1) [5, 19] none
(q (.fld 2 none) [12]
(q (.bslice false 1) [21]
(.s (.appX 1) [4, 22] none
(q (.lenSl) [20]
(q (.bin .sub) [24, .k (.int .i64 1)]
(.loop 1 [25] (q (.bin .gtr) [26, .k (.int .i64 0)]
(qt (.mv) [23] 27
(qt (.mv) [26] 27
(qt (.idxS 1) [28, 29] 27
(.s (.ld none) [30] (some (27, true))
(qt (.mv) [23] 27
(qt (.mv) [26] 27
(qt (.bin .sub) [33, .k (.int .i64 1)] 27
(qt (.idxS 1) [32, 34] 27
(.s (.ld none) [35] (some (27, true))
(qt (.bin .lss) [31, 36] 27
(q (.pick) [27, 37, .k (.bool false)]
(.ite (.v 38) (q (.bin .sub) [26, .k (.int .i64 1)]
(q (.bin .sub) [26, .k (.int .i64 1)]
(q (.bin .sub) [26, .k (.int .i64 1)]
(q (.idxS 1) [20, 41]
(.s (.ld none) [42] none
(q (.idxS 1) [20, 26]
(.s (.ld none) [44] none
(q (.bin .sub) [26, .k (.int .i64 1)]
(q (.idxS 1) [23, 46]
(.s (.ld none) [47] none
(q (.idxS 1) [23, 26]
(.s (.ld none) [49] none
(q (.idxS 1) [20, 26]
(.s (.st 1) [51, 43] none
(q (.idxS 1) [20, 39]
(.s (.st 1) [53, 45] none
(q (.idxS 1) [23, 26]
(.s (.st 1) [55, 48] none
(q (.idxS 1) [23, 40]
(.s (.st 1) [57, 50] none
(q (.bin .sub) [26, .k (.int .i64 1)]
(.next 1 [59]))))))))))))))))))))))
(q (.bin .add) [3, .k (.int .i64 1)]
(.next 0 [39, 23, 20]))))))))))))))))))))))))))))))))))
(.ret [5])))))))
def H22 : List (Nat × Nat) := [(35, 999997), (40, 999997), (37, 10), (32, 10), (27, 10), (22, 10), (8, 10), (17, 4), (11, 4), (2, 4)]
def T24 : T :=
(.s (.callI 31) [0, 1] none
(q (.ext 0) [2]
(q (.ext 1) [2]
(.p (.wr 0 4) [.k (.agg [(.int .i64 0), (.str []), (.int .i64 0), (.int .i64 0)]), 3] none
(q (.fld 0 none) [5]
(.ret [6, 4]))))))
def H24 : List (Nat × Nat) := [(14, 8), (6, 8)]
def T25 : T :=
(.s (.callI 31) [0, 1] none
(q (.ext 0) [2]
(q (.ext 1) [2]
(.p (.wr 0 4) [.k (.agg [(.int .i64 0), (.str []), (.int .i64 0), (.int .i64 0)]), 3] none
(q (.un .not) [4]
(.ite (.v 6) (.ret [.k (.str []), .k (.bool false)])
(q (.bin .eql) [1, .k (.int .i64 1)]
(.ite (.v 7) (.ret [.k (.str [47]), .k (.bool true)])
(.s (.callI 33) [0, 1] none
(.ret [8, .k (.bool true)]))))))))))
def H25 : List (Nat × Nat) := [(6, 8)]
def T26 : T :=
(.p .box [1] none
(q (.fld 0 (some 2)) [2]
(q (.call 42) [3]
(q (.isnil 1 false) [0]
(qf (.mv) [0] 5
(.s (.callI 13) [6] (some (5, false))
(qf (.fld 0 none) [2] 5
(qf (.lenSl) [8] 5
(qf (.bin .neq) [7, 9] 5
(q (.pick) [5, .k (.bool true), 10]
(qf (.mv) [0] 11
(.s (.callI 23) [12] (some (11, false))
(qf (.mv) [4] 11
(qf (.call 20) [13, 14] 11
(qf (.un .not) [15] 11
(q (.pick) [11, .k (.bool true), 16]
(.ite (.v 17) (.ret [.k (.bool false)])
(q (.fld 1 none) [2]
(q (.bin .add) [18, .k (.int .i64 1)]
(q (.bslice false 1) [.k (.int .i64 (-1)), .k (.int .i64 0), 19]
(.s (.app false 1) [20, 4] none
(.loop 0 [.k (.int .i64 0), .k (.bool false)] (q (.lenSl) [21]
(q (.bin .lss) [22, 24]
(.ite (.v 25) (q (.idxS 1) [21, 22]
(q (.ldE none) [26]
(.s (.callI 25) [0, 27] none
(q (.ext 0) [28]
(q (.ext 1) [28]
(q (.fld 0 (some 2)) [2]
(q (.call 38) [31, 27]
(q (.ext 0) [32]
(q (.ext 1) [32]
(.s (.callI 18) [0, 27] none
(q (.ext 0) [35]
(q (.ext 1) [35]
(q (.fld 0 (some 2)) [2]
(q (.call 19) [38, 27]
(q (.ext 0) [39]
(q (.ext 1) [39]
(.s (.callI 28) [0, 27] none
(q (.ext 0) [42]
(q (.ext 1) [42]
(q (.fld 0 (some 2)) [2]
(q (.call 43) [45, 27]
(q (.ext 0) [46]
(q (.ext 1) [46]
(.s (.callI 24) [0, 27] none
(q (.ext 0) [49]
(q (.ext 1) [49]
(q (.fld 0 (some 2)) [2]
(q (.call 44) [52, 27]
(q (.ext 0) [53]
(q (.ext 1) [53]
(q (.bin .neq) [29, 33]
(qf (.mv) [30] 56
(qf (.mv) [34] 56
(qf (.eqb true) [57, 58] 56
(q (.pick) [56, .k (.bool true), 59]
(qf (.mv) [36] 60
(qf (.mv) [40] 60
(qf (.bin .neq) [61, 62] 60
(q (.pick) [60, .k (.bool true), 63]
(qf (.mv) [37] 64
(qf (.mv) [41] 64
(qf (.eqb true) [65, 66] 64
(q (.pick) [64, .k (.bool true), 67]
(qf (.mv) [43] 68
(qf (.mv) [47] 68
(qf (.bin .neq) [69, 70] 68
(q (.pick) [68, .k (.bool true), 71]
(qf (.mv) [44] 72
(qf (.mv) [48] 72
(qf (.eqb true) [73, 74] 72
(q (.pick) [72, .k (.bool true), 75]
(qf (.mv) [50] 76
(qf (.mv) [54] 76
(qf (.bin .neq) [77, 78] 76
(q (.pick) [76, .k (.bool true), 79]
(qf (.mv) [51] 80
(qf (.mv) [55] 80
(qf (.eqb true) [81, 82] 80
(q (.pick) [80, .k (.bool true), 83]
(qf (.mv) [0] 84
(qf (.mv) [27] 84
(.s (.callI 21) [85, 86] (some (84, false))
(qf (.fld 0 (some 2)) [2] 84
(qf (.mv) [27] 84
(qf (.call 22) [88, 89] 84
(qf (.call 20) [87, 90] 84
(qf (.un .not) [91] 84
(q (.pick) [84, .k (.bool true), 92]
(.ite (.v 93) (.ret [.k (.bool false)])
(.s (.callI 16) [0, 33] none
(q (.ext 0) [94]
(q (.ext 1) [94]
(qt (.mv) [95] 34
(qt (.mv) [27] 34
(qt (.bin .neq) [97, 98] 34
(qt (.mv) [99] 34
(qf (.mv) [96] 100
(qf (.un .not) [101] 100
(qt (.pick) [100, .k (.bool true), 102] 34
(q (.pick) [34, 103, .k (.bool false)]
(.ite (.v 104) (.ret [.k (.bool false)])
(q (.bin .add) [22, .k (.int .i64 1)]
(.next 0 [105, 23])))))))))))))))))))))))))))))))))))))))))))))))))))))))))))))))))))))))))))))))))))
(.ret [.k (.bool true)]))))))))))))))))))))))))))
def H26 : List (Nat × Nat) := [(59, 1), (45, 5), (33, 5), (3, 5)]
def T28 : T :=
(.s (.callI 31) [0, 1] none
(q (.ext 0) [2]
(q (.ext 1) [2]
(.p (.wr 0 4) [.k (.agg [(.int .i64 0), (.str []), (.int .i64 0), (.int .i64 0)]), 3] none
(q (.fld 3 none) [5]
(.ret [6, 4]))))))
def H28 : List (Nat × Nat) := [(14, 8), (6, 8)]
def T29 : T :=
(.s (.callI 30) [0] none
(q (.un .not) [3]
(.ite (.v 4) (.ret [.k (.int .i64 1)])
(.s (.callI 31) [0, 1] none
(q (.ext 0) [5]
(q (.ext 1) [5]
(.p (.wr 0 4) [.k (.agg [(.int .i64 0), (.str []), (.int .i64 0), (.int .i64 0)]), 6] none
(q (.un .not) [7]
(.ite (.v 9) (.ret [.k (.int .i64 11)])
(.p (.wr 3 1) [8, 2] none
(q (.nilchk) [0]
(q (.off 0) [11]
(.s (.ld none) [12] none
(q (.fld 0 (some 4)) [10]
(.s (.mupd false [.i .i64]) [13, 1, 14] none
(.ret [.k (.int .i64 0)]))))))))))))))))
def H29 : List (Nat × Nat) := [(21, 9), (7, 9)]
def T30 : T :=
(q (.isnil 1 true) [0]
(qt (.mv) [0] 1
(qt (.nilchk) [2] 1
(qt (.off 0) [3] 1
(.s (.ld none) [4] (some (1, true))
(qt (.isnil 2 true) [5] 1
(q (.pick) [1, 6, .k (.bool false)]
(.ret [7]))))))))
def H30 : List (Nat × Nat) := []
def T31 : T :=
(.s (.callI 30) [0] none
(q (.un .not) [2]
(.ite (.v 3) (q (.build [(.int .i64 0), (.str []), (.int .i64 0), (.int .i64 0)] []) []
(.p (.wr 0 4) [.k (.agg [(.int .i64 0), (.str []), (.int .i64 0), (.int .i64 0)]), 4] none
(q (.fld 0 (some 4)) [5]
(.ret [6, .k (.bool false)]))))
(q (.nilchk) [0]
(q (.off 0) [4]
(.s (.ld none) [5] none
(.s (.look false [.i .i64] (.agg [(.int .i64 0), (.str []), (.int .i64 0), (.int .i64 0)]) true) [6, 1] none
(q (.ext 0) [7]
(q (.ext 1) [7]
(.p (.wr 0 4) [.k (.agg [(.int .i64 0), (.str []), (.int .i64 0), (.int .i64 0)]), 8] none
(q (.fld 0 (some 4)) [10]
(.p (.wr 0 4) [.k (.agg [(.int .i64 0), (.str []), (.int .i64 0), (.int .i64 0)]), 11] none
(q (.fld 0 (some 4)) [12]
(.ret [13, 9]))))))))))))))
def H31 : List (Nat × Nat) := [(6, 8), (4, 6)]
def T32 : T :=
(q (.bin .neq) [0, .k (.str [])]
(qt (.mv) [0] 1
(qt (.lenStr) [2] 1
(qt (.bin .leq) [3, .k (.int .i64 32)] 1
(q (.pick) [1, 4, .k (.bool false)]
(qt (.mv) [0] 5
(qt (.call 47) [6, .k (.int .u8 47)] 5
(qt (.bin .lss) [7, .k (.int .i64 0)] 5
(q (.pick) [5, 8, .k (.bool false)]
(qt (.mv) [0] 9
(qt (.bin .add) [.k (.str [47]), 10] 9
(qt (.call 48) [11] 9
(qt (.bin .eql) [12, .k (.int .i64 0)] 9
(q (.pick) [9, 13, .k (.bool false)]
(.ret [14])))))))))))))))
def H32 : List (Nat × Nat) := []
def T33 : T :=
(.loop 0 [.k (.str []), 1] (q (.bin .neq) [3, .k (.int .i64 1)]
(.ite (.v 4) (q (.nilchk) [0]
(q (.off 0) [5]
(.s (.ld none) [6] none
(.s (.look false [.i .i64] (.agg [(.int .i64 0), (.str []), (.int .i64 0), (.int .i64 0)]) false) [7, 3] none
(.p (.wr 0 4) [.k (.agg [(.int .i64 0), (.str []), (.int .i64 0), (.int .i64 0)]), 8] none
(q (.fld 1 none) [9]
(q (.bin .add) [.k (.str [47]), 10]
(q (.bin .add) [11, 2]
(q (.fld 0 none) [9]
(.next 0 [12, 13]))))))))))
(.ret [2]))))
def H33 : List (Nat × Nat) := [(20, 8), (15, 8), (6, 8)]
def T34 : T :=
(.p .box [0] none
(q (.fld 0 (some 2)) [5]
(q (.call 39) [6, 1]
(q (.bin .lss) [7, .k (.int .i64 0)]
(.ite (.v 8) (q (.fld 0 (some 2)) [5]
(.p (.wr 0 2) [.k (.agg [.nils, (.int .i64 0)]), 9] none
(q (.fld 0 (some 2)) [10]
(.ret [11, .k (.int .i64 0), .k (.int .i64 11)]))))
(q (.fld 0 none) [5]
(q (.idxS 5) [9, 7]
(q (.off 3) [10]
(q (.ldE none) [11]
(q (.bin .neq) [12, .k (.int .i64 2)]
(.ite (.v 13) (q (.fld 0 (some 2)) [5]
(.p (.wr 0 2) [.k (.agg [.nils, (.int .i64 0)]), 14] none
(q (.fld 0 (some 2)) [15]
(.ret [16, .k (.int .i64 0), .k (.int .i64 13)]))))
(q (.bin .lss) [3, .k (.int .i64 1)]
(qf (.mv) [3] 14
(qf (.bin .gtr) [15, .k (.int .i64 4)] 14
(q (.pick) [14, .k (.bool true), 16]
(.ite (.v 17) (q (.fld 0 (some 2)) [5]
(.p (.wr 0 2) [.k (.agg [.nils, (.int .i64 0)]), 18] none
(q (.fld 0 (some 2)) [19]
(.ret [20, .k (.int .i64 0), .k (.int .i64 2)]))))
(q (.call 49) [2]
(q (.un .not) [18]
(.ite (.v 19) (q (.fld 0 (some 2)) [5]
(.p (.wr 0 2) [.k (.agg [.nils, (.int .i64 0)]), 20] none
(q (.fld 0 (some 2)) [21]
(.ret [22, .k (.int .i64 0), .k (.int .i64 10)]))))
(q (.fld 0 (some 2)) [5]
(q (.call 50) [20, 1, 2]
(q (.bin .neq) [21, .k (.int .i64 0)]
(.ite (.v 22) (q (.fld 0 (some 2)) [5]
(.p (.wr 0 2) [.k (.agg [.nils, (.int .i64 0)]), 23] none
(q (.fld 0 (some 2)) [24]
(.ret [25, .k (.int .i64 0), .k (.int .i64 12)]))))
(q (.fld 0 (some 2)) [5]
(q (.call 38) [23, 1]
(q (.ext 0) [24]
(q (.ext 1) [24]
(q (.lenStr) [25]
(q (.lenStr) [2]
(q (.bin .add) [27, 28]
(q (.bin .gtr) [29, .k (.int .i64 256)]
(qf (.mv) [25] 30
(qf (.bin .neq) [31, .k (.str [47])] 30
(qf (.mv) [32] 30
(qt (.mv) [25] 33
(qt (.lenStr) [34] 33
(qt (.bin .add) [35, .k (.int .i64 1)] 33
(qt (.mv) [2] 33
(qt (.lenStr) [37] 33
(qt (.bin .add) [36, 38] 33
(qt (.bin .gtr) [39, .k (.int .i64 256)] 33
(qf (.pick) [33, 40, .k (.bool false)] 30
(q (.pick) [30, .k (.bool true), 41]
(.ite (.v 42) (q (.fld 0 (some 2)) [5]
(.p (.wr 0 2) [.k (.agg [.nils, (.int .i64 0)]), 43] none
(q (.fld 0 (some 2)) [44]
(.ret [45, .k (.int .i64 0), .k (.int .i64 4)]))))
(q (.fld 0 none) [5]
(q (.lenSl) [43]
(q (.bin .geq) [44, .k (.int .i64 256)]
(.ite (.v 45) (q (.fld 0 (some 2)) [5]
(.p (.wr 0 2) [.k (.agg [.nils, (.int .i64 0)]), 46] none
(q (.fld 0 (some 2)) [47]
(.ret [48, .k (.int .i64 0), .k (.int .i64 25)]))))
(q (.fld 1 none) [5]
(q (.bin .add) [46, .k (.int .i64 1)]
(q (.build [.nils, (.int .i64 0)] [(1, 1)]) [47]
(.p (.wr 0 2) [.k (.agg [.nils, (.int .i64 0)]), 48] none
(q (.bslice false 5) []
(q (.fld 0 none) [5]
(.s (.app false 5) [50, 51] none
(q (.fld 1 none) [49]
(q (.build [(.int .i64 0), (.int .i64 0), (.str []), (.int .i64 0), (.int .i64 0)] [(0, 1), (1, 1), (2, 1), (3, 1), (4, 1)]) [53, 1, 2, 3, 4]
(q (.bslice false 5) [54]
(.s (.app false 5) [52, 55] none
(.p (.wr 0 1) [49, 56] none
(q (.fld 0 (some 2)) [57]
(q (.fld 1 none) [57]
(.p (.wr 0 2) [.k (.agg [.nils, (.int .i64 0)]), 58] none
(q (.fld 0 (some 2)) [60]
(.ret [61, 59, .k (.int .i64 0)])))))))))))))))))))))))))))))))))))))))))))))))))))))))))))))))))
def H34 : List (Nat × Nat) := [(98, 18), (96, 18), (87, 18), (84, 7), (16, 18), (79, 7), (74, 7), (27, 1), (26, 1), (23, 7), (10, 12), (5, 7)]
def T35 : T :=
(.p .box [0] none
(q (.fld 0 (some 2)) [2]
(q (.call 39) [3, 1]
(q (.bin .lss) [4, .k (.int .i64 0)]
(.ite (.v 5) (q (.fld 0 (some 2)) [2]
(.p (.wr 0 2) [.k (.agg [.nils, (.int .i64 0)]), 6] none
(q (.fld 0 (some 2)) [7]
(.ret [8, .k (.int .i64 11)]))))
(q (.bin .eql) [1, .k (.int .i64 1)]
(qf (.fld 0 (some 2)) [2] 6
(qf (.mv) [1] 6
(qf (.call 22) [7, 8] 6
(qf (.lenSl) [9] 6
(qf (.bin .gtr) [10, .k (.int .i64 0)] 6
(q (.pick) [6, .k (.bool true), 11]
(.ite (.v 12) (q (.fld 0 (some 2)) [2]
(.p (.wr 0 2) [.k (.agg [.nils, (.int .i64 0)]), 13] none
(q (.fld 0 (some 2)) [14]
(.ret [15, .k (.int .i64 23)]))))
(q (.fld 1 none) [2]
(q (.build [.nils, (.int .i64 0)] [(1, 1)]) [13]
(.p (.wr 0 2) [.k (.agg [.nils, (.int .i64 0)]), 14] none
(q (.bslice false 5) []
(q (.fld 0 none) [2]
(q (.slcV 5 false true false) [17, 4]
(.s (.app false 5) [16, 18] none
(q (.fld 0 none) [2]
(q (.bin .add) [4, .k (.int .i64 1)]
(q (.slcV 5 true false false) [20, 21]
(.s (.app false 5) [19, 22] none
(.p (.wr 0 1) [15, 23] none
(q (.fld 0 (some 2)) [24]
(.p (.wr 0 2) [.k (.agg [.nils, (.int .i64 0)]), 25] none
(q (.fld 0 (some 2)) [26]
(.ret [27, .k (.int .i64 0)])))))))))))))))))))))))))))))
def H35 : List (Nat × Nat) := [(39, 9), (33, 4), (28, 4), (7, 9), (24, 4), (4, 6), (2, 4)]
def T36 : T :=
(.p .box [0] none
(q (.fld 0 (some 2)) [3]
(q (.call 39) [4, 1]
(q (.bin .lss) [5, .k (.int .i64 0)]
(.ite (.v 6) (q (.fld 0 (some 2)) [3]
(.p (.wr 0 2) [.k (.agg [.nils, (.int .i64 0)]), 7] none
(q (.fld 0 (some 2)) [8]
(.ret [9, .k (.int .i64 11)]))))
(q (.fld 1 none) [3]
(q (.bslice false 5) []
(q (.fld 0 none) [3]
(.s (.appM 5) [8, 9] none
(q (.build [.nils, (.int .i64 0)] [(1, 1), (0, 1)]) [7, 10]
(.p (.wr 0 2) [.k (.agg [.nils, (.int .i64 0)]), 11] none
(q (.fld 0 none) [12]
(q (.idxS 5) [13, 5]
(q (.off 4) [14]
(.s (.st 1) [15, 2] none
(q (.fld 0 (some 2)) [12]
(.p (.wr 0 2) [.k (.agg [.nils, (.int .i64 0)]), 17] none
(q (.fld 0 (some 2)) [18]
(.ret [19, .k (.int .i64 0)])))))))))))))))))))
def H36 : List (Nat × Nat) := [(21, 999999), (23, 11), (9, 11), (19, 5), (16, 5), (6, 8), (3, 5)]
def T37 : T :=
(q (.call 51) [0, 1, .k (.int .i64 0), .k (.int .i64 (-1))]
(.ret [2]))
def H37 : List (Nat × Nat) := []
def T38 : T :=
(.p .box [0] none
(q (.fld 0 (some 2)) [2]
(q (.call 39) [3, 1]
(q (.bin .lss) [4, .k (.int .i64 0)]
(.ite (.v 5) (.ret [.k (.str []), .k (.bool false)])
(q (.bin .eql) [1, .k (.int .i64 1)]
(.ite (.v 6) (.ret [.k (.str [47]), .k (.bool true)])
(q (.fld 0 (some 2)) [2]
(q (.fld 0 none) [2]
(q (.idxS 5) [8, 4]
(q (.off 1) [9]
(q (.ldE none) [10]
(q (.call 38) [7, 11]
(q (.ext 0) [12]
(q (.ext 1) [12]
(q (.bin .eql) [13, .k (.str [47])]
(.join 0 1 (.ite (.v 15) (.next 0 [.k (.str [])])
(.next 0 [13]))
(q (.bin .add) [16, .k (.str [47])]
(q (.fld 0 none) [2]
(q (.idxS 5) [18, 4]
(q (.off 2) [19]
(q (.ldE none) [20]
(q (.bin .add) [17, 21]
(.ret [22, .k (.bool true)]))))))))))))))))))))))))
def H38 : List (Nat × Nat) := [(35, 1), (34, 1), (31, 4), (22, 1), (21, 1), (18, 4), (2, 4)]
def T39 : T :=
(.p .box [0] none
(.loop 0 [.k (.int .i64 0), .k (.int .i64 0)] (q (.fld 0 none) [2]
(q (.lenSl) [5]
(q (.bin .lss) [3, 6]
(.ite (.v 7) (q (.fld 0 none) [2]
(q (.idxS 5) [8, 3]
(q (.off 0) [9]
(q (.ldE none) [10]
(q (.bin .eql) [11, 1]
(.ite (.v 12) (.ret [3])
(q (.bin .add) [3, .k (.int .i64 1)]
(.next 0 [13, 4]))))))))
(.ret [.k (.int .i64 (-1))])))))))
def H39 : List (Nat × Nat) := [(17, 1), (16, 1), (13, 4), (7, 4), (2, 4)]
def T42 : T :=
(.p .box [0] none
(q (.fld 0 (some 2)) [1]
(q (.call 56) [2, .k (.int .i64 1)]
(.ret [3]))))
def H42 : List (Nat × Nat) := [(1, 3)]
def T43 : T :=
(.p .box [0] none
(q (.fld 0 (some 2)) [2]
(q (.call 39) [3, 1]
(q (.bin .lss) [4, .k (.int .i64 0)]
(.ite (.v 5) (.ret [.k (.int .i64 0), .k (.bool false)])
(q (.fld 0 none) [2]
(q (.idxS 5) [6, 4]
(q (.off 4) [7]
(q (.ldE none) [8]
(.ret [9, .k (.bool true)]))))))))))
def H43 : List (Nat × Nat) := [(16, 1), (15, 1), (12, 4), (2, 4)]
def T44 : T :=
(.p .box [0] none
(q (.fld 0 (some 2)) [2]
(q (.call 39) [3, 1]
(q (.bin .lss) [4, .k (.int .i64 0)]
(.ite (.v 5) (.ret [.k (.int .i64 0), .k (.bool false)])
(q (.fld 0 none) [2]
(q (.idxS 5) [6, 4]
(q (.off 1) [7]
(q (.ldE none) [8]
(.ret [9, .k (.bool true)]))))))))))
def H44 : List (Nat × Nat) := [(16, 1), (15, 1), (12, 4), (2, 4)]
def T47 : T :=
(q (.call 58) [0, 1]
(.ret [2]))
def H47 : List (Nat × Nat) := []
def T48 : T :=
(q (.call 59) [0]
(q (.ext 0) [1]
(q (.ext 1) [1]
(q (.call 60) [0, 3]
(.ret [4])))))
def H48 : List (Nat × Nat) := []
def T49 : T :=
(.loop 0 [.k (.int .i64 0), .k (.bool false)] (q (.lenStr) [0]
(q (.bin .lss) [1, 3]
(.ite (.v 4) (q (.idxStr) [0, 1]
(q (.bin .lss) [5, .k (.int .u8 33)]
(qf (.mv) [0] 6
(qf (.mv) [1] 6
(qf (.idxStr) [7, 8] 6
(qf (.bin .gtr) [9, .k (.int .u8 126)] 6
(q (.pick) [6, .k (.bool true), 10]
(qf (.mv) [0] 11
(qf (.mv) [1] 11
(qf (.idxStr) [12, 13] 11
(qf (.bin .eql) [14, .k (.int .u8 47)] 11
(q (.pick) [11, .k (.bool true), 15]
(qf (.mv) [0] 16
(qf (.mv) [1] 16
(qf (.idxStr) [17, 18] 16
(qf (.bin .eql) [19, .k (.int .u8 42)] 16
(q (.pick) [16, .k (.bool true), 20]
(qf (.mv) [0] 21
(qf (.mv) [1] 21
(qf (.idxStr) [22, 23] 21
(qf (.bin .eql) [24, .k (.int .u8 63)] 21
(q (.pick) [21, .k (.bool true), 25]
(qf (.mv) [0] 26
(qf (.mv) [1] 26
(qf (.idxStr) [27, 28] 26
(qf (.bin .eql) [29, .k (.int .u8 34)] 26
(q (.pick) [26, .k (.bool true), 30]
(.ite (.v 31) (.ret [.k (.bool false)])
(q (.bin .add) [1, .k (.int .i64 1)]
(.next 0 [32, 2]))))))))))))))))))))))))))))))
(q (.lenStr) [0]
(q (.bin .geq) [5, .k (.int .i64 1)]
(qt (.mv) [0] 6
(qt (.lenStr) [7] 6
(qt (.bin .leq) [8, .k (.int .i64 32)] 6
(q (.pick) [6, 9, .k (.bool false)]
(.ret [10])))))))))))
def H49 : List (Nat × Nat) := []
def T50 : T :=
(.p .box [0] none
(.loop 0 [.k (.int .i64 0), .k (.int .i64 0)] (q (.fld 0 none) [3]
(q (.lenSl) [6]
(q (.bin .lss) [4, 7]
(.ite (.v 8) (q (.fld 0 none) [3]
(q (.idxS 5) [9, 4]
(q (.off 1) [10]
(q (.ldE none) [11]
(q (.bin .eql) [12, 1]
(qt (.fld 0 none) [3] 13
(qt (.mv) [4] 13
(qt (.idxS 5) [14, 15] 13
(qt (.off 2) [16] 13
(qt (.ldE none) [17] 13
(qt (.mv) [2] 13
(qt (.bin .eql) [18, 19] 13
(q (.pick) [13, 20, .k (.bool false)]
(qt (.fld 0 none) [3] 21
(qt (.mv) [4] 21
(qt (.idxS 5) [22, 23] 21
(qt (.off 0) [24] 21
(qt (.ldE none) [25] 21
(qt (.bin .neq) [26, .k (.int .i64 1)] 21
(q (.pick) [21, 27, .k (.bool false)]
(.ite (.v 28) (q (.fld 0 none) [3]
(q (.idxS 5) [29, 4]
(q (.off 0) [30]
(q (.ldE none) [31]
(.ret [32])))))
(q (.bin .add) [4, .k (.int .i64 1)]
(.next 0 [29, 5])))))))))))))))))))))))
(.ret [.k (.int .i64 0)])))))))
def H50 : List (Nat × Nat) := [(46, 1), (45, 1), (42, 5), (38, 1), (37, 1), (34, 5), (28, 1), (27, 1), (24, 5), (19, 1), (18, 1), (15, 5), (9, 5), (3, 5)]
def T56 : T :=
(.p .box [0] none
(q (.bslice false 1) [1]
(q (.fld 0 (some 2)) [2]
(q (.call 22) [4, 1]
(.loop 0 [.k (.int .i64 0), 3] (q (.lenSl) [5]
(q (.bin .lss) [6, 8]
(.ite (.v 9) (q (.fld 0 (some 2)) [2]
(q (.idxS 1) [5, 6]
(q (.ldE none) [11]
(q (.call 56) [10, 12]
(.s (.app false 1) [7, 13] none
(q (.bin .add) [6, .k (.int .i64 1)]
(.next 0 [15, 14])))))))
(.ret [7])))))))))
def H56 : List (Nat × Nat) := [(23, 1), (2, 4)]
def T59 : T :=
(q (.call 76) [0]
(q (.ext 0) [1]
(q (.ext 1) [1]
(q (.un .not) [3]
(.ite (.v 4) (.ret [.k .nils, .k (.bool false)])
(q (.lenSl) [2]
(.loop 0 [.k (.int .i64 0), .k (.bool false), .k .nils] (q (.bin .lss) [6, 5]
(.ite (.v 9) (q (.idxS 1) [2, 6]
(q (.ldE none) [10]
(q (.bin .eql) [11, .k (.str [])]
(.ite (.v 12) (.ret [.k .nils, .k (.bool false)])
(q (.lenStr) [11]
(.loop 1 [.k (.int .i64 0), 7, 8] (q (.bin .lss) [14, 13]
(.ite (.v 17) (q (.idxStr) [11, 14]
(q (.call 77) [18]
(q (.un .not) [19]
(.ite (.v 20) (.ret [.k .nils, .k (.bool false)])
(q (.bin .add) [14, .k (.int .i64 1)]
(.next 1 [21, 15, 16]))))))
(q (.bin .add) [6, .k (.int .i64 1)]
(.next 0 [18, 15, 16]))))))))))
(.ret [2, .k (.bool true)]))))))))))
def H59 : List (Nat × Nat) := [(20, 1)]
def T60 : T :=
(q (.lenStr) [0]
(q (.bin .gtr) [2, .k (.int .i64 256)]
(.ite (.v 3) (.ret [.k (.int .i64 4)])
(q (.un .not) [1]
(.ite (.v 4) (.ret [.k (.int .i64 9)])
(.ret [.k (.int .i64 0)]))))))
def H60 : List (Nat × Nat) := []
def T76 : T :=
(q (.bin .eql) [0, .k (.str [47])]
(.ite (.v 1) (.ret [.k .nils, .k (.bool true)])
(q (.call 88) [0, .k (.str [47])]
(q (.ext 0) [2]
(q (.ext 1) [2]
(q (.un .not) [4]
(qf (.mv) [0] 5
(qf (.lenStr) [6] 5
(qf (.bin .gtr) [7, .k (.int .i64 256)] 5
(q (.pick) [5, .k (.bool true), 8]
(.ite (.v 9) (.ret [.k .nils, .k (.bool false)])
(q (.call 37) [3, .k (.str [47])]
(.ret [10, .k (.bool true)])))))))))))))
def H76 : List (Nat × Nat) := []
def T77 : T :=
(q (.bin .geq) [0, .k (.int .u8 33)]
(qt (.mv) [0] 1
(qt (.bin .leq) [2, .k (.int .u8 126)] 1
(q (.pick) [1, 3, .k (.bool false)]
(qt (.mv) [0] 4
(qt (.conv .i32) [5] 4
(qt (.call 89) [.k (.str [47, 42, 63, 34]), 6] 4
(qt (.un .not) [7] 4
(q (.pick) [4, 8, .k (.bool false)]
(.ret [9]))))))))))
def H77 : List (Nat × Nat) := []
def T88 : T :=
(q (.call 95) [0, 1]
(q (.ext 0) [2]
(q (.ext 1) [2]
(.ret [3, 4]))))
def H88 : List (Nat × Nat) := []
def T95 : T :=
(q (.call 98) [0, 1]
(q (.un .not) [2]
(.ite (.v 3) (.ret [0, .k (.bool false)])
(q (.lenStr) [1]
(q (.slcS true false) [0, 4]
(.ret [5, .k (.bool true)]))))))
def H95 : List (Nat × Nat) := []
def T98 : T :=
(q (.lenStr) [0]
(q (.lenStr) [1]
(q (.bin .geq) [2, 3]
(qt (.mv) [0] 4
(qt (.mv) [1] 4
(qt (.lenStr) [6] 4
(qt (.slcS false true) [5, 7] 4
(qt (.mv) [1] 4
(qt (.bin .eql) [8, 9] 4
(q (.pick) [4, 10, .k (.bool false)]
(.ret [11])))))))))))
def H98 : List (Nat × Nat) := []
end Go.Proofs.YtklepphkbbjbjaaDoor
namespace Go.Proofs.YtklepphkbbjbjaaDoor
set_option linter.unusedVariables false
set_option linter.unusedSimpArgs false
open Go
abbrev CallP := Nat → List DVal → Option DVal
abbrev CallI := Nat → List DVal → Sto → Option (DVal × Sto)
def wantP (x : DVal) (b : Bool) (o : Option DVal) : Option DVal := if x.isB b then o else some .undef
def wantS (x : DVal) (b : Bool) (σ : Sto) (o : Option (DVal × Sto)) : Option (DVal × Sto) := if x.isB b then o else some (.undef, σ)
def callPS (C : CallP) (f : Nat) (xs : List DVal) : Option DVal := (sealVals xs).bind fun ys => (C f ys).map DVal.stale
def callFS (C : CallP) (f : Nat) (σ : Sto) (xs : List DVal) : Option (DVal × Sto) := (sealVals xs).bind fun ys => (C f ys).map (importVal σ)
def callIS (I : CallI) (f : Nat) (σ : Sto) (xs : List DVal) : Option (DVal × Sto) := if xs.all DVal.okVal then I f xs σ else none
class Kt (α : Type) where
  f : α
def bnd (x : Option DVal) [k : Kt (DVal → Option Out)] : Option Out := bndP x k.f
def bns (x : Option (DVal × Sto)) [k : Kt (DVal → Sto → Option Out)] : Option Out := bndS x k.f
def itK (c : DVal) [a : Kt (Option Out)] [b : Kt (Option Out)] : Option Out := iteJ c a.f b.f
def wnP (x : DVal) (b : Bool) [o : Kt (Option DVal)] : Option DVal := wantP x b o.f
def wnS (x : DVal) (b : Bool) (σ : Sto) [o : Kt (Option (DVal × Sto))] : Option (DVal × Sto) := wantS x b σ o.f
def finP (o : Option Out) : Option DVal :=
  (match o with
  | some (.done v σ) => (v.handBack σ).map fun u => (u, emptySto)
  | _ => none).map Prod.fst
def finI (o : Option Out) : Option (DVal × Sto) :=
  match o with
  | some (.done v σ') => some (v, σ')
  | _ => none
@[simp] theorem finP_done (v : DVal) (σ : Sto) : finP (some (.done v σ)) = v.handBack σ := by simp [finP, Function.comp_def]
@[simp] theorem finI_done (v : DVal) (σ : Sto) : finI (some (.done v σ)) = some (v, σ) := rfl
@[simp] theorem bnd_some (v : DVal) (k : Kt (DVal → Option Out)) : @bnd (some v) k = k.f v := rfl
@[simp] theorem bns_some (v : DVal) (σ : Sto) (k : Kt (DVal → Sto → Option Out)) : @bns (some (v, σ)) k = k.f v σ := rfl
noncomputable def iteQ {α : Type} (p : Prop) (a b : α) : α := @ite α p (Classical.propDecidable p) a b
@[simp] theorem iteQ_true {α : Type} (a b : α) : iteQ True a b = a := by simp [iteQ]
@[simp] theorem iteQ_false {α : Type} (a b : α) : iteQ False a b = b := by simp [iteQ]
theorem iteQ_pos {α : Type} {p : Prop} {a b : α} (h : p) : iteQ p a b = a := by simp [iteQ, h]
theorem iteQ_neg {α : Type} {p : Prop} {a b : α} (h : ¬ p) : iteQ p a b = b := by simp [iteQ, h]
@[simp] theorem iteQ_same {α : Type} (p : Prop) (a : α) : iteQ p a a = a := by simp [iteQ]
theorem iteQ_eq {α : Type} (p : Prop) [Decidable p] (a b : α) : iteQ p a b = if p then a else b := by by_cases h : p <;> simp [iteQ, h]
theorem iteQ_apply {α β : Type} (f : α → β) (p : Prop) (a b : α) : f (iteQ p a b) = iteQ p (f a) (f b) := by by_cases h : p <;> simp [iteQ, h]
@[congr] theorem iteQ_congr {α : Type} {p p' n' : Prop} {a a' b b' : α} (hp : p = p') (hn : (¬ p) = n') (ha : p' → a = a') (hb : n' → b = b') : iteQ p a b = iteQ p' a' b' := by
  subst hp
  by_cases h : p
  · rw [iteQ_pos h, iteQ_pos h, ha h]
  · rw [iteQ_neg h, iteQ_neg h, hb (by rw [← hn]; exact h)]
@[simp] theorem itK_bool (c : Bool) (a b : Kt (Option Out)) : @itK (.bool c) a b = iteQ (c = true) a.f b.f := by cases c <;> simp [itK, iteJ]
@[simp] theorem retJ_some (v : DVal) (σ : Sto) : retJ (some v) σ = some (.done v σ) := rfl
@[simp] theorem joinJ_next (l : Nat) (k : List DVal → Sto → Option Out) (vs : List DVal) (σ : Sto) : joinJ l k (some (.next l vs σ)) = k vs σ := by simp [joinJ]
@[simp] theorem joinJ_done (l : Nat) (k : List DVal → Sto → Option Out) (v : DVal) (σ : Sto) : joinJ l k (some (.done v σ)) = some (.done v σ) := rfl
theorem iterJ_succ (l : Nat) (f : List DVal → Sto → Option Out) (m : Nat) (vs : List DVal) (σ : Sto) : iterJ l f (m + 1) vs σ = match f vs σ with
    | some (.next i vs' σ') => if i = l then iterJ l f m vs' σ' else some (.next i vs' σ')
    | r => r := rfl
theorem iterJ_next' {l : Nat} {f : List DVal → Sto → Option Out} {m : Nat} {vs vs' : List DVal} {σ σ' : Sto} (h : f vs σ = some (.next l vs' σ')) : iterJ l f (m + 1) vs σ = iterJ l f m vs' σ' := by
  rw [iterJ_succ, h]; simp
theorem iterJ_done {l : Nat} {f : List DVal → Sto → Option Out} {m : Nat} {vs : List DVal} {σ σ' : Sto} {v : DVal} (h : f vs σ = some (.done v σ')) : iterJ l f (m + 1) vs σ = some (.done v σ') := by
  rw [iterJ_succ, h]
theorem iterJ_out {l i : Nat} {f : List DVal → Sto → Option Out} {m : Nat} {vs vs' : List DVal} {σ σ' : Sto} (h : f vs σ = some (.next i vs' σ')) (hi : i ≠ l) : iterJ l f (m + 1) vs σ = some (.next i vs' σ') := by
  rw [iterJ_succ, h]; simp [hi]
noncomputable def gv (p : Prop) (v : DVal) : DVal := iteQ p v .undef
@[simp] theorem gv_true (v : DVal) : gv True v = v := by simp [gv]
@[simp] theorem gv_false (v : DVal) : gv False v = .undef := by simp [gv]
noncomputable def wantQ (p : Prop) (o : Option DVal) : Option DVal := iteQ p o (some .undef)
@[simp] theorem wantQ_true (o : Option DVal) : wantQ True o = o := by simp [wantQ]
@[simp] theorem wantQ_false (o : Option DVal) : wantQ False o = some .undef := by simp [wantQ]
@[simp] theorem wantQ_some (p : Prop) (v : DVal) : wantQ p (some v) = some (gv p v) := by by_cases h : p <;> simp [h]
@[congr] theorem wantQ_congr {p p' : Prop} {o o' : Option DVal} (hp : p = p') (ho : p' → o = o') : wantQ p o = wantQ p' o' := by
  subst hp
  by_cases h : p
  · rw [ho h]
  · simp [h]
@[simp] theorem wnP_t (c : Bool) (o : Kt (Option DVal)) : @wnP (.bool c) true o = wantQ (c = true) o.f := by cases c <;> simp [wnP, wantP, DVal.isB]
@[simp] theorem wnP_f (c : Bool) (o : Kt (Option DVal)) : @wnP (.bool c) false o = wantQ (c = false) o.f := by cases c <;> simp [wnP, wantP, DVal.isB]
@[simp] theorem wnS_t (c : Bool) (σ : Sto) (o : Kt (Option (DVal × Sto))) : @wnS (.bool c) true σ o = iteQ (c = true) o.f (some (.undef, σ)) := by cases c <;> simp [wnS, wantS, DVal.isB]
@[simp] theorem wnS_f (c : Bool) (σ : Sto) (o : Kt (Option (DVal × Sto))) : @wnS (.bool c) false σ o = iteQ (c = false) o.f (some (.undef, σ)) := by cases c <;> simp [wnS, wantS, DVal.isB]
@[simp] theorem wnP_gt (q : Prop) (c : Bool) (o : Kt (Option DVal)) : @wnP (gv q (.bool c)) true o = wantQ (q ∧ c = true) o.f := by
  by_cases h : q <;> cases c <;> simp [h, wnP, wantP, DVal.isB]
@[simp] theorem wnP_gf (q : Prop) (c : Bool) (o : Kt (Option DVal)) : @wnP (gv q (.bool c)) false o = wantQ (q ∧ c = false) o.f := by
  by_cases h : q <;> cases c <;> simp [h, wnP, wantP, DVal.isB]
@[simp] theorem pick_true (a b : DVal) : pickSem [.bool true, a, b] = some a := rfl
@[simp] theorem pick_false (a b : DVal) : pickSem [.bool false, a, b] = some b := rfl
@[simp] theorem pick_and {c a : Bool} {p : Prop} (h : (c = true) ↔ p) : pickSem [.bool c, gv p (.bool a), .bool false] = some (.bool (c && a)) := by
  cases c
  · rfl
  · have : p := h.1 rfl
    simp [this]
@[simp] theorem pick_or {c a : Bool} {p : Prop} (h : (c = false) ↔ p) : pickSem [.bool c, .bool true, gv p (.bool a)] = some (.bool (c || a)) := by
  cases c
  · have : p := h.1 rfl
    simp [this]
  · rfl
@[simp] theorem joinJ_ite (l : Nat) (k : List DVal → Sto → Option Out) (p : Prop) (a b : Option Out) : joinJ l k (iteQ p a b) = iteQ p (joinJ l k a) (joinJ l k b) := iteQ_apply _ _ _ _
@[simp] theorem finP_ite (p : Prop) (a b : Option Out) : finP (iteQ p a b) = iteQ p (finP a) (finP b) := iteQ_apply _ _ _ _
@[simp] theorem finI_ite (p : Prop) (a b : Option Out) : finI (iteQ p a b) = iteQ p (finI a) (finI b) := iteQ_apply _ _ _ _
@[simp] theorem bns_ite (p : Prop) (a b : Option (DVal × Sto)) (k : Kt (DVal → Sto → Option Out)) : @bns (iteQ p a b) k = iteQ p (@bns a k) (@bns b k) := iteQ_apply (fun x => @bns x k) _ _ _
theorem upd_apply' {α : Type} (f : Nat → α) (a b : Nat) (v : α) : upd f a v b = if b = a then v else f b := rfl
@[simp] theorem upd_upd {α : Type} (f : Nat → α) (a : Nat) (v u : α) : upd (upd f a v) a u = upd f a u := by funext b; simp only [upd]; split <;> rfl
attribute [simp] jboxSem.eq_1 jwrSem.eq_1 jrngSem.eq_1 jnxSem.eq_1 resEx.eq_1 resEx.eq_2 POp.sem.eq_1 POp.sem.eq_2 POp.sem.eq_3 POp.sem.eq_4 POp.sem.eq_5 POp.sem.eq_6 POp.sem.eq_7 POp.sem.eq_8 POp.sem.eq_9 POp.sem.eq_10 POp.sem.eq_11 POp.sem.eq_12 POp.sem.eq_13 POp.sem.eq_14 POp.sem.eq_15 POp.sem.eq_16 POp.sem.eq_17 POp.sem.eq_18 POp.sem.eq_19 POp.sem.eq_20 POp.sem.eq_21 POp.sem.eq_22 POp.sem.eq_23 POp.sem.eq_24 POp.sem.eq_25 POp.sem.eq_26 POp.sem.eq_27 POp.sem.eq_28 POp.sem.eq_29 POp.sem.eq_30 POp.sem.eq_31 POp.sem.eq_32 DVal.cells.eq_1 DVal.cells.eq_2 DVal.okCell.eq_1 DVal.okCell.eq_2 DVal.okCell.eq_3 DVal.okCell.eq_4 DVal.okCell.eq_5 DVal.okCell.eq_6 DVal.okCell.eq_7 DVal.okCell.eq_8 readCells.eq_1 readCells.eq_2 writeCells.eq_1 offSem.eq_1 DVal.shift.eq_1 DVal.shift.eq_2 DVal.shift.eq_3 mvSem.eq_1 bin2Sem.eq_1 binSem.eq_1 binSem.eq_2 binSem.eq_3 binSem.eq_4 binInt.eq_1 binInt.eq_2 binInt.eq_3 binInt.eq_4 binInt.eq_5 binInt.eq_6 binInt.eq_7 binInt.eq_8 binInt.eq_9 binInt.eq_10 binInt.eq_11 binInt.eq_12 binInt.eq_13 binInt.eq_14 binInt.eq_15 binStr.eq_1 binStr.eq_2 binStr.eq_3 binStr.eq_4 binStr.eq_5 binStr.eq_6 binStr.eq_7 convSem.eq_1 convSSem.eq_1 eqbSem.eq_1 eqaSem.eq_1 cellsEq.eq_1 cellsEq.eq_2 cellEq.eq_1 cellEq.eq_2 cellEq.eq_3 isnilSem.eq_1 DVal.isNil.eq_1 DVal.isNil.eq_2 DVal.isNil.eq_3 DVal.isNil.eq_4 DVal.isNil.eq_5 DVal.isNil.eq_6 DVal.isNil.eq_7 DVal.isNil.eq_8 DVal.isNil.eq_9 DVal.isNil.eq_10 DVal.isNil.eq_11 DVal.isNil.eq_12 DVal.isNil.eq_13 DVal.isNil.eq_14 unSem.eq_1 unSem.eq_2 unSem.eq_3 unSem.eq_4 unSem.eq_5 DVal.okVal.eq_1 DVal.okVal.eq_2 DVal.handBack.eq_1 DVal.handBack.eq_2 DVal.handBack.eq_3 DVal.sealVal.eq_1 DVal.sealVal.eq_2 DVal.sealCell.eq_1 DVal.sealCell.eq_2 DVal.sealCell.eq_3 DVal.sealCell.eq_4 DVal.sealCell.eq_5 DVal.sealCell.eq_6 DVal.sealCell.eq_7 DVal.sealCell.eq_8 DVal.sealCell.eq_9 DVal.sealCell.eq_10 DVal.sealCell.eq_11 sealVals.eq_1 sealVals.eq_2 sealCells.eq_1 sealCells.eq_2 DVal.stale.eq_1 DVal.stale.eq_2 mxSem.eq_1 mnSem.eq_1 idxSSem.eq_1 idxSSem.eq_2 idxASem.eq_1 idxStrSem.eq_1 fldSem.eq_1 ldESem.eq_1 extSem.eq_1 fillCells.eq_1 fillCells.eq_2 sealElems.eq_1 sealElems.eq_2 slcSSem.eq_1 slcVSem.eq_1 slcVSem.eq_2 slcVSem.eq_3 lenStrSem.eq_1 lenSlSem.eq_1 lenSlSem.eq_2 lenSlSem.eq_3 lenSlSem.eq_4 nilchkSem.eq_1 nilchkSem.eq_2 nilchkSem.eq_3 nilchkSem.eq_4 nilchkSem.eq_5 importVal.eq_1 importVal.eq_2 ldOSem.eq_2 callVSem.eq_1 bounds.eq_1 bounds.eq_2 bounds.eq_3 bounds.eq_4 bounds.eq_5 bounds.eq_6 goI.eq_1 callPS.eq_1 callFS.eq_1 callIS.eq_1 upd_apply' mkISem.eq_1 tyASem.eq_1 tyASem.eq_2 callMSem.eq_1 DVal.plain.eq_1 DVal.plain.eq_2 DVal.plainCell.eq_1 DVal.plainCell.eq_2 DVal.plainCell.eq_3
end Go.Proofs.YtklepphkbbjbjaaDoor
namespace Go.Proofs.YtklepphkbbjbjaaDoor
set_option linter.unusedVariables false
set_option maxRecDepth 100000
open Go
def D7 (C : CallP) (I : CallI) (n : Nat) (x0 x1 : DVal) (σ : Sto) : Option Out :=
  @bns (callIS I 9 σ [(.int .i64 1)]) ⟨fun x2 σ =>
  @bnd (callPS C 14 [(.int .i64 1)]) ⟨fun x3 =>
  @bnd (jwrSem 0 2 [(.agg [.nils, (.int .i64 0)]), x3]) ⟨fun x4 =>
  @bnd (isnilSem 1 false [x2]) ⟨fun x5 =>
  @itK x5 ⟨retJ (resEx [(.bool false)]) σ⟩ ⟨@bnd (lenSlSem [x0]) ⟨fun x6 =>
  @bnd (bin2Sem .gtr [x6, (.int .i64 40)]) ⟨fun x7 =>
  @bnd (@wnP x7 false ⟨mvSem [x1]⟩) ⟨fun x8 =>
  @bnd (@wnP x7 false ⟨lenSlSem [x8]⟩) ⟨fun x9 =>
  @bnd (@wnP x7 false ⟨bin2Sem .gtr [x9, (.int .i64 40)]⟩) ⟨fun x10 =>
  @bnd (pickSem [x7, (.bool true), x10]) ⟨fun x11 =>
  @itK x11 ⟨@bnd (callPS C 10 []) ⟨fun x12 =>
  retJ (resEx [x12]) σ⟩⟩ ⟨@bnd (fldSem 0 (some 2) [x4]) ⟨fun x12 =>
  @bns (callIS I 15 σ [x2, x12, x0]) ⟨fun x13 σ =>
  @bnd (extSem 0 [x13]) ⟨fun x14 =>
  @bnd (extSem 1 [x13]) ⟨fun x15 =>
  @bnd (jwrSem 0 2 [x4, x14]) ⟨fun x16 =>
  @bns (callIS I 27 σ [x2]) ⟨fun x17 σ =>
  @bnd (unSem .not [x15]) ⟨fun x18 =>
  @bnd (@wnP x18 false ⟨mvSem [x17]⟩) ⟨fun x19 =>
  @bnd (@wnP x18 false ⟨isnilSem 1 false [x19]⟩) ⟨fun x20 =>
  @bnd (pickSem [x18, (.bool true), x20]) ⟨fun x21 =>
  @itK x21 ⟨retJ (resEx [(.bool false)]) σ⟩ ⟨@bnd (fldSem 0 (some 2) [x16]) ⟨fun x22 =>
  @bns (callIS I 15 σ [x2, x22, x1]) ⟨fun x23 σ =>
  @bnd (extSem 0 [x23]) ⟨fun x24 =>
  @bnd (extSem 1 [x23]) ⟨fun x25 =>
  @bnd (jwrSem 0 2 [(.agg [.nils, (.int .i64 0)]), x24]) ⟨fun x26 =>
  @bnd (unSem .not [x25]) ⟨fun x27 =>
  @bnd (@wnP x27 false ⟨mvSem [x17]⟩) ⟨fun x28 =>
  @bnd (@wnP x27 false ⟨fldSem 0 (some 2) [x16]⟩) ⟨fun x29 =>
  @bns (@wnS x27 false σ ⟨callIS I 26 σ [x28, x29]⟩) ⟨fun x30 σ =>
  @bnd (@wnP x27 false ⟨unSem .not [x30]⟩) ⟨fun x31 =>
  @bnd (pickSem [x27, (.bool true), x31]) ⟨fun x32 =>
  @itK x32 ⟨retJ (resEx [(.bool false)]) σ⟩ ⟨@bnd (fldSem 0 (some 2) [x16]) ⟨fun x33 =>
  @bns (callIS I 15 σ [x17, x33, x1]) ⟨fun x34 σ =>
  @bnd (extSem 0 [x34]) ⟨fun x35 =>
  @bnd (extSem 1 [x34]) ⟨fun x36 =>
  @bnd (jwrSem 0 2 [(.agg [.nils, (.int .i64 0)]), x35]) ⟨fun x37 =>
  @bnd (@wnP x36 true ⟨mvSem [x17]⟩) ⟨fun x38 =>
  @bnd (@wnP x36 true ⟨fldSem 0 (some 2) [x37]⟩) ⟨fun x39 =>
  @bns (@wnS x36 true σ ⟨callIS I 26 σ [x38, x39]⟩) ⟨fun x40 σ =>
  @bnd (pickSem [x36, x40, (.bool false)]) ⟨fun x41 =>
  @bnd (@wnP x41 true ⟨mvSem [x2]⟩) ⟨fun x42 =>
  @bnd (@wnP x41 true ⟨fldSem 0 (some 2) [x26]⟩) ⟨fun x43 =>
  @bns (@wnS x41 true σ ⟨callIS I 26 σ [x42, x43]⟩) ⟨fun x44 σ =>
  @bnd (pickSem [x41, x44, (.bool false)]) ⟨fun x45 =>
  @bnd (@wnP x45 true ⟨callPS C 10 []⟩) ⟨fun x46 =>
  @bnd (pickSem [x45, x46, (.bool false)]) ⟨fun x47 =>
  retJ (resEx [x47]) σ⟩⟩⟩⟩⟩⟩⟩⟩⟩⟩⟩⟩⟩⟩⟩⟩⟩⟩⟩⟩⟩⟩⟩⟩⟩⟩⟩⟩⟩⟩⟩⟩⟩⟩⟩⟩⟩⟩⟩⟩⟩⟩⟩⟩⟩⟩⟩⟩⟩⟩
def D9 (C : CallP) (I : CallI) (n : Nat) (x0 : DVal) (σ : Sto) : Option Out :=
  @bns (mkmapSem σ []) ⟨fun x1 σ =>
  @bnd (POp.sem C [(.int .i64 2), x0] (.build [(.int .i64 0), (.str []), (.int .i64 0), (.int .i64 0)] [(2, 1), (3, 1)])) ⟨fun x2 =>
  @bns (mupdSem false [.i .i64] σ [x1, (.int .i64 1), x2]) ⟨fun x3 σ =>
  @bns (mkmapSem σ []) ⟨fun x4 σ =>
  @bns (mkmapSem σ []) ⟨fun x5 σ =>
  @bns (mupdSem false [.i .i64] σ [x4, (.int .i64 1), x5]) ⟨fun x6 σ =>
  @bnd (POp.sem C [x1, x4, (.int .i64 2)] (.build [.nilm, .nilm, (.int .i64 0)] [(0, 1), (1, 1), (2, 1)])) ⟨fun x7 =>
  @bns (boxOSem σ [x7]) ⟨fun x8 σ =>
  retJ (resEx [x8]) σ⟩⟩⟩⟩⟩⟩⟩⟩
def D10 (C : CallP) (I : CallI) (n : Nat) (σ : Sto) : Option Out :=
  @bns (callIS I 9 σ [(.int .i64 5)]) ⟨fun x0 σ =>
  @bnd (isnilSem 1 false [x0]) ⟨fun x1 =>
  @itK x1 ⟨retJ (resEx [(.bool false)]) σ⟩ ⟨@bns (callIS I 11 σ [x0, (.int .i64 1), (.str [101, 116, 99]), (.int .i64 2), (.int .i64 6)]) ⟨fun x2 σ =>
  @bnd (extSem 0 [x2]) ⟨fun x3 =>
  @bnd (extSem 1 [x2]) ⟨fun x4 =>
  @bns (callIS I 11 σ [x0, (.int .i64 2), (.str [112, 97, 115, 115, 119, 100]), (.int .i64 1), (.int .i64 7)]) ⟨fun x5 σ =>
  @bnd (extSem 0 [x5]) ⟨fun x6 =>
  @bnd (extSem 1 [x5]) ⟨fun x7 =>
  @bns (callIS I 11 σ [x0, (.int .i64 3), (.str [120]), (.int .i64 1), (.int .i64 1)]) ⟨fun x8 σ =>
  @bnd (extSem 0 [x8]) ⟨fun x9 =>
  @bnd (extSem 1 [x8]) ⟨fun x10 =>
  @bns (callIS I 11 σ [x0, (.int .i64 2), (.str [112, 97, 115, 115, 119, 100]), (.int .i64 1), (.int .i64 1)]) ⟨fun x11 σ =>
  @bnd (extSem 0 [x11]) ⟨fun x12 =>
  @bnd (extSem 1 [x11]) ⟨fun x13 =>
  @bns (callIS I 11 σ [x0, (.int .i64 1), (.str [97, 47, 98]), (.int .i64 1), (.int .i64 1)]) ⟨fun x14 σ =>
  @bnd (extSem 0 [x14]) ⟨fun x15 =>
  @bnd (extSem 1 [x14]) ⟨fun x16 =>
  @bns (callIS I 25 σ [x0, (.int .i64 3)]) ⟨fun x17 σ =>
  @bnd (extSem 0 [x17]) ⟨fun x18 =>
  @bnd (extSem 1 [x17]) ⟨fun x19 =>
  @bns (callIS I 12 σ [x0, (.int .i64 2)]) ⟨fun x20 σ =>
  @bns (callIS I 23 σ [x0]) ⟨fun x21 σ =>
  @bns (callIS I 12 σ [x0, (.int .i64 3)]) ⟨fun x22 σ =>
  @bns (callIS I 11 σ [x0, (.int .i64 1), (.str [120]), (.int .i64 4), (.int .i64 1)]) ⟨fun x23 σ =>
  @bnd (extSem 0 [x23]) ⟨fun x24 =>
  @bnd (extSem 1 [x23]) ⟨fun x25 =>
  @bnd (bin2Sem .eql [x3, (.int .i64 2)]) ⟨fun x26 =>
  @bnd (@wnP x26 true ⟨mvSem [x6]⟩) ⟨fun x27 =>
  @bnd (@wnP x26 true ⟨bin2Sem .eql [x27, (.int .i64 3)]⟩) ⟨fun x28 =>
  @bnd (pickSem [x26, x28, (.bool false)]) ⟨fun x29 =>
  @bnd (@wnP x29 true ⟨mvSem [x24]⟩) ⟨fun x30 =>
  @bnd (@wnP x29 true ⟨bin2Sem .eql [x30, (.int .i64 4)]⟩) ⟨fun x31 =>
  @bnd (pickSem [x29, x31, (.bool false)]) ⟨fun x32 =>
  @bnd (@wnP x32 true ⟨mvSem [x4]⟩) ⟨fun x33 =>
  @bnd (@wnP x32 true ⟨bin2Sem .eql [x33, (.int .i64 0)]⟩) ⟨fun x34 =>
  @bnd (pickSem [x32, x34, (.bool false)]) ⟨fun x35 =>
  @bnd (@wnP x35 true ⟨mvSem [x7]⟩) ⟨fun x36 =>
  @bnd (@wnP x35 true ⟨bin2Sem .eql [x36, (.int .i64 0)]⟩) ⟨fun x37 =>
  @bnd (pickSem [x35, x37, (.bool false)]) ⟨fun x38 =>
  @bnd (@wnP x38 true ⟨mvSem [x10]⟩) ⟨fun x39 =>
  @bnd (@wnP x38 true ⟨bin2Sem .eql [x39, (.int .i64 13)]⟩) ⟨fun x40 =>
  @bnd (pickSem [x38, x40, (.bool false)]) ⟨fun x41 =>
  @bnd (@wnP x41 true ⟨mvSem [x13]⟩) ⟨fun x42 =>
  @bnd (@wnP x41 true ⟨bin2Sem .eql [x42, (.int .i64 12)]⟩) ⟨fun x43 =>
  @bnd (pickSem [x41, x43, (.bool false)]) ⟨fun x44 =>
  @bnd (@wnP x44 true ⟨mvSem [x16]⟩) ⟨fun x45 =>
  @bnd (@wnP x44 true ⟨bin2Sem .eql [x45, (.int .i64 10)]⟩) ⟨fun x46 =>
  @bnd (pickSem [x44, x46, (.bool false)]) ⟨fun x47 =>
  @bnd (@wnP x47 true ⟨mvSem [x18]⟩) ⟨fun x48 =>
  @bnd (@wnP x47 true ⟨bin2Sem .eql [x48, (.str [47, 101, 116, 99, 47, 112, 97, 115, 115, 119, 100])]⟩) ⟨fun x49 =>
  @bnd (pickSem [x47, x49, (.bool false)]) ⟨fun x50 =>
  @bnd (@wnP x50 true ⟨mvSem [x19]⟩) ⟨fun x51 =>
  @bnd (pickSem [x50, x51, (.bool false)]) ⟨fun x52 =>
  @bnd (@wnP x52 true ⟨mvSem [x20]⟩) ⟨fun x53 =>
  @bnd (@wnP x52 true ⟨bin2Sem .eql [x53, (.int .i64 23)]⟩) ⟨fun x54 =>
  @bnd (pickSem [x52, x54, (.bool false)]) ⟨fun x55 =>
  @bnd (@wnP x55 true ⟨mvSem [x21]⟩) ⟨fun x56 =>
  @bnd (@wnP x55 true ⟨POp.sem C [(.int .i64 1), (.int .i64 2), (.int .i64 3)] (.bslice false 1)⟩) ⟨fun x57 =>
  @bnd (@wnP x55 true ⟨callPS C 20 [x56, x57]⟩) ⟨fun x58 =>
  @bnd (pickSem [x55, x58, (.bool false)]) ⟨fun x59 =>
  @bnd (@wnP x59 true ⟨mvSem [x22]⟩) ⟨fun x60 =>
  @bnd (@wnP x59 true ⟨bin2Sem .eql [x60, (.int .i64 0)]⟩) ⟨fun x61 =>
  @bnd (pickSem [x59, x61, (.bool false)]) ⟨fun x62 =>
  @bnd (@wnP x62 true ⟨mvSem [x25]⟩) ⟨fun x63 =>
  @bnd (@wnP x62 true ⟨bin2Sem .eql [x63, (.int .i64 0)]⟩) ⟨fun x64 =>
  @bnd (pickSem [x62, x64, (.bool false)]) ⟨fun x65 =>
  retJ (resEx [x65]) σ⟩⟩⟩⟩⟩⟩⟩⟩⟩⟩⟩⟩⟩⟩⟩⟩⟩⟩⟩⟩⟩⟩⟩⟩⟩⟩⟩⟩⟩⟩⟩⟩⟩⟩⟩⟩⟩⟩⟩⟩⟩⟩⟩⟩⟩⟩⟩⟩⟩⟩⟩⟩⟩⟩⟩⟩⟩⟩⟩⟩⟩⟩⟩⟩⟩⟩⟩
def D11 (C : CallP) (I : CallI) (n : Nat) (x0 x1 x2 x3 x4 : DVal) (σ : Sto) : Option Out :=
  @bns (callIS I 30 σ [x0]) ⟨fun x5 σ =>
  @bnd (unSem .not [x5]) ⟨fun x6 =>
  @itK x6 ⟨retJ (resEx [(.int .i64 0), (.int .i64 1)]) σ⟩ ⟨@bns (callIS I 31 σ [x0, x1]) ⟨fun x7 σ =>
  @bnd (extSem 0 [x7]) ⟨fun x8 =>
  @bnd (extSem 1 [x7]) ⟨fun x9 =>
  @bnd (jwrSem 0 4 [(.agg [(.int .i64 0), (.str []), (.int .i64 0), (.int .i64 0)]), x8]) ⟨fun x10 =>
  @bnd (nilchkSem [x0]) ⟨fun x11 =>
  @bnd (offSem 1 [x11]) ⟨fun x12 =>
  @bns (ldOSem σ none [x12]) ⟨fun x13 σ =>
  @bns (lookSem false [.i .i64] .nilm false σ [x13, x1]) ⟨fun x14 σ =>
  @bns (lookSem false [.s] (.int .i64 0) true σ [x14, x2]) ⟨fun x15 σ =>
  @bnd (extSem 0 [x15]) ⟨fun x16 =>
  @bnd (extSem 1 [x15]) ⟨fun x17 =>
  @bnd (unSem .not [x9]) ⟨fun x18 =>
  @itK x18 ⟨retJ (resEx [(.int .i64 0), (.int .i64 11)]) σ⟩ ⟨@bnd (fldSem 2 none [x10]) ⟨fun x19 =>
  @bnd (bin2Sem .neq [x19, (.int .i64 2)]) ⟨fun x20 =>
  @itK x20 ⟨retJ (resEx [(.int .i64 0), (.int .i64 13)]) σ⟩ ⟨@bnd (bin2Sem .lss [x3, (.int .i64 1)]) ⟨fun x21 =>
  @bnd (@wnP x21 false ⟨mvSem [x3]⟩) ⟨fun x22 =>
  @bnd (@wnP x21 false ⟨bin2Sem .gtr [x22, (.int .i64 4)]⟩) ⟨fun x23 =>
  @bnd (pickSem [x21, (.bool true), x23]) ⟨fun x24 =>
  @itK x24 ⟨retJ (resEx [(.int .i64 0), (.int .i64 2)]) σ⟩ ⟨@bnd (callPS C 32 [x2]) ⟨fun x25 =>
  @bnd (unSem .not [x25]) ⟨fun x26 =>
  @itK x26 ⟨retJ (resEx [(.int .i64 0), (.int .i64 10)]) σ⟩ ⟨@itK x17 ⟨retJ (resEx [(.int .i64 0), (.int .i64 12)]) σ⟩ ⟨@bns (callIS I 33 σ [x0, x1]) ⟨fun x27 σ =>
  @bnd (lenStrSem [x27]) ⟨fun x28 =>
  @bnd (bin2Sem .add [x28, (.int .i64 1)]) ⟨fun x29 =>
  @bnd (lenStrSem [x2]) ⟨fun x30 =>
  @bnd (bin2Sem .add [x29, x30]) ⟨fun x31 =>
  @bnd (bin2Sem .gtr [x31, (.int .i64 256)]) ⟨fun x32 =>
  @itK x32 ⟨retJ (resEx [(.int .i64 0), (.int .i64 4)]) σ⟩ ⟨@bnd (nilchkSem [x0]) ⟨fun x33 =>
  @bnd (offSem 0 [x33]) ⟨fun x34 =>
  @bns (ldOSem σ none [x34]) ⟨fun x35 σ =>
  @bns (lenMSem σ [x35]) ⟨fun x36 σ =>
  @bnd (bin2Sem .geq [x36, (.int .i64 256)]) ⟨fun x37 =>
  @itK x37 ⟨retJ (resEx [(.int .i64 0), (.int .i64 25)]) σ⟩ ⟨@bnd (nilchkSem [x0]) ⟨fun x38 =>
  @bnd (offSem 2 [x38]) ⟨fun x39 =>
  @bns (ldOSem σ none [x39]) ⟨fun x40 σ =>
  @bnd (nilchkSem [x0]) ⟨fun x41 =>
  @bnd (offSem 2 [x41]) ⟨fun x42 =>
  @bns (ldOSem σ none [x42]) ⟨fun x43 σ =>
  @bnd (bin2Sem .add [x43, (.int .i64 1)]) ⟨fun x44 =>
  @bnd (nilchkSem [x0]) ⟨fun x45 =>
  @bnd (offSem 2 [x45]) ⟨fun x46 =>
  @bns (stOSem σ 1 [x46, x44]) ⟨fun x47 σ =>
  @bnd (nilchkSem [x0]) ⟨fun x48 =>
  @bnd (offSem 0 [x48]) ⟨fun x49 =>
  @bns (ldOSem σ none [x49]) ⟨fun x50 σ =>
  @bnd (POp.sem C [x1, x2, x3, x4] (.build [(.int .i64 0), (.str []), (.int .i64 0), (.int .i64 0)] [(0, 1), (1, 1), (2, 1), (3, 1)])) ⟨fun x51 =>
  @bns (mupdSem false [.i .i64] σ [x50, x40, x51]) ⟨fun x52 σ =>
  @bnd (nilchkSem [x0]) ⟨fun x53 =>
  @bnd (offSem 1 [x53]) ⟨fun x54 =>
  @bns (ldOSem σ none [x54]) ⟨fun x55 σ =>
  @bns (lookSem false [.i .i64] .nilm false σ [x55, x1]) ⟨fun x56 σ =>
  @bns (mupdSem false [.s] σ [x56, x2, x40]) ⟨fun x57 σ =>
  @bnd (bin2Sem .eql [x3, (.int .i64 2)]) ⟨fun x58 =>
  @itK x58 ⟨@bnd (nilchkSem [x0]) ⟨fun x59 =>
  @bnd (offSem 1 [x59]) ⟨fun x60 =>
  @bns (ldOSem σ none [x60]) ⟨fun x61 σ =>
  @bns (mkmapSem σ []) ⟨fun x62 σ =>
  @bns (mupdSem false [.i .i64] σ [x61, x40, x62]) ⟨fun x63 σ =>
  retJ (resEx [x40, (.int .i64 0)]) σ⟩⟩⟩⟩⟩⟩ ⟨retJ (resEx [x40, (.int .i64 0)]) σ⟩⟩⟩⟩⟩⟩⟩⟩⟩⟩⟩⟩⟩⟩⟩⟩⟩⟩⟩⟩⟩⟩⟩⟩⟩⟩⟩⟩⟩⟩⟩⟩⟩⟩⟩⟩⟩⟩⟩⟩⟩⟩⟩⟩⟩⟩⟩⟩⟩⟩⟩⟩⟩⟩⟩⟩⟩⟩⟩⟩⟩⟩⟩
def D12 (C : CallP) (I : CallI) (n : Nat) (x0 x1 : DVal) (σ : Sto) : Option Out :=
  @bns (callIS I 30 σ [x0]) ⟨fun x2 σ =>
  @bnd (unSem .not [x2]) ⟨fun x3 =>
  @itK x3 ⟨retJ (resEx [(.int .i64 1)]) σ⟩ ⟨@bns (callIS I 31 σ [x0, x1]) ⟨fun x4 σ =>
  @bnd (extSem 0 [x4]) ⟨fun x5 =>
  @bnd (extSem 1 [x4]) ⟨fun x6 =>
  @bnd (jwrSem 0 4 [(.agg [(.int .i64 0), (.str []), (.int .i64 0), (.int .i64 0)]), x5]) ⟨fun x7 =>
  @bnd (unSem .not [x6]) ⟨fun x8 =>
  @itK x8 ⟨retJ (resEx [(.int .i64 11)]) σ⟩ ⟨@bnd (bin2Sem .eql [x1, (.int .i64 1)]) ⟨fun x9 =>
  @bnd (@wnP x9 false ⟨mvSem [x0]⟩) ⟨fun x10 =>
  @bnd (@wnP x9 false ⟨nilchkSem [x10]⟩) ⟨fun x11 =>
  @bnd (@wnP x9 false ⟨offSem 1 [x11]⟩) ⟨fun x12 =>
  @bns (@wnS x9 false σ ⟨ldOSem σ none [x12]⟩) ⟨fun x13 σ =>
  @bnd (@wnP x9 false ⟨mvSem [x1]⟩) ⟨fun x14 =>
  @bns (@wnS x9 false σ ⟨lookSem false [.i .i64] .nilm false σ [x13, x14]⟩) ⟨fun x15 σ =>
  @bns (@wnS x9 false σ ⟨lenMSem σ [x15]⟩) ⟨fun x16 σ =>
  @bnd (@wnP x9 false ⟨bin2Sem .gtr [x16, (.int .i64 0)]⟩) ⟨fun x17 =>
  @bnd (pickSem [x9, (.bool true), x17]) ⟨fun x18 =>
  @itK x18 ⟨retJ (resEx [(.int .i64 23)]) σ⟩ ⟨@bnd (nilchkSem [x0]) ⟨fun x19 =>
  @bnd (offSem 1 [x19]) ⟨fun x20 =>
  @bns (ldOSem σ none [x20]) ⟨fun x21 σ =>
  @bnd (fldSem 0 none [x7]) ⟨fun x22 =>
  @bns (lookSem false [.i .i64] .nilm false σ [x21, x22]) ⟨fun x23 σ =>
  @bnd (fldSem 1 none [x7]) ⟨fun x24 =>
  @bns (mdelSem false [.s] σ [x23, x24]) ⟨fun x25 σ =>
  @bnd (nilchkSem [x0]) ⟨fun x26 =>
  @bnd (offSem 1 [x26]) ⟨fun x27 =>
  @bns (ldOSem σ none [x27]) ⟨fun x28 σ =>
  @bns (mdelSem false [.i .i64] σ [x28, x1]) ⟨fun x29 σ =>
  @bnd (nilchkSem [x0]) ⟨fun x30 =>
  @bnd (offSem 0 [x30]) ⟨fun x31 =>
  @bns (ldOSem σ none [x31]) ⟨fun x32 σ =>
  @bns (mdelSem false [.i .i64] σ [x32, x1]) ⟨fun x33 σ =>
  retJ (resEx [(.int .i64 0)]) σ⟩⟩⟩⟩⟩⟩⟩⟩⟩⟩⟩⟩⟩⟩⟩⟩⟩⟩⟩⟩⟩⟩⟩⟩⟩⟩⟩⟩⟩⟩⟩⟩⟩⟩⟩
def D13 (C : CallP) (I : CallI) (n : Nat) (x0 : DVal) (σ : Sto) : Option Out :=
  @bns (callIS I 30 σ [x0]) ⟨fun x1 σ =>
  @bnd (unSem .not [x1]) ⟨fun x2 =>
  @itK x2 ⟨retJ (resEx [(.int .i64 0)]) σ⟩ ⟨@bnd (nilchkSem [x0]) ⟨fun x3 =>
  @bnd (offSem 0 [x3]) ⟨fun x4 =>
  @bns (ldOSem σ none [x4]) ⟨fun x5 σ =>
  @bns (lenMSem σ [x5]) ⟨fun x6 σ =>
  retJ (resEx [x6]) σ⟩⟩⟩⟩⟩⟩⟩
def D14 (C : CallP) (I : CallI) (n : Nat) (x0 : DVal) (σ : Sto) : Option Out :=
  @bnd (POp.sem C [(.int .i64 1), (.int .i64 2), x0] (.build [(.int .i64 0), (.int .i64 0), (.str []), (.int .i64 0), (.int .i64 0)] [(0, 1), (3, 1), (4, 1)])) ⟨fun x1 =>
  @bnd (POp.sem C [x1] (.bslice false 5)) ⟨fun x2 =>
  @bnd (POp.sem C [x2, (.int .i64 1)] (.build [.nils, (.int .i64 0)] [(0, 1), (1, 1)])) ⟨fun x3 =>
  @bnd (jwrSem 0 2 [(.agg [.nils, (.int .i64 0)]), x3]) ⟨fun x4 =>
  @bnd (fldSem 0 (some 2) [x4]) ⟨fun x5 =>
  retJ (resEx [x5]) σ⟩⟩⟩⟩⟩
def B15_0 (C : CallP) (I : CallI) (n : Nat) (x0 x2 : DVal) (x4 x5 x6 x7 : DVal) (σ : Sto) : Option Out :=
  @bnd (lenSlSem [x2]) ⟨fun x8 =>
  @bnd (bin2Sem .lss [x4, x8]) ⟨fun x9 =>
  @itK x9 ⟨@bnd (idxSSem 6 [x2, x4]) ⟨fun x10 =>
  @bnd (ldESem (some 6) [x10]) ⟨fun x11 =>
  @bnd (jwrSem 0 6 [(.agg [(.int .i64 0), (.int .i64 0), (.int .i64 0), (.int .i64 0), (.int .i64 0), (.str [])]), x11]) ⟨fun x12 =>
  @bnd (fldSem 0 none [x12]) ⟨fun x13 =>
  @bnd (bin2Sem .eql [x13, (.int .i64 0)]) ⟨fun x14 =>
  @itK x14 ⟨@bnd (fldSem 0 (some 2) [x7]) ⟨fun x15 =>
  @bnd (fldSem 2 none [x12]) ⟨fun x16 =>
  @bnd (fldSem 5 none [x12]) ⟨fun x17 =>
  @bnd (fldSem 3 none [x12]) ⟨fun x18 =>
  @bnd (fldSem 4 none [x12]) ⟨fun x19 =>
  @bnd (callPS C 34 [x15, x16, x17, x18, x19]) ⟨fun x20 =>
  @bnd (extSem 0 [x20]) ⟨fun x21 =>
  @bnd (extSem 1 [x20]) ⟨fun x22 =>
  @bnd (extSem 2 [x20]) ⟨fun x23 =>
  @bnd (jwrSem 0 2 [(.agg [.nils, (.int .i64 0)]), x21]) ⟨fun x24 =>
  @bnd (fldSem 2 none [x12]) ⟨fun x25 =>
  @bnd (fldSem 5 none [x12]) ⟨fun x26 =>
  @bnd (fldSem 3 none [x12]) ⟨fun x27 =>
  @bnd (fldSem 4 none [x12]) ⟨fun x28 =>
  @bns (callIS I 11 σ [x0, x25, x26, x27, x28]) ⟨fun x29 σ =>
  @bnd (extSem 0 [x29]) ⟨fun x30 =>
  @bnd (extSem 1 [x29]) ⟨fun x31 =>
  @bnd (bin2Sem .neq [x30, x22]) ⟨fun x32 =>
  @bnd (@wnP x32 false ⟨mvSem [x31]⟩) ⟨fun x33 =>
  @bnd (@wnP x32 false ⟨mvSem [x23]⟩) ⟨fun x34 =>
  @bnd (@wnP x32 false ⟨bin2Sem .neq [x33, x34]⟩) ⟨fun x35 =>
  @bnd (pickSem [x32, (.bool true), x35]) ⟨fun x36 =>
  @itK x36 ⟨@bnd (fldSem 0 (some 2) [x7]) ⟨fun x37 =>
  @bnd (jwrSem 0 2 [x6, x37]) ⟨fun x38 =>
  @bnd (fldSem 0 (some 2) [x38]) ⟨fun x39 =>
  retJ (resEx [x39, (.bool false)]) σ⟩⟩⟩⟩ ⟨@bnd (fldSem 0 (some 2) [x24]) ⟨fun x37 =>
  @bnd (jwrSem 0 2 [x7, x37]) ⟨fun x38 =>
  @bnd (bin2Sem .add [x4, (.int .i64 1)]) ⟨fun x39 =>
  some (.next 0 [x39, x5, x6, x38] σ)⟩⟩⟩⟩⟩⟩⟩⟩⟩⟩⟩⟩⟩⟩⟩⟩⟩⟩⟩⟩⟩⟩⟩⟩⟩⟩⟩ ⟨@bnd (bin2Sem .eql [x13, (.int .i64 1)]) ⟨fun x15 =>
  @itK x15 ⟨@bnd (fldSem 0 (some 2) [x7]) ⟨fun x16 =>
  @bnd (fldSem 1 none [x12]) ⟨fun x17 =>
  @bnd (callPS C 35 [x16, x17]) ⟨fun x18 =>
  @bnd (extSem 0 [x18]) ⟨fun x19 =>
  @bnd (extSem 1 [x18]) ⟨fun x20 =>
  @bnd (jwrSem 0 2 [(.agg [.nils, (.int .i64 0)]), x19]) ⟨fun x21 =>
  @bnd (fldSem 1 none [x12]) ⟨fun x22 =>
  @bns (callIS I 12 σ [x0, x22]) ⟨fun x23 σ =>
  @bnd (bin2Sem .neq [x23, x20]) ⟨fun x24 =>
  @itK x24 ⟨@bnd (fldSem 0 (some 2) [x7]) ⟨fun x25 =>
  @bnd (jwrSem 0 2 [x6, x25]) ⟨fun x26 =>
  @bnd (fldSem 0 (some 2) [x26]) ⟨fun x27 =>
  retJ (resEx [x27, (.bool false)]) σ⟩⟩⟩⟩ ⟨@bnd (fldSem 0 (some 2) [x21]) ⟨fun x25 =>
  @bnd (jwrSem 0 2 [x7, x25]) ⟨fun x26 =>
  @bnd (bin2Sem .add [x4, (.int .i64 1)]) ⟨fun x27 =>
  some (.next 0 [x27, x5, x6, x26] σ)⟩⟩⟩⟩⟩⟩⟩⟩⟩⟩⟩⟩⟩⟩ ⟨@bnd (fldSem 0 (some 2) [x7]) ⟨fun x16 =>
  @bnd (fldSem 1 none [x12]) ⟨fun x17 =>
  @bnd (fldSem 4 none [x12]) ⟨fun x18 =>
  @bnd (callPS C 36 [x16, x17, x18]) ⟨fun x19 =>
  @bnd (extSem 0 [x19]) ⟨fun x20 =>
  @bnd (extSem 1 [x19]) ⟨fun x21 =>
  @bnd (jwrSem 0 2 [(.agg [.nils, (.int .i64 0)]), x20]) ⟨fun x22 =>
  @bnd (fldSem 1 none [x12]) ⟨fun x23 =>
  @bnd (fldSem 4 none [x12]) ⟨fun x24 =>
  @bns (callIS I 29 σ [x0, x23, x24]) ⟨fun x25 σ =>
  @bnd (bin2Sem .neq [x25, x21]) ⟨fun x26 =>
  @itK x26 ⟨@bnd (fldSem 0 (some 2) [x7]) ⟨fun x27 =>
  @bnd (jwrSem 0 2 [x6, x27]) ⟨fun x28 =>
  @bnd (fldSem 0 (some 2) [x28]) ⟨fun x29 =>
  retJ (resEx [x29, (.bool false)]) σ⟩⟩⟩⟩ ⟨@bnd (fldSem 0 (some 2) [x22]) ⟨fun x27 =>
  @bnd (jwrSem 0 2 [x7, x27]) ⟨fun x28 =>
  @bnd (bin2Sem .add [x4, (.int .i64 1)]) ⟨fun x29 =>
  some (.next 0 [x29, x5, x6, x28] σ)⟩⟩⟩⟩⟩⟩⟩⟩⟩⟩⟩⟩⟩⟩⟩⟩⟩⟩⟩⟩⟩⟩⟩⟩ ⟨@bnd (fldSem 0 (some 2) [x7]) ⟨fun x10 =>
  @bnd (jwrSem 0 2 [x6, x10]) ⟨fun x11 =>
  @bnd (fldSem 0 (some 2) [x11]) ⟨fun x12 =>
  retJ (resEx [x12, (.bool true)]) σ⟩⟩⟩⟩⟩⟩
def L15_0 (C : CallP) (I : CallI) (n : Nat) (x0 x2 : DVal) (vs : List DVal) (σ : Sto) : Option Out := B15_0 C I n x0 x2 (vs.getD 0 .undef) (vs.getD 1 .undef) (vs.getD 2 .undef) (vs.getD 3 .undef) σ
def D15 (C : CallP) (I : CallI) (n : Nat) (x0 x1 x2 : DVal) (σ : Sto) : Option Out :=
  @bnd (jboxSem [x1]) ⟨fun x3 =>
  iterJ 0 (L15_0 C I n x0 x2) n [(.int .i64 0), (.bool false), (.agg [.nils, (.int .i64 0)]), x3] σ⟩
def B16_0 (C : CallP) (I : CallI) (n : Nat) (x0 x13 x14 : DVal) (x15 x16 x17 x18 : DVal) (σ : Sto) : Option Out :=
  @bnd (bin2Sem .lss [x15, x14]) ⟨fun x19 =>
  @itK x19 ⟨@bnd (idxSSem 1 [x13, x15]) ⟨fun x20 =>
  @bnd (ldESem none [x20]) ⟨fun x21 =>
  @bnd (nilchkSem [x0]) ⟨fun x22 =>
  @bnd (offSem 1 [x22]) ⟨fun x23 =>
  @bns (ldOSem σ none [x23]) ⟨fun x24 σ =>
  @bns (lookSem false [.i .i64] .nilm false σ [x24, x16]) ⟨fun x25 σ =>
  @bns (lookSem false [.s] (.int .i64 0) true σ [x25, x21]) ⟨fun x26 σ =>
  @bnd (extSem 0 [x26]) ⟨fun x27 =>
  @bnd (extSem 1 [x26]) ⟨fun x28 =>
  @bnd (unSem .not [x28]) ⟨fun x29 =>
  @itK x29 ⟨retJ (resEx [(.int .i64 0), (.bool false)]) σ⟩ ⟨@bnd (bin2Sem .add [x15, (.int .i64 1)]) ⟨fun x30 =>
  some (.next 0 [x30, x27, x17, x18] σ)⟩⟩⟩⟩⟩⟩⟩⟩⟩⟩⟩⟩⟩ ⟨retJ (resEx [x16, (.bool true)]) σ⟩⟩
def L16_0 (C : CallP) (I : CallI) (n : Nat) (x0 x13 x14 : DVal) (vs : List DVal) (σ : Sto) : Option Out := B16_0 C I n x0 x13 x14 (vs.getD 0 .undef) (vs.getD 1 .undef) (vs.getD 2 .undef) (vs.getD 3 .undef) σ
def D16 (C : CallP) (I : CallI) (n : Nat) (x0 x1 : DVal) (σ : Sto) : Option Out :=
  @bns (callIS I 30 σ [x0]) ⟨fun x2 σ =>
  @bnd (unSem .not [x2]) ⟨fun x3 =>
  @bnd (@wnP x3 false ⟨mvSem [x1]⟩) ⟨fun x4 =>
  @bnd (@wnP x3 false ⟨bin2Sem .eql [x4, (.str [])]⟩) ⟨fun x5 =>
  @bnd (pickSem [x3, (.bool true), x5]) ⟨fun x6 =>
  @bnd (@wnP x6 false ⟨mvSem [x1]⟩) ⟨fun x7 =>
  @bnd (@wnP x6 false ⟨idxStrSem [x7, (.int .i64 0)]⟩) ⟨fun x8 =>
  @bnd (@wnP x6 false ⟨bin2Sem .neq [x8, (.int .u8 47)]⟩) ⟨fun x9 =>
  @bnd (pickSem [x6, (.bool true), x9]) ⟨fun x10 =>
  @itK x10 ⟨retJ (resEx [(.int .i64 0), (.bool false)]) σ⟩ ⟨@bnd (bin2Sem .eql [x1, (.str [47])]) ⟨fun x11 =>
  @itK x11 ⟨retJ (resEx [(.int .i64 1), (.bool true)]) σ⟩ ⟨@bnd (slcSSem true false [x1, (.int .i64 1)]) ⟨fun x12 =>
  @bnd (callPS C 37 [x12, (.str [47])]) ⟨fun x13 =>
  @bnd (lenSlSem [x13]) ⟨fun x14 =>
  iterJ 0 (L16_0 C I n x0 x13 x14) n [(.int .i64 0), (.int .i64 1), (.bool false), (.int .i64 0)] σ⟩⟩⟩⟩⟩⟩⟩⟩⟩⟩⟩⟩⟩⟩⟩
def D18 (C : CallP) (I : CallI) (n : Nat) (x0 x1 : DVal) (σ : Sto) : Option Out :=
  @bns (callIS I 31 σ [x0, x1]) ⟨fun x2 σ =>
  @bnd (extSem 0 [x2]) ⟨fun x3 =>
  @bnd (extSem 1 [x2]) ⟨fun x4 =>
  @bnd (jwrSem 0 4 [(.agg [(.int .i64 0), (.str []), (.int .i64 0), (.int .i64 0)]), x3]) ⟨fun x5 =>
  @bnd (fldSem 2 none [x5]) ⟨fun x6 =>
  retJ (resEx [x6, x4]) σ⟩⟩⟩⟩⟩
def D19 (C : CallP) (I : CallI) (n : Nat) (x0 x1 : DVal) (σ : Sto) : Option Out :=
  @bnd (jboxSem [x0]) ⟨fun x2 =>
  @bnd (fldSem 0 (some 2) [x2]) ⟨fun x3 =>
  @bnd (callPS C 39 [x3, x1]) ⟨fun x4 =>
  @bnd (bin2Sem .lss [x4, (.int .i64 0)]) ⟨fun x5 =>
  @itK x5 ⟨retJ (resEx [(.int .i64 0), (.bool false)]) σ⟩ ⟨@bnd (fldSem 0 none [x2]) ⟨fun x6 =>
  @bnd (idxSSem 5 [x6, x4]) ⟨fun x7 =>
  @bnd (offSem 3 [x7]) ⟨fun x8 =>
  @bnd (ldESem none [x8]) ⟨fun x9 =>
  retJ (resEx [x9, (.bool true)]) σ⟩⟩⟩⟩⟩⟩⟩⟩⟩
def B20_0 (C : CallP) (I : CallI) (n : Nat) (x0 x1 : DVal) (x5 x6 : DVal) (σ : Sto) : Option Out :=
  @bnd (lenSlSem [x0]) ⟨fun x7 =>
  @bnd (bin2Sem .lss [x5, x7]) ⟨fun x8 =>
  @itK x8 ⟨@bnd (idxSSem 1 [x0, x5]) ⟨fun x9 =>
  @bnd (ldESem none [x9]) ⟨fun x10 =>
  @bnd (idxSSem 1 [x1, x5]) ⟨fun x11 =>
  @bnd (ldESem none [x11]) ⟨fun x12 =>
  @bnd (bin2Sem .neq [x10, x12]) ⟨fun x13 =>
  @itK x13 ⟨retJ (resEx [(.bool false)]) σ⟩ ⟨@bnd (bin2Sem .add [x5, (.int .i64 1)]) ⟨fun x14 =>
  some (.next 0 [x14, x6] σ)⟩⟩⟩⟩⟩⟩⟩⟩ ⟨retJ (resEx [(.bool true)]) σ⟩⟩⟩
def L20_0 (C : CallP) (I : CallI) (n : Nat) (x0 x1 : DVal) (vs : List DVal) (σ : Sto) : Option Out := B20_0 C I n x0 x1 (vs.getD 0 .undef) (vs.getD 1 .undef) σ
def D20 (C : CallP) (I : CallI) (n : Nat) (x0 x1 : DVal) (σ : Sto) : Option Out :=
  @bnd (lenSlSem [x0]) ⟨fun x2 =>
  @bnd (lenSlSem [x1]) ⟨fun x3 =>
  @bnd (bin2Sem .neq [x2, x3]) ⟨fun x4 =>
  @itK x4 ⟨retJ (resEx [(.bool false)]) σ⟩ ⟨iterJ 0 (L20_0 C I n x0 x1) n [(.int .i64 0), (.bool false)] σ⟩⟩⟩⟩
def B21_0 (C : CallP) (I : CallI) (n : Nat) (x0 x1 x9 x13 : DVal) (x14 x15 : DVal) (σ : Sto) : Option Out :=
  @bnd (bin2Sem .lss [x14, x13]) ⟨fun x16 =>
  @itK x16 ⟨@bnd (idxSSem 1 [x9, x14]) ⟨fun x17 =>
  @bns (ldOSem σ none [x17]) ⟨fun x18 σ =>
  @bnd (nilchkSem [x0]) ⟨fun x19 =>
  @bnd (offSem 1 [x19]) ⟨fun x20 =>
  @bns (ldOSem σ none [x20]) ⟨fun x21 σ =>
  @bns (lookSem false [.i .i64] .nilm false σ [x21, x1]) ⟨fun x22 σ =>
  @bns (lookSem false [.s] (.int .i64 0) false σ [x22, x18]) ⟨fun x23 σ =>
  @bnd (POp.sem C [x23] (.bslice false 1)) ⟨fun x24 =>
  @bns (app2Sem false 1 σ [x15, x24]) ⟨fun x25 σ =>
  @bnd (bin2Sem .add [x14, (.int .i64 1)]) ⟨fun x26 =>
  some (.next 1 [x26, x25] σ)⟩⟩⟩⟩⟩⟩⟩⟩⟩⟩⟩ ⟨retJ (resEx [x15]) σ⟩⟩
def L21_0 (C : CallP) (I : CallI) (n : Nat) (x0 x1 x9 x13 : DVal) (vs : List DVal) (σ : Sto) : Option Out := B21_0 C I n x0 x1 x9 x13 (vs.getD 0 .undef) (vs.getD 1 .undef) σ
def B21_1 (C : CallP) (I : CallI) (n : Nat) (x0 x1 x8 : DVal) (x9 : DVal) (σ : Sto) : Option Out :=
  @bns (nextMSem σ [x8]) ⟨fun x10 σ =>
  @bnd (extSem 0 [x10]) ⟨fun x11 =>
  @itK x11 ⟨@bns (entMSem σ [x8]) ⟨fun x12 σ =>
  @bnd (extSem 0 [x12]) ⟨fun x13 =>
  @bnd (POp.sem C [x13] (.bslice false 1)) ⟨fun x14 =>
  @bns (appXSem 1 σ [x9, x14]) ⟨fun x15 σ =>
  some (.next 0 [x15] σ)⟩⟩⟩⟩⟩ ⟨@bns (callIS I 40 σ [x9]) ⟨fun x12 σ =>
  @bnd (lenSlSem [x9]) ⟨fun x13 =>
  iterJ 1 (L21_0 C I n x0 x1 x9 x13) n [(.int .i64 0), .nils] σ⟩⟩⟩⟩⟩
def L21_1 (C : CallP) (I : CallI) (n : Nat) (x0 x1 x8 : DVal) (vs : List DVal) (σ : Sto) : Option Out := B21_1 C I n x0 x1 x8 (vs.getD 0 .undef) σ
def D21 (C : CallP) (I : CallI) (n : Nat) (x0 x1 : DVal) (σ : Sto) : Option Out :=
  @bns (callIS I 30 σ [x0]) ⟨fun x2 σ =>
  @bnd (unSem .not [x2]) ⟨fun x3 =>
  @itK x3 ⟨retJ (resEx [.nils]) σ⟩ ⟨@bnd (nilchkSem [x0]) ⟨fun x4 =>
  @bnd (offSem 1 [x4]) ⟨fun x5 =>
  @bns (ldOSem σ none [x5]) ⟨fun x6 σ =>
  @bns (lookSem false [.i .i64] .nilm false σ [x6, x1]) ⟨fun x7 σ =>
  @bns (rngMSem σ [x7]) ⟨fun x8 σ =>
  iterJ 0 (L21_1 C I n x0 x1 x8) n [.nils] σ⟩⟩⟩⟩⟩⟩⟩⟩
def B22_0 (C : CallP) (I : CallI) (n : Nat) (x3 x20 x23 : DVal) (x26 : DVal) (σ : Sto) : Option Out :=
  @bnd (bin2Sem .gtr [x26, (.int .i64 0)]) ⟨fun x27 =>
  @bnd (@wnP x27 true ⟨mvSem [x23]⟩) ⟨fun x28 =>
  @bnd (@wnP x27 true ⟨mvSem [x26]⟩) ⟨fun x29 =>
  @bnd (@wnP x27 true ⟨idxSSem 1 [x28, x29]⟩) ⟨fun x30 =>
  @bns (@wnS x27 true σ ⟨ldOSem σ none [x30]⟩) ⟨fun x31 σ =>
  @bnd (@wnP x27 true ⟨mvSem [x23]⟩) ⟨fun x32 =>
  @bnd (@wnP x27 true ⟨mvSem [x26]⟩) ⟨fun x33 =>
  @bnd (@wnP x27 true ⟨bin2Sem .sub [x33, (.int .i64 1)]⟩) ⟨fun x34 =>
  @bnd (@wnP x27 true ⟨idxSSem 1 [x32, x34]⟩) ⟨fun x35 =>
  @bns (@wnS x27 true σ ⟨ldOSem σ none [x35]⟩) ⟨fun x36 σ =>
  @bnd (@wnP x27 true ⟨bin2Sem .lss [x31, x36]⟩) ⟨fun x37 =>
  @bnd (pickSem [x27, x37, (.bool false)]) ⟨fun x38 =>
  @itK x38 ⟨@bnd (bin2Sem .sub [x26, (.int .i64 1)]) ⟨fun x39 =>
  @bnd (bin2Sem .sub [x26, (.int .i64 1)]) ⟨fun x40 =>
  @bnd (bin2Sem .sub [x26, (.int .i64 1)]) ⟨fun x41 =>
  @bnd (idxSSem 1 [x20, x41]) ⟨fun x42 =>
  @bns (ldOSem σ none [x42]) ⟨fun x43 σ =>
  @bnd (idxSSem 1 [x20, x26]) ⟨fun x44 =>
  @bns (ldOSem σ none [x44]) ⟨fun x45 σ =>
  @bnd (bin2Sem .sub [x26, (.int .i64 1)]) ⟨fun x46 =>
  @bnd (idxSSem 1 [x23, x46]) ⟨fun x47 =>
  @bns (ldOSem σ none [x47]) ⟨fun x48 σ =>
  @bnd (idxSSem 1 [x23, x26]) ⟨fun x49 =>
  @bns (ldOSem σ none [x49]) ⟨fun x50 σ =>
  @bnd (idxSSem 1 [x20, x26]) ⟨fun x51 =>
  @bns (stOSem σ 1 [x51, x43]) ⟨fun x52 σ =>
  @bnd (idxSSem 1 [x20, x39]) ⟨fun x53 =>
  @bns (stOSem σ 1 [x53, x45]) ⟨fun x54 σ =>
  @bnd (idxSSem 1 [x23, x26]) ⟨fun x55 =>
  @bns (stOSem σ 1 [x55, x48]) ⟨fun x56 σ =>
  @bnd (idxSSem 1 [x23, x40]) ⟨fun x57 =>
  @bns (stOSem σ 1 [x57, x50]) ⟨fun x58 σ =>
  @bnd (bin2Sem .sub [x26, (.int .i64 1)]) ⟨fun x59 =>
  some (.next 1 [x59] σ)⟩⟩⟩⟩⟩⟩⟩⟩⟩⟩⟩⟩⟩⟩⟩⟩⟩⟩⟩⟩⟩⟩ ⟨@bnd (bin2Sem .add [x3, (.int .i64 1)]) ⟨fun x39 =>
  some (.next 0 [x39, x23, x20] σ)⟩⟩⟩⟩⟩⟩⟩⟩⟩⟩⟩⟩⟩⟩
def L22_0 (C : CallP) (I : CallI) (n : Nat) (x3 x20 x23 : DVal) (vs : List DVal) (σ : Sto) : Option Out := B22_0 C I n x3 x20 x23 (vs.getD 0 .undef) σ
def B22_1 (C : CallP) (I : CallI) (n : Nat) (x1 x2 : DVal) (x3 x4 x5 : DVal) (σ : Sto) : Option Out :=
  @bnd (fldSem 0 none [x2]) ⟨fun x6 =>
  @bnd (lenSlSem [x6]) ⟨fun x7 =>
  @bnd (bin2Sem .lss [x3, x7]) ⟨fun x8 =>
  @itK x8 ⟨@bnd (fldSem 0 none [x2]) ⟨fun x9 =>
  @bnd (idxSSem 5 [x9, x3]) ⟨fun x10 =>
  @bns (ldOSem σ (some 5) [x10]) ⟨fun x11 σ =>
  @bnd (jwrSem 0 5 [(.agg [(.int .i64 0), (.int .i64 0), (.str []), (.int .i64 0), (.int .i64 0)]), x11]) ⟨fun x12 =>
  @bnd (fldSem 1 none [x12]) ⟨fun x13 =>
  @bnd (bin2Sem .neq [x13, x1]) ⟨fun x14 =>
  @bnd (@wnP x14 false ⟨fldSem 0 none [x12]⟩) ⟨fun x15 =>
  @bnd (@wnP x14 false ⟨bin2Sem .eql [x15, (.int .i64 1)]⟩) ⟨fun x16 =>
  @bnd (pickSem [x14, (.bool true), x16]) ⟨fun x17 =>
  @itK x17 ⟨@bnd (bin2Sem .add [x3, (.int .i64 1)]) ⟨fun x18 =>
  some (.next 0 [x18, x4, x5] σ)⟩⟩ ⟨@bnd (fldSem 0 none [x12]) ⟨fun x18 =>
  @bnd (POp.sem C [x18] (.bslice false 1)) ⟨fun x19 =>
  @bns (appXSem 1 σ [x5, x19]) ⟨fun x20 σ =>
  @bnd (fldSem 2 none [x12]) ⟨fun x21 =>
  @bnd (POp.sem C [x21] (.bslice false 1)) ⟨fun x22 =>
  @bns (appXSem 1 σ [x4, x22]) ⟨fun x23 σ =>
  @bnd (lenSlSem [x20]) ⟨fun x24 =>
  @bnd (bin2Sem .sub [x24, (.int .i64 1)]) ⟨fun x25 =>
  iterJ 1 (L22_0 C I n x3 x20 x23) n [x25] σ⟩⟩⟩⟩⟩⟩⟩⟩⟩⟩⟩⟩⟩⟩⟩⟩⟩⟩⟩ ⟨retJ (resEx [x5]) σ⟩⟩⟩⟩
def L22_1 (C : CallP) (I : CallI) (n : Nat) (x1 x2 : DVal) (vs : List DVal) (σ : Sto) : Option Out := B22_1 C I n x1 x2 (vs.getD 0 .undef) (vs.getD 1 .undef) (vs.getD 2 .undef) σ
def D22 (C : CallP) (I : CallI) (n : Nat) (x0 x1 : DVal) (σ : Sto) : Option Out :=
  @bnd (jboxSem [x0]) ⟨fun x2 =>
  iterJ 0 (L22_1 C I n x1 x2) n [(.int .i64 0), .nils, .nils] σ⟩
def D24 (C : CallP) (I : CallI) (n : Nat) (x0 x1 : DVal) (σ : Sto) : Option Out :=
  @bns (callIS I 31 σ [x0, x1]) ⟨fun x2 σ =>
  @bnd (extSem 0 [x2]) ⟨fun x3 =>
  @bnd (extSem 1 [x2]) ⟨fun x4 =>
  @bnd (jwrSem 0 4 [(.agg [(.int .i64 0), (.str []), (.int .i64 0), (.int .i64 0)]), x3]) ⟨fun x5 =>
  @bnd (fldSem 0 none [x5]) ⟨fun x6 =>
  retJ (resEx [x6, x4]) σ⟩⟩⟩⟩⟩
def D25 (C : CallP) (I : CallI) (n : Nat) (x0 x1 : DVal) (σ : Sto) : Option Out :=
  @bns (callIS I 31 σ [x0, x1]) ⟨fun x2 σ =>
  @bnd (extSem 0 [x2]) ⟨fun x3 =>
  @bnd (extSem 1 [x2]) ⟨fun x4 =>
  @bnd (jwrSem 0 4 [(.agg [(.int .i64 0), (.str []), (.int .i64 0), (.int .i64 0)]), x3]) ⟨fun x5 =>
  @bnd (unSem .not [x4]) ⟨fun x6 =>
  @itK x6 ⟨retJ (resEx [(.str []), (.bool false)]) σ⟩ ⟨@bnd (bin2Sem .eql [x1, (.int .i64 1)]) ⟨fun x7 =>
  @itK x7 ⟨retJ (resEx [(.str [47]), (.bool true)]) σ⟩ ⟨@bns (callIS I 33 σ [x0, x1]) ⟨fun x8 σ =>
  retJ (resEx [x8, (.bool true)]) σ⟩⟩⟩⟩⟩⟩⟩⟩⟩
def B26_0 (C : CallP) (I : CallI) (n : Nat) (x0 x2 x21 : DVal) (x22 x23 : DVal) (σ : Sto) : Option Out :=
  @bnd (lenSlSem [x21]) ⟨fun x24 =>
  @bnd (bin2Sem .lss [x22, x24]) ⟨fun x25 =>
  @itK x25 ⟨@bnd (idxSSem 1 [x21, x22]) ⟨fun x26 =>
  @bnd (ldESem none [x26]) ⟨fun x27 =>
  @bns (callIS I 25 σ [x0, x27]) ⟨fun x28 σ =>
  @bnd (extSem 0 [x28]) ⟨fun x29 =>
  @bnd (extSem 1 [x28]) ⟨fun x30 =>
  @bnd (fldSem 0 (some 2) [x2]) ⟨fun x31 =>
  @bnd (callPS C 38 [x31, x27]) ⟨fun x32 =>
  @bnd (extSem 0 [x32]) ⟨fun x33 =>
  @bnd (extSem 1 [x32]) ⟨fun x34 =>
  @bns (callIS I 18 σ [x0, x27]) ⟨fun x35 σ =>
  @bnd (extSem 0 [x35]) ⟨fun x36 =>
  @bnd (extSem 1 [x35]) ⟨fun x37 =>
  @bnd (fldSem 0 (some 2) [x2]) ⟨fun x38 =>
  @bnd (callPS C 19 [x38, x27]) ⟨fun x39 =>
  @bnd (extSem 0 [x39]) ⟨fun x40 =>
  @bnd (extSem 1 [x39]) ⟨fun x41 =>
  @bns (callIS I 28 σ [x0, x27]) ⟨fun x42 σ =>
  @bnd (extSem 0 [x42]) ⟨fun x43 =>
  @bnd (extSem 1 [x42]) ⟨fun x44 =>
  @bnd (fldSem 0 (some 2) [x2]) ⟨fun x45 =>
  @bnd (callPS C 43 [x45, x27]) ⟨fun x46 =>
  @bnd (extSem 0 [x46]) ⟨fun x47 =>
  @bnd (extSem 1 [x46]) ⟨fun x48 =>
  @bns (callIS I 24 σ [x0, x27]) ⟨fun x49 σ =>
  @bnd (extSem 0 [x49]) ⟨fun x50 =>
  @bnd (extSem 1 [x49]) ⟨fun x51 =>
  @bnd (fldSem 0 (some 2) [x2]) ⟨fun x52 =>
  @bnd (callPS C 44 [x52, x27]) ⟨fun x53 =>
  @bnd (extSem 0 [x53]) ⟨fun x54 =>
  @bnd (extSem 1 [x53]) ⟨fun x55 =>
  @bnd (bin2Sem .neq [x29, x33]) ⟨fun x56 =>
  @bnd (@wnP x56 false ⟨mvSem [x30]⟩) ⟨fun x57 =>
  @bnd (@wnP x56 false ⟨mvSem [x34]⟩) ⟨fun x58 =>
  @bnd (@wnP x56 false ⟨eqbSem true [x57, x58]⟩) ⟨fun x59 =>
  @bnd (pickSem [x56, (.bool true), x59]) ⟨fun x60 =>
  @bnd (@wnP x60 false ⟨mvSem [x36]⟩) ⟨fun x61 =>
  @bnd (@wnP x60 false ⟨mvSem [x40]⟩) ⟨fun x62 =>
  @bnd (@wnP x60 false ⟨bin2Sem .neq [x61, x62]⟩) ⟨fun x63 =>
  @bnd (pickSem [x60, (.bool true), x63]) ⟨fun x64 =>
  @bnd (@wnP x64 false ⟨mvSem [x37]⟩) ⟨fun x65 =>
  @bnd (@wnP x64 false ⟨mvSem [x41]⟩) ⟨fun x66 =>
  @bnd (@wnP x64 false ⟨eqbSem true [x65, x66]⟩) ⟨fun x67 =>
  @bnd (pickSem [x64, (.bool true), x67]) ⟨fun x68 =>
  @bnd (@wnP x68 false ⟨mvSem [x43]⟩) ⟨fun x69 =>
  @bnd (@wnP x68 false ⟨mvSem [x47]⟩) ⟨fun x70 =>
  @bnd (@wnP x68 false ⟨bin2Sem .neq [x69, x70]⟩) ⟨fun x71 =>
  @bnd (pickSem [x68, (.bool true), x71]) ⟨fun x72 =>
  @bnd (@wnP x72 false ⟨mvSem [x44]⟩) ⟨fun x73 =>
  @bnd (@wnP x72 false ⟨mvSem [x48]⟩) ⟨fun x74 =>
  @bnd (@wnP x72 false ⟨eqbSem true [x73, x74]⟩) ⟨fun x75 =>
  @bnd (pickSem [x72, (.bool true), x75]) ⟨fun x76 =>
  @bnd (@wnP x76 false ⟨mvSem [x50]⟩) ⟨fun x77 =>
  @bnd (@wnP x76 false ⟨mvSem [x54]⟩) ⟨fun x78 =>
  @bnd (@wnP x76 false ⟨bin2Sem .neq [x77, x78]⟩) ⟨fun x79 =>
  @bnd (pickSem [x76, (.bool true), x79]) ⟨fun x80 =>
  @bnd (@wnP x80 false ⟨mvSem [x51]⟩) ⟨fun x81 =>
  @bnd (@wnP x80 false ⟨mvSem [x55]⟩) ⟨fun x82 =>
  @bnd (@wnP x80 false ⟨eqbSem true [x81, x82]⟩) ⟨fun x83 =>
  @bnd (pickSem [x80, (.bool true), x83]) ⟨fun x84 =>
  @bnd (@wnP x84 false ⟨mvSem [x0]⟩) ⟨fun x85 =>
  @bnd (@wnP x84 false ⟨mvSem [x27]⟩) ⟨fun x86 =>
  @bns (@wnS x84 false σ ⟨callIS I 21 σ [x85, x86]⟩) ⟨fun x87 σ =>
  @bnd (@wnP x84 false ⟨fldSem 0 (some 2) [x2]⟩) ⟨fun x88 =>
  @bnd (@wnP x84 false ⟨mvSem [x27]⟩) ⟨fun x89 =>
  @bnd (@wnP x84 false ⟨callPS C 22 [x88, x89]⟩) ⟨fun x90 =>
  @bnd (@wnP x84 false ⟨callPS C 20 [x87, x90]⟩) ⟨fun x91 =>
  @bnd (@wnP x84 false ⟨unSem .not [x91]⟩) ⟨fun x92 =>
  @bnd (pickSem [x84, (.bool true), x92]) ⟨fun x93 =>
  @itK x93 ⟨retJ (resEx [(.bool false)]) σ⟩ ⟨@bns (callIS I 16 σ [x0, x33]) ⟨fun x94 σ =>
  @bnd (extSem 0 [x94]) ⟨fun x95 =>
  @bnd (extSem 1 [x94]) ⟨fun x96 =>
  @bnd (@wnP x34 true ⟨mvSem [x95]⟩) ⟨fun x97 =>
  @bnd (@wnP x34 true ⟨mvSem [x27]⟩) ⟨fun x98 =>
  @bnd (@wnP x34 true ⟨bin2Sem .neq [x97, x98]⟩) ⟨fun x99 =>
  @bnd (@wnP x34 true ⟨mvSem [x99]⟩) ⟨fun x100 =>
  @bnd (@wnP x100 false ⟨mvSem [x96]⟩) ⟨fun x101 =>
  @bnd (@wnP x100 false ⟨unSem .not [x101]⟩) ⟨fun x102 =>
  @bnd (@wnP x34 true ⟨pickSem [x100, (.bool true), x102]⟩) ⟨fun x103 =>
  @bnd (pickSem [x34, x103, (.bool false)]) ⟨fun x104 =>
  @itK x104 ⟨retJ (resEx [(.bool false)]) σ⟩ ⟨@bnd (bin2Sem .add [x22, (.int .i64 1)]) ⟨fun x105 =>
  some (.next 0 [x105, x23] σ)⟩⟩⟩⟩⟩⟩⟩⟩⟩⟩⟩⟩⟩⟩⟩⟩⟩⟩⟩⟩⟩⟩⟩⟩⟩⟩⟩⟩⟩⟩⟩⟩⟩⟩⟩⟩⟩⟩⟩⟩⟩⟩⟩⟩⟩⟩⟩⟩⟩⟩⟩⟩⟩⟩⟩⟩⟩⟩⟩⟩⟩⟩⟩⟩⟩⟩⟩⟩⟩⟩⟩⟩⟩⟩⟩⟩⟩⟩⟩⟩⟩⟩⟩ ⟨retJ (resEx [(.bool true)]) σ⟩⟩⟩
def L26_0 (C : CallP) (I : CallI) (n : Nat) (x0 x2 x21 : DVal) (vs : List DVal) (σ : Sto) : Option Out := B26_0 C I n x0 x2 x21 (vs.getD 0 .undef) (vs.getD 1 .undef) σ
def D26 (C : CallP) (I : CallI) (n : Nat) (x0 x1 : DVal) (σ : Sto) : Option Out :=
  @bnd (jboxSem [x1]) ⟨fun x2 =>
  @bnd (fldSem 0 (some 2) [x2]) ⟨fun x3 =>
  @bnd (callPS C 42 [x3]) ⟨fun x4 =>
  @bnd (isnilSem 1 false [x0]) ⟨fun x5 =>
  @bnd (@wnP x5 false ⟨mvSem [x0]⟩) ⟨fun x6 =>
  @bns (@wnS x5 false σ ⟨callIS I 13 σ [x6]⟩) ⟨fun x7 σ =>
  @bnd (@wnP x5 false ⟨fldSem 0 none [x2]⟩) ⟨fun x8 =>
  @bnd (@wnP x5 false ⟨lenSlSem [x8]⟩) ⟨fun x9 =>
  @bnd (@wnP x5 false ⟨bin2Sem .neq [x7, x9]⟩) ⟨fun x10 =>
  @bnd (pickSem [x5, (.bool true), x10]) ⟨fun x11 =>
  @bnd (@wnP x11 false ⟨mvSem [x0]⟩) ⟨fun x12 =>
  @bns (@wnS x11 false σ ⟨callIS I 23 σ [x12]⟩) ⟨fun x13 σ =>
  @bnd (@wnP x11 false ⟨mvSem [x4]⟩) ⟨fun x14 =>
  @bnd (@wnP x11 false ⟨callPS C 20 [x13, x14]⟩) ⟨fun x15 =>
  @bnd (@wnP x11 false ⟨unSem .not [x15]⟩) ⟨fun x16 =>
  @bnd (pickSem [x11, (.bool true), x16]) ⟨fun x17 =>
  @itK x17 ⟨retJ (resEx [(.bool false)]) σ⟩ ⟨@bnd (fldSem 1 none [x2]) ⟨fun x18 =>
  @bnd (bin2Sem .add [x18, (.int .i64 1)]) ⟨fun x19 =>
  @bnd (POp.sem C [(.int .i64 (-1)), (.int .i64 0), x19] (.bslice false 1)) ⟨fun x20 =>
  @bns (app2Sem false 1 σ [x20, x4]) ⟨fun x21 σ =>
  iterJ 0 (L26_0 C I n x0 x2 x21) n [(.int .i64 0), (.bool false)] σ⟩⟩⟩⟩⟩⟩⟩⟩⟩⟩⟩⟩⟩⟩⟩⟩⟩⟩⟩⟩⟩
def D28 (C : CallP) (I : CallI) (n : Nat) (x0 x1 : DVal) (σ : Sto) : Option Out :=
  @bns (callIS I 31 σ [x0, x1]) ⟨fun x2 σ =>
  @bnd (extSem 0 [x2]) ⟨fun x3 =>
  @bnd (extSem 1 [x2]) ⟨fun x4 =>
  @bnd (jwrSem 0 4 [(.agg [(.int .i64 0), (.str []), (.int .i64 0), (.int .i64 0)]), x3]) ⟨fun x5 =>
  @bnd (fldSem 3 none [x5]) ⟨fun x6 =>
  retJ (resEx [x6, x4]) σ⟩⟩⟩⟩⟩
def D29 (C : CallP) (I : CallI) (n : Nat) (x0 x1 x2 : DVal) (σ : Sto) : Option Out :=
  @bns (callIS I 30 σ [x0]) ⟨fun x3 σ =>
  @bnd (unSem .not [x3]) ⟨fun x4 =>
  @itK x4 ⟨retJ (resEx [(.int .i64 1)]) σ⟩ ⟨@bns (callIS I 31 σ [x0, x1]) ⟨fun x5 σ =>
  @bnd (extSem 0 [x5]) ⟨fun x6 =>
  @bnd (extSem 1 [x5]) ⟨fun x7 =>
  @bnd (jwrSem 0 4 [(.agg [(.int .i64 0), (.str []), (.int .i64 0), (.int .i64 0)]), x6]) ⟨fun x8 =>
  @bnd (unSem .not [x7]) ⟨fun x9 =>
  @itK x9 ⟨retJ (resEx [(.int .i64 11)]) σ⟩ ⟨@bnd (jwrSem 3 1 [x8, x2]) ⟨fun x10 =>
  @bnd (nilchkSem [x0]) ⟨fun x11 =>
  @bnd (offSem 0 [x11]) ⟨fun x12 =>
  @bns (ldOSem σ none [x12]) ⟨fun x13 σ =>
  @bnd (fldSem 0 (some 4) [x10]) ⟨fun x14 =>
  @bns (mupdSem false [.i .i64] σ [x13, x1, x14]) ⟨fun x15 σ =>
  retJ (resEx [(.int .i64 0)]) σ⟩⟩⟩⟩⟩⟩⟩⟩⟩⟩⟩⟩⟩⟩⟩
def D30 (C : CallP) (I : CallI) (n : Nat) (x0 : DVal) (σ : Sto) : Option Out :=
  @bnd (isnilSem 1 true [x0]) ⟨fun x1 =>
  @bnd (@wnP x1 true ⟨mvSem [x0]⟩) ⟨fun x2 =>
  @bnd (@wnP x1 true ⟨nilchkSem [x2]⟩) ⟨fun x3 =>
  @bnd (@wnP x1 true ⟨offSem 0 [x3]⟩) ⟨fun x4 =>
  @bns (@wnS x1 true σ ⟨ldOSem σ none [x4]⟩) ⟨fun x5 σ =>
  @bnd (@wnP x1 true ⟨isnilSem 2 true [x5]⟩) ⟨fun x6 =>
  @bnd (pickSem [x1, x6, (.bool false)]) ⟨fun x7 =>
  retJ (resEx [x7]) σ⟩⟩⟩⟩⟩⟩⟩
def D31 (C : CallP) (I : CallI) (n : Nat) (x0 x1 : DVal) (σ : Sto) : Option Out :=
  @bns (callIS I 30 σ [x0]) ⟨fun x2 σ =>
  @bnd (unSem .not [x2]) ⟨fun x3 =>
  @itK x3 ⟨@bnd (POp.sem C [] (.build [(.int .i64 0), (.str []), (.int .i64 0), (.int .i64 0)] [])) ⟨fun x4 =>
  @bnd (jwrSem 0 4 [(.agg [(.int .i64 0), (.str []), (.int .i64 0), (.int .i64 0)]), x4]) ⟨fun x5 =>
  @bnd (fldSem 0 (some 4) [x5]) ⟨fun x6 =>
  retJ (resEx [x6, (.bool false)]) σ⟩⟩⟩⟩ ⟨@bnd (nilchkSem [x0]) ⟨fun x4 =>
  @bnd (offSem 0 [x4]) ⟨fun x5 =>
  @bns (ldOSem σ none [x5]) ⟨fun x6 σ =>
  @bns (lookSem false [.i .i64] (.agg [(.int .i64 0), (.str []), (.int .i64 0), (.int .i64 0)]) true σ [x6, x1]) ⟨fun x7 σ =>
  @bnd (extSem 0 [x7]) ⟨fun x8 =>
  @bnd (extSem 1 [x7]) ⟨fun x9 =>
  @bnd (jwrSem 0 4 [(.agg [(.int .i64 0), (.str []), (.int .i64 0), (.int .i64 0)]), x8]) ⟨fun x10 =>
  @bnd (fldSem 0 (some 4) [x10]) ⟨fun x11 =>
  @bnd (jwrSem 0 4 [(.agg [(.int .i64 0), (.str []), (.int .i64 0), (.int .i64 0)]), x11]) ⟨fun x12 =>
  @bnd (fldSem 0 (some 4) [x12]) ⟨fun x13 =>
  retJ (resEx [x13, x9]) σ⟩⟩⟩⟩⟩⟩⟩⟩⟩⟩⟩⟩⟩
def D32 (C : CallP) (I : CallI) (n : Nat) (x0 : DVal) (σ : Sto) : Option Out :=
  @bnd (bin2Sem .neq [x0, (.str [])]) ⟨fun x1 =>
  @bnd (@wnP x1 true ⟨mvSem [x0]⟩) ⟨fun x2 =>
  @bnd (@wnP x1 true ⟨lenStrSem [x2]⟩) ⟨fun x3 =>
  @bnd (@wnP x1 true ⟨bin2Sem .leq [x3, (.int .i64 32)]⟩) ⟨fun x4 =>
  @bnd (pickSem [x1, x4, (.bool false)]) ⟨fun x5 =>
  @bnd (@wnP x5 true ⟨mvSem [x0]⟩) ⟨fun x6 =>
  @bnd (@wnP x5 true ⟨callPS C 47 [x6, (.int .u8 47)]⟩) ⟨fun x7 =>
  @bnd (@wnP x5 true ⟨bin2Sem .lss [x7, (.int .i64 0)]⟩) ⟨fun x8 =>
  @bnd (pickSem [x5, x8, (.bool false)]) ⟨fun x9 =>
  @bnd (@wnP x9 true ⟨mvSem [x0]⟩) ⟨fun x10 =>
  @bnd (@wnP x9 true ⟨bin2Sem .add [(.str [47]), x10]⟩) ⟨fun x11 =>
  @bnd (@wnP x9 true ⟨callPS C 48 [x11]⟩) ⟨fun x12 =>
  @bnd (@wnP x9 true ⟨bin2Sem .eql [x12, (.int .i64 0)]⟩) ⟨fun x13 =>
  @bnd (pickSem [x9, x13, (.bool false)]) ⟨fun x14 =>
  retJ (resEx [x14]) σ⟩⟩⟩⟩⟩⟩⟩⟩⟩⟩⟩⟩⟩⟩
def B33_0 (C : CallP) (I : CallI) (n : Nat) (x0 : DVal) (x2 x3 : DVal) (σ : Sto) : Option Out :=
  @bnd (bin2Sem .neq [x3, (.int .i64 1)]) ⟨fun x4 =>
  @itK x4 ⟨@bnd (nilchkSem [x0]) ⟨fun x5 =>
  @bnd (offSem 0 [x5]) ⟨fun x6 =>
  @bns (ldOSem σ none [x6]) ⟨fun x7 σ =>
  @bns (lookSem false [.i .i64] (.agg [(.int .i64 0), (.str []), (.int .i64 0), (.int .i64 0)]) false σ [x7, x3]) ⟨fun x8 σ =>
  @bnd (jwrSem 0 4 [(.agg [(.int .i64 0), (.str []), (.int .i64 0), (.int .i64 0)]), x8]) ⟨fun x9 =>
  @bnd (fldSem 1 none [x9]) ⟨fun x10 =>
  @bnd (bin2Sem .add [(.str [47]), x10]) ⟨fun x11 =>
  @bnd (bin2Sem .add [x11, x2]) ⟨fun x12 =>
  @bnd (fldSem 0 none [x9]) ⟨fun x13 =>
  some (.next 0 [x12, x13] σ)⟩⟩⟩⟩⟩⟩⟩⟩⟩⟩ ⟨retJ (resEx [x2]) σ⟩⟩
def L33_0 (C : CallP) (I : CallI) (n : Nat) (x0 : DVal) (vs : List DVal) (σ : Sto) : Option Out := B33_0 C I n x0 (vs.getD 0 .undef) (vs.getD 1 .undef) σ
def D33 (C : CallP) (I : CallI) (n : Nat) (x0 x1 : DVal) (σ : Sto) : Option Out :=
  iterJ 0 (L33_0 C I n x0) n [(.str []), x1] σ
def D34 (C : CallP) (I : CallI) (n : Nat) (x0 x1 x2 x3 x4 : DVal) (σ : Sto) : Option Out :=
  @bnd (jboxSem [x0]) ⟨fun x5 =>
  @bnd (fldSem 0 (some 2) [x5]) ⟨fun x6 =>
  @bnd (callPS C 39 [x6, x1]) ⟨fun x7 =>
  @bnd (bin2Sem .lss [x7, (.int .i64 0)]) ⟨fun x8 =>
  @itK x8 ⟨@bnd (fldSem 0 (some 2) [x5]) ⟨fun x9 =>
  @bnd (jwrSem 0 2 [(.agg [.nils, (.int .i64 0)]), x9]) ⟨fun x10 =>
  @bnd (fldSem 0 (some 2) [x10]) ⟨fun x11 =>
  retJ (resEx [x11, (.int .i64 0), (.int .i64 11)]) σ⟩⟩⟩⟩ ⟨@bnd (fldSem 0 none [x5]) ⟨fun x9 =>
  @bnd (idxSSem 5 [x9, x7]) ⟨fun x10 =>
  @bnd (offSem 3 [x10]) ⟨fun x11 =>
  @bnd (ldESem none [x11]) ⟨fun x12 =>
  @bnd (bin2Sem .neq [x12, (.int .i64 2)]) ⟨fun x13 =>
  @itK x13 ⟨@bnd (fldSem 0 (some 2) [x5]) ⟨fun x14 =>
  @bnd (jwrSem 0 2 [(.agg [.nils, (.int .i64 0)]), x14]) ⟨fun x15 =>
  @bnd (fldSem 0 (some 2) [x15]) ⟨fun x16 =>
  retJ (resEx [x16, (.int .i64 0), (.int .i64 13)]) σ⟩⟩⟩⟩ ⟨@bnd (bin2Sem .lss [x3, (.int .i64 1)]) ⟨fun x14 =>
  @bnd (@wnP x14 false ⟨mvSem [x3]⟩) ⟨fun x15 =>
  @bnd (@wnP x14 false ⟨bin2Sem .gtr [x15, (.int .i64 4)]⟩) ⟨fun x16 =>
  @bnd (pickSem [x14, (.bool true), x16]) ⟨fun x17 =>
  @itK x17 ⟨@bnd (fldSem 0 (some 2) [x5]) ⟨fun x18 =>
  @bnd (jwrSem 0 2 [(.agg [.nils, (.int .i64 0)]), x18]) ⟨fun x19 =>
  @bnd (fldSem 0 (some 2) [x19]) ⟨fun x20 =>
  retJ (resEx [x20, (.int .i64 0), (.int .i64 2)]) σ⟩⟩⟩⟩ ⟨@bnd (callPS C 49 [x2]) ⟨fun x18 =>
  @bnd (unSem .not [x18]) ⟨fun x19 =>
  @itK x19 ⟨@bnd (fldSem 0 (some 2) [x5]) ⟨fun x20 =>
  @bnd (jwrSem 0 2 [(.agg [.nils, (.int .i64 0)]), x20]) ⟨fun x21 =>
  @bnd (fldSem 0 (some 2) [x21]) ⟨fun x22 =>
  retJ (resEx [x22, (.int .i64 0), (.int .i64 10)]) σ⟩⟩⟩⟩ ⟨@bnd (fldSem 0 (some 2) [x5]) ⟨fun x20 =>
  @bnd (callPS C 50 [x20, x1, x2]) ⟨fun x21 =>
  @bnd (bin2Sem .neq [x21, (.int .i64 0)]) ⟨fun x22 =>
  @itK x22 ⟨@bnd (fldSem 0 (some 2) [x5]) ⟨fun x23 =>
  @bnd (jwrSem 0 2 [(.agg [.nils, (.int .i64 0)]), x23]) ⟨fun x24 =>
  @bnd (fldSem 0 (some 2) [x24]) ⟨fun x25 =>
  retJ (resEx [x25, (.int .i64 0), (.int .i64 12)]) σ⟩⟩⟩⟩ ⟨@bnd (fldSem 0 (some 2) [x5]) ⟨fun x23 =>
  @bnd (callPS C 38 [x23, x1]) ⟨fun x24 =>
  @bnd (extSem 0 [x24]) ⟨fun x25 =>
  @bnd (extSem 1 [x24]) ⟨fun x26 =>
  @bnd (lenStrSem [x25]) ⟨fun x27 =>
  @bnd (lenStrSem [x2]) ⟨fun x28 =>
  @bnd (bin2Sem .add [x27, x28]) ⟨fun x29 =>
  @bnd (bin2Sem .gtr [x29, (.int .i64 256)]) ⟨fun x30 =>
  @bnd (@wnP x30 false ⟨mvSem [x25]⟩) ⟨fun x31 =>
  @bnd (@wnP x30 false ⟨bin2Sem .neq [x31, (.str [47])]⟩) ⟨fun x32 =>
  @bnd (@wnP x30 false ⟨mvSem [x32]⟩) ⟨fun x33 =>
  @bnd (@wnP x33 true ⟨mvSem [x25]⟩) ⟨fun x34 =>
  @bnd (@wnP x33 true ⟨lenStrSem [x34]⟩) ⟨fun x35 =>
  @bnd (@wnP x33 true ⟨bin2Sem .add [x35, (.int .i64 1)]⟩) ⟨fun x36 =>
  @bnd (@wnP x33 true ⟨mvSem [x2]⟩) ⟨fun x37 =>
  @bnd (@wnP x33 true ⟨lenStrSem [x37]⟩) ⟨fun x38 =>
  @bnd (@wnP x33 true ⟨bin2Sem .add [x36, x38]⟩) ⟨fun x39 =>
  @bnd (@wnP x33 true ⟨bin2Sem .gtr [x39, (.int .i64 256)]⟩) ⟨fun x40 =>
  @bnd (@wnP x30 false ⟨pickSem [x33, x40, (.bool false)]⟩) ⟨fun x41 =>
  @bnd (pickSem [x30, (.bool true), x41]) ⟨fun x42 =>
  @itK x42 ⟨@bnd (fldSem 0 (some 2) [x5]) ⟨fun x43 =>
  @bnd (jwrSem 0 2 [(.agg [.nils, (.int .i64 0)]), x43]) ⟨fun x44 =>
  @bnd (fldSem 0 (some 2) [x44]) ⟨fun x45 =>
  retJ (resEx [x45, (.int .i64 0), (.int .i64 4)]) σ⟩⟩⟩⟩ ⟨@bnd (fldSem 0 none [x5]) ⟨fun x43 =>
  @bnd (lenSlSem [x43]) ⟨fun x44 =>
  @bnd (bin2Sem .geq [x44, (.int .i64 256)]) ⟨fun x45 =>
  @itK x45 ⟨@bnd (fldSem 0 (some 2) [x5]) ⟨fun x46 =>
  @bnd (jwrSem 0 2 [(.agg [.nils, (.int .i64 0)]), x46]) ⟨fun x47 =>
  @bnd (fldSem 0 (some 2) [x47]) ⟨fun x48 =>
  retJ (resEx [x48, (.int .i64 0), (.int .i64 25)]) σ⟩⟩⟩⟩ ⟨@bnd (fldSem 1 none [x5]) ⟨fun x46 =>
  @bnd (bin2Sem .add [x46, (.int .i64 1)]) ⟨fun x47 =>
  @bnd (POp.sem C [x47] (.build [.nils, (.int .i64 0)] [(1, 1)])) ⟨fun x48 =>
  @bnd (jwrSem 0 2 [(.agg [.nils, (.int .i64 0)]), x48]) ⟨fun x49 =>
  @bnd (POp.sem C [] (.bslice false 5)) ⟨fun x50 =>
  @bnd (fldSem 0 none [x5]) ⟨fun x51 =>
  @bns (app2Sem false 5 σ [x50, x51]) ⟨fun x52 σ =>
  @bnd (fldSem 1 none [x49]) ⟨fun x53 =>
  @bnd (POp.sem C [x53, x1, x2, x3, x4] (.build [(.int .i64 0), (.int .i64 0), (.str []), (.int .i64 0), (.int .i64 0)] [(0, 1), (1, 1), (2, 1), (3, 1), (4, 1)])) ⟨fun x54 =>
  @bnd (POp.sem C [x54] (.bslice false 5)) ⟨fun x55 =>
  @bns (app2Sem false 5 σ [x52, x55]) ⟨fun x56 σ =>
  @bnd (jwrSem 0 1 [x49, x56]) ⟨fun x57 =>
  @bnd (fldSem 0 (some 2) [x57]) ⟨fun x58 =>
  @bnd (fldSem 1 none [x57]) ⟨fun x59 =>
  @bnd (jwrSem 0 2 [(.agg [.nils, (.int .i64 0)]), x58]) ⟨fun x60 =>
  @bnd (fldSem 0 (some 2) [x60]) ⟨fun x61 =>
  retJ (resEx [x61, x59, (.int .i64 0)]) σ⟩⟩⟩⟩⟩⟩⟩⟩⟩⟩⟩⟩⟩⟩⟩⟩⟩⟩⟩⟩⟩⟩⟩⟩⟩⟩⟩⟩⟩⟩⟩⟩⟩⟩⟩⟩⟩⟩⟩⟩⟩⟩⟩⟩⟩⟩⟩⟩⟩⟩⟩⟩⟩⟩⟩⟩⟩⟩⟩⟩⟩⟩⟩⟩
def D35 (C : CallP) (I : CallI) (n : Nat) (x0 x1 : DVal) (σ : Sto) : Option Out :=
  @bnd (jboxSem [x0]) ⟨fun x2 =>
  @bnd (fldSem 0 (some 2) [x2]) ⟨fun x3 =>
  @bnd (callPS C 39 [x3, x1]) ⟨fun x4 =>
  @bnd (bin2Sem .lss [x4, (.int .i64 0)]) ⟨fun x5 =>
  @itK x5 ⟨@bnd (fldSem 0 (some 2) [x2]) ⟨fun x6 =>
  @bnd (jwrSem 0 2 [(.agg [.nils, (.int .i64 0)]), x6]) ⟨fun x7 =>
  @bnd (fldSem 0 (some 2) [x7]) ⟨fun x8 =>
  retJ (resEx [x8, (.int .i64 11)]) σ⟩⟩⟩⟩ ⟨@bnd (bin2Sem .eql [x1, (.int .i64 1)]) ⟨fun x6 =>
  @bnd (@wnP x6 false ⟨fldSem 0 (some 2) [x2]⟩) ⟨fun x7 =>
  @bnd (@wnP x6 false ⟨mvSem [x1]⟩) ⟨fun x8 =>
  @bnd (@wnP x6 false ⟨callPS C 22 [x7, x8]⟩) ⟨fun x9 =>
  @bnd (@wnP x6 false ⟨lenSlSem [x9]⟩) ⟨fun x10 =>
  @bnd (@wnP x6 false ⟨bin2Sem .gtr [x10, (.int .i64 0)]⟩) ⟨fun x11 =>
  @bnd (pickSem [x6, (.bool true), x11]) ⟨fun x12 =>
  @itK x12 ⟨@bnd (fldSem 0 (some 2) [x2]) ⟨fun x13 =>
  @bnd (jwrSem 0 2 [(.agg [.nils, (.int .i64 0)]), x13]) ⟨fun x14 =>
  @bnd (fldSem 0 (some 2) [x14]) ⟨fun x15 =>
  retJ (resEx [x15, (.int .i64 23)]) σ⟩⟩⟩⟩ ⟨@bnd (fldSem 1 none [x2]) ⟨fun x13 =>
  @bnd (POp.sem C [x13] (.build [.nils, (.int .i64 0)] [(1, 1)])) ⟨fun x14 =>
  @bnd (jwrSem 0 2 [(.agg [.nils, (.int .i64 0)]), x14]) ⟨fun x15 =>
  @bnd (POp.sem C [] (.bslice false 5)) ⟨fun x16 =>
  @bnd (fldSem 0 none [x2]) ⟨fun x17 =>
  @bnd (slcVSem 5 false true false [x17, x4]) ⟨fun x18 =>
  @bns (app2Sem false 5 σ [x16, x18]) ⟨fun x19 σ =>
  @bnd (fldSem 0 none [x2]) ⟨fun x20 =>
  @bnd (bin2Sem .add [x4, (.int .i64 1)]) ⟨fun x21 =>
  @bnd (slcVSem 5 true false false [x20, x21]) ⟨fun x22 =>
  @bns (app2Sem false 5 σ [x19, x22]) ⟨fun x23 σ =>
  @bnd (jwrSem 0 1 [x15, x23]) ⟨fun x24 =>
  @bnd (fldSem 0 (some 2) [x24]) ⟨fun x25 =>
  @bnd (jwrSem 0 2 [(.agg [.nils, (.int .i64 0)]), x25]) ⟨fun x26 =>
  @bnd (fldSem 0 (some 2) [x26]) ⟨fun x27 =>
  retJ (resEx [x27, (.int .i64 0)]) σ⟩⟩⟩⟩⟩⟩⟩⟩⟩⟩⟩⟩⟩⟩⟩⟩⟩⟩⟩⟩⟩⟩⟩⟩⟩⟩⟩⟩
def D36 (C : CallP) (I : CallI) (n : Nat) (x0 x1 x2 : DVal) (σ : Sto) : Option Out :=
  @bnd (jboxSem [x0]) ⟨fun x3 =>
  @bnd (fldSem 0 (some 2) [x3]) ⟨fun x4 =>
  @bnd (callPS C 39 [x4, x1]) ⟨fun x5 =>
  @bnd (bin2Sem .lss [x5, (.int .i64 0)]) ⟨fun x6 =>
  @itK x6 ⟨@bnd (fldSem 0 (some 2) [x3]) ⟨fun x7 =>
  @bnd (jwrSem 0 2 [(.agg [.nils, (.int .i64 0)]), x7]) ⟨fun x8 =>
  @bnd (fldSem 0 (some 2) [x8]) ⟨fun x9 =>
  retJ (resEx [x9, (.int .i64 11)]) σ⟩⟩⟩⟩ ⟨@bnd (fldSem 1 none [x3]) ⟨fun x7 =>
  @bnd (POp.sem C [] (.bslice false 5)) ⟨fun x8 =>
  @bnd (fldSem 0 none [x3]) ⟨fun x9 =>
  @bns (appMSem 5 σ [x8, x9]) ⟨fun x10 σ =>
  @bnd (POp.sem C [x7, x10] (.build [.nils, (.int .i64 0)] [(1, 1), (0, 1)])) ⟨fun x11 =>
  @bnd (jwrSem 0 2 [(.agg [.nils, (.int .i64 0)]), x11]) ⟨fun x12 =>
  @bnd (fldSem 0 none [x12]) ⟨fun x13 =>
  @bnd (idxSSem 5 [x13, x5]) ⟨fun x14 =>
  @bnd (offSem 4 [x14]) ⟨fun x15 =>
  @bns (stOSem σ 1 [x15, x2]) ⟨fun x16 σ =>
  @bnd (fldSem 0 (some 2) [x12]) ⟨fun x17 =>
  @bnd (jwrSem 0 2 [(.agg [.nils, (.int .i64 0)]), x17]) ⟨fun x18 =>
  @bnd (fldSem 0 (some 2) [x18]) ⟨fun x19 =>
  retJ (resEx [x19, (.int .i64 0)]) σ⟩⟩⟩⟩⟩⟩⟩⟩⟩⟩⟩⟩⟩⟩⟩⟩⟩⟩
def D37 (C : CallP) (I : CallI) (n : Nat) (x0 x1 : DVal) (σ : Sto) : Option Out :=
  @bnd (callPS C 51 [x0, x1, (.int .i64 0), (.int .i64 (-1))]) ⟨fun x2 =>
  retJ (resEx [x2]) σ⟩
def J38_0 (C : CallP) (I : CallI) (n : Nat) (x2 x4 : DVal) (x16 : DVal) (σ : Sto) : Option Out :=
  @bnd (bin2Sem .add [x16, (.str [47])]) ⟨fun x17 =>
  @bnd (fldSem 0 none [x2]) ⟨fun x18 =>
  @bnd (idxSSem 5 [x18, x4]) ⟨fun x19 =>
  @bnd (offSem 2 [x19]) ⟨fun x20 =>
  @bnd (ldESem none [x20]) ⟨fun x21 =>
  @bnd (bin2Sem .add [x17, x21]) ⟨fun x22 =>
  retJ (resEx [x22, (.bool true)]) σ⟩⟩⟩⟩⟩⟩
def L38_0 (C : CallP) (I : CallI) (n : Nat) (x2 x4 : DVal) (vs : List DVal) (σ : Sto) : Option Out := J38_0 C I n x2 x4 (vs.getD 0 .undef) σ
def D38 (C : CallP) (I : CallI) (n : Nat) (x0 x1 : DVal) (σ : Sto) : Option Out :=
  @bnd (jboxSem [x0]) ⟨fun x2 =>
  @bnd (fldSem 0 (some 2) [x2]) ⟨fun x3 =>
  @bnd (callPS C 39 [x3, x1]) ⟨fun x4 =>
  @bnd (bin2Sem .lss [x4, (.int .i64 0)]) ⟨fun x5 =>
  @itK x5 ⟨retJ (resEx [(.str []), (.bool false)]) σ⟩ ⟨@bnd (bin2Sem .eql [x1, (.int .i64 1)]) ⟨fun x6 =>
  @itK x6 ⟨retJ (resEx [(.str [47]), (.bool true)]) σ⟩ ⟨@bnd (fldSem 0 (some 2) [x2]) ⟨fun x7 =>
  @bnd (fldSem 0 none [x2]) ⟨fun x8 =>
  @bnd (idxSSem 5 [x8, x4]) ⟨fun x9 =>
  @bnd (offSem 1 [x9]) ⟨fun x10 =>
  @bnd (ldESem none [x10]) ⟨fun x11 =>
  @bnd (callPS C 38 [x7, x11]) ⟨fun x12 =>
  @bnd (extSem 0 [x12]) ⟨fun x13 =>
  @bnd (extSem 1 [x12]) ⟨fun x14 =>
  @bnd (bin2Sem .eql [x13, (.str [47])]) ⟨fun x15 =>
  joinJ 0 (L38_0 C I n x2 x4) (@itK x15 ⟨some (.next 0 [(.str [])] σ)⟩ ⟨some (.next 0 [x13] σ)⟩)⟩⟩⟩⟩⟩⟩⟩⟩⟩⟩⟩⟩⟩⟩⟩⟩
def B39_0 (C : CallP) (I : CallI) (n : Nat) (x1 x2 : DVal) (x3 x4 : DVal) (σ : Sto) : Option Out :=
  @bnd (fldSem 0 none [x2]) ⟨fun x5 =>
  @bnd (lenSlSem [x5]) ⟨fun x6 =>
  @bnd (bin2Sem .lss [x3, x6]) ⟨fun x7 =>
  @itK x7 ⟨@bnd (fldSem 0 none [x2]) ⟨fun x8 =>
  @bnd (idxSSem 5 [x8, x3]) ⟨fun x9 =>
  @bnd (offSem 0 [x9]) ⟨fun x10 =>
  @bnd (ldESem none [x10]) ⟨fun x11 =>
  @bnd (bin2Sem .eql [x11, x1]) ⟨fun x12 =>
  @itK x12 ⟨retJ (resEx [x3]) σ⟩ ⟨@bnd (bin2Sem .add [x3, (.int .i64 1)]) ⟨fun x13 =>
  some (.next 0 [x13, x4] σ)⟩⟩⟩⟩⟩⟩⟩⟩ ⟨retJ (resEx [(.int .i64 (-1))]) σ⟩⟩⟩⟩
def L39_0 (C : CallP) (I : CallI) (n : Nat) (x1 x2 : DVal) (vs : List DVal) (σ : Sto) : Option Out := B39_0 C I n x1 x2 (vs.getD 0 .undef) (vs.getD 1 .undef) σ
def D39 (C : CallP) (I : CallI) (n : Nat) (x0 x1 : DVal) (σ : Sto) : Option Out :=
  @bnd (jboxSem [x0]) ⟨fun x2 =>
  iterJ 0 (L39_0 C I n x1 x2) n [(.int .i64 0), (.int .i64 0)] σ⟩
def D42 (C : CallP) (I : CallI) (n : Nat) (x0 : DVal) (σ : Sto) : Option Out :=
  @bnd (jboxSem [x0]) ⟨fun x1 =>
  @bnd (fldSem 0 (some 2) [x1]) ⟨fun x2 =>
  @bnd (callPS C 56 [x2, (.int .i64 1)]) ⟨fun x3 =>
  retJ (resEx [x3]) σ⟩⟩⟩
def D43 (C : CallP) (I : CallI) (n : Nat) (x0 x1 : DVal) (σ : Sto) : Option Out :=
  @bnd (jboxSem [x0]) ⟨fun x2 =>
  @bnd (fldSem 0 (some 2) [x2]) ⟨fun x3 =>
  @bnd (callPS C 39 [x3, x1]) ⟨fun x4 =>
  @bnd (bin2Sem .lss [x4, (.int .i64 0)]) ⟨fun x5 =>
  @itK x5 ⟨retJ (resEx [(.int .i64 0), (.bool false)]) σ⟩ ⟨@bnd (fldSem 0 none [x2]) ⟨fun x6 =>
  @bnd (idxSSem 5 [x6, x4]) ⟨fun x7 =>
  @bnd (offSem 4 [x7]) ⟨fun x8 =>
  @bnd (ldESem none [x8]) ⟨fun x9 =>
  retJ (resEx [x9, (.bool true)]) σ⟩⟩⟩⟩⟩⟩⟩⟩⟩
def D44 (C : CallP) (I : CallI) (n : Nat) (x0 x1 : DVal) (σ : Sto) : Option Out :=
  @bnd (jboxSem [x0]) ⟨fun x2 =>
  @bnd (fldSem 0 (some 2) [x2]) ⟨fun x3 =>
  @bnd (callPS C 39 [x3, x1]) ⟨fun x4 =>
  @bnd (bin2Sem .lss [x4, (.int .i64 0)]) ⟨fun x5 =>
  @itK x5 ⟨retJ (resEx [(.int .i64 0), (.bool false)]) σ⟩ ⟨@bnd (fldSem 0 none [x2]) ⟨fun x6 =>
  @bnd (idxSSem 5 [x6, x4]) ⟨fun x7 =>
  @bnd (offSem 1 [x7]) ⟨fun x8 =>
  @bnd (ldESem none [x8]) ⟨fun x9 =>
  retJ (resEx [x9, (.bool true)]) σ⟩⟩⟩⟩⟩⟩⟩⟩⟩
def D47 (C : CallP) (I : CallI) (n : Nat) (x0 x1 : DVal) (σ : Sto) : Option Out :=
  @bnd (callPS C 58 [x0, x1]) ⟨fun x2 =>
  retJ (resEx [x2]) σ⟩
def D48 (C : CallP) (I : CallI) (n : Nat) (x0 : DVal) (σ : Sto) : Option Out :=
  @bnd (callPS C 59 [x0]) ⟨fun x1 =>
  @bnd (extSem 0 [x1]) ⟨fun x2 =>
  @bnd (extSem 1 [x1]) ⟨fun x3 =>
  @bnd (callPS C 60 [x0, x3]) ⟨fun x4 =>
  retJ (resEx [x4]) σ⟩⟩⟩⟩
def B49_0 (C : CallP) (I : CallI) (n : Nat) (x0 : DVal) (x1 x2 : DVal) (σ : Sto) : Option Out :=
  @bnd (lenStrSem [x0]) ⟨fun x3 =>
  @bnd (bin2Sem .lss [x1, x3]) ⟨fun x4 =>
  @itK x4 ⟨@bnd (idxStrSem [x0, x1]) ⟨fun x5 =>
  @bnd (bin2Sem .lss [x5, (.int .u8 33)]) ⟨fun x6 =>
  @bnd (@wnP x6 false ⟨mvSem [x0]⟩) ⟨fun x7 =>
  @bnd (@wnP x6 false ⟨mvSem [x1]⟩) ⟨fun x8 =>
  @bnd (@wnP x6 false ⟨idxStrSem [x7, x8]⟩) ⟨fun x9 =>
  @bnd (@wnP x6 false ⟨bin2Sem .gtr [x9, (.int .u8 126)]⟩) ⟨fun x10 =>
  @bnd (pickSem [x6, (.bool true), x10]) ⟨fun x11 =>
  @bnd (@wnP x11 false ⟨mvSem [x0]⟩) ⟨fun x12 =>
  @bnd (@wnP x11 false ⟨mvSem [x1]⟩) ⟨fun x13 =>
  @bnd (@wnP x11 false ⟨idxStrSem [x12, x13]⟩) ⟨fun x14 =>
  @bnd (@wnP x11 false ⟨bin2Sem .eql [x14, (.int .u8 47)]⟩) ⟨fun x15 =>
  @bnd (pickSem [x11, (.bool true), x15]) ⟨fun x16 =>
  @bnd (@wnP x16 false ⟨mvSem [x0]⟩) ⟨fun x17 =>
  @bnd (@wnP x16 false ⟨mvSem [x1]⟩) ⟨fun x18 =>
  @bnd (@wnP x16 false ⟨idxStrSem [x17, x18]⟩) ⟨fun x19 =>
  @bnd (@wnP x16 false ⟨bin2Sem .eql [x19, (.int .u8 42)]⟩) ⟨fun x20 =>
  @bnd (pickSem [x16, (.bool true), x20]) ⟨fun x21 =>
  @bnd (@wnP x21 false ⟨mvSem [x0]⟩) ⟨fun x22 =>
  @bnd (@wnP x21 false ⟨mvSem [x1]⟩) ⟨fun x23 =>
  @bnd (@wnP x21 false ⟨idxStrSem [x22, x23]⟩) ⟨fun x24 =>
  @bnd (@wnP x21 false ⟨bin2Sem .eql [x24, (.int .u8 63)]⟩) ⟨fun x25 =>
  @bnd (pickSem [x21, (.bool true), x25]) ⟨fun x26 =>
  @bnd (@wnP x26 false ⟨mvSem [x0]⟩) ⟨fun x27 =>
  @bnd (@wnP x26 false ⟨mvSem [x1]⟩) ⟨fun x28 =>
  @bnd (@wnP x26 false ⟨idxStrSem [x27, x28]⟩) ⟨fun x29 =>
  @bnd (@wnP x26 false ⟨bin2Sem .eql [x29, (.int .u8 34)]⟩) ⟨fun x30 =>
  @bnd (pickSem [x26, (.bool true), x30]) ⟨fun x31 =>
  @itK x31 ⟨retJ (resEx [(.bool false)]) σ⟩ ⟨@bnd (bin2Sem .add [x1, (.int .i64 1)]) ⟨fun x32 =>
  some (.next 0 [x32, x2] σ)⟩⟩⟩⟩⟩⟩⟩⟩⟩⟩⟩⟩⟩⟩⟩⟩⟩⟩⟩⟩⟩⟩⟩⟩⟩⟩⟩⟩⟩⟩ ⟨@bnd (lenStrSem [x0]) ⟨fun x5 =>
  @bnd (bin2Sem .geq [x5, (.int .i64 1)]) ⟨fun x6 =>
  @bnd (@wnP x6 true ⟨mvSem [x0]⟩) ⟨fun x7 =>
  @bnd (@wnP x6 true ⟨lenStrSem [x7]⟩) ⟨fun x8 =>
  @bnd (@wnP x6 true ⟨bin2Sem .leq [x8, (.int .i64 32)]⟩) ⟨fun x9 =>
  @bnd (pickSem [x6, x9, (.bool false)]) ⟨fun x10 =>
  retJ (resEx [x10]) σ⟩⟩⟩⟩⟩⟩⟩⟩⟩
def L49_0 (C : CallP) (I : CallI) (n : Nat) (x0 : DVal) (vs : List DVal) (σ : Sto) : Option Out := B49_0 C I n x0 (vs.getD 0 .undef) (vs.getD 1 .undef) σ
def D49 (C : CallP) (I : CallI) (n : Nat) (x0 : DVal) (σ : Sto) : Option Out :=
  iterJ 0 (L49_0 C I n x0) n [(.int .i64 0), (.bool false)] σ
def B50_0 (C : CallP) (I : CallI) (n : Nat) (x1 x2 x3 : DVal) (x4 x5 : DVal) (σ : Sto) : Option Out :=
  @bnd (fldSem 0 none [x3]) ⟨fun x6 =>
  @bnd (lenSlSem [x6]) ⟨fun x7 =>
  @bnd (bin2Sem .lss [x4, x7]) ⟨fun x8 =>
  @itK x8 ⟨@bnd (fldSem 0 none [x3]) ⟨fun x9 =>
  @bnd (idxSSem 5 [x9, x4]) ⟨fun x10 =>
  @bnd (offSem 1 [x10]) ⟨fun x11 =>
  @bnd (ldESem none [x11]) ⟨fun x12 =>
  @bnd (bin2Sem .eql [x12, x1]) ⟨fun x13 =>
  @bnd (@wnP x13 true ⟨fldSem 0 none [x3]⟩) ⟨fun x14 =>
  @bnd (@wnP x13 true ⟨mvSem [x4]⟩) ⟨fun x15 =>
  @bnd (@wnP x13 true ⟨idxSSem 5 [x14, x15]⟩) ⟨fun x16 =>
  @bnd (@wnP x13 true ⟨offSem 2 [x16]⟩) ⟨fun x17 =>
  @bnd (@wnP x13 true ⟨ldESem none [x17]⟩) ⟨fun x18 =>
  @bnd (@wnP x13 true ⟨mvSem [x2]⟩) ⟨fun x19 =>
  @bnd (@wnP x13 true ⟨bin2Sem .eql [x18, x19]⟩) ⟨fun x20 =>
  @bnd (pickSem [x13, x20, (.bool false)]) ⟨fun x21 =>
  @bnd (@wnP x21 true ⟨fldSem 0 none [x3]⟩) ⟨fun x22 =>
  @bnd (@wnP x21 true ⟨mvSem [x4]⟩) ⟨fun x23 =>
  @bnd (@wnP x21 true ⟨idxSSem 5 [x22, x23]⟩) ⟨fun x24 =>
  @bnd (@wnP x21 true ⟨offSem 0 [x24]⟩) ⟨fun x25 =>
  @bnd (@wnP x21 true ⟨ldESem none [x25]⟩) ⟨fun x26 =>
  @bnd (@wnP x21 true ⟨bin2Sem .neq [x26, (.int .i64 1)]⟩) ⟨fun x27 =>
  @bnd (pickSem [x21, x27, (.bool false)]) ⟨fun x28 =>
  @itK x28 ⟨@bnd (fldSem 0 none [x3]) ⟨fun x29 =>
  @bnd (idxSSem 5 [x29, x4]) ⟨fun x30 =>
  @bnd (offSem 0 [x30]) ⟨fun x31 =>
  @bnd (ldESem none [x31]) ⟨fun x32 =>
  retJ (resEx [x32]) σ⟩⟩⟩⟩⟩ ⟨@bnd (bin2Sem .add [x4, (.int .i64 1)]) ⟨fun x29 =>
  some (.next 0 [x29, x5] σ)⟩⟩⟩⟩⟩⟩⟩⟩⟩⟩⟩⟩⟩⟩⟩⟩⟩⟩⟩⟩⟩⟩⟩ ⟨retJ (resEx [(.int .i64 0)]) σ⟩⟩⟩⟩
def L50_0 (C : CallP) (I : CallI) (n : Nat) (x1 x2 x3 : DVal) (vs : List DVal) (σ : Sto) : Option Out := B50_0 C I n x1 x2 x3 (vs.getD 0 .undef) (vs.getD 1 .undef) σ
def D50 (C : CallP) (I : CallI) (n : Nat) (x0 x1 x2 : DVal) (σ : Sto) : Option Out :=
  @bnd (jboxSem [x0]) ⟨fun x3 =>
  iterJ 0 (L50_0 C I n x1 x2 x3) n [(.int .i64 0), (.int .i64 0)] σ⟩
def B56_0 (C : CallP) (I : CallI) (n : Nat) (x2 x5 : DVal) (x6 x7 : DVal) (σ : Sto) : Option Out :=
  @bnd (lenSlSem [x5]) ⟨fun x8 =>
  @bnd (bin2Sem .lss [x6, x8]) ⟨fun x9 =>
  @itK x9 ⟨@bnd (fldSem 0 (some 2) [x2]) ⟨fun x10 =>
  @bnd (idxSSem 1 [x5, x6]) ⟨fun x11 =>
  @bnd (ldESem none [x11]) ⟨fun x12 =>
  @bnd (callPS C 56 [x10, x12]) ⟨fun x13 =>
  @bns (app2Sem false 1 σ [x7, x13]) ⟨fun x14 σ =>
  @bnd (bin2Sem .add [x6, (.int .i64 1)]) ⟨fun x15 =>
  some (.next 0 [x15, x14] σ)⟩⟩⟩⟩⟩⟩⟩ ⟨retJ (resEx [x7]) σ⟩⟩⟩
def L56_0 (C : CallP) (I : CallI) (n : Nat) (x2 x5 : DVal) (vs : List DVal) (σ : Sto) : Option Out := B56_0 C I n x2 x5 (vs.getD 0 .undef) (vs.getD 1 .undef) σ
def D56 (C : CallP) (I : CallI) (n : Nat) (x0 x1 : DVal) (σ : Sto) : Option Out :=
  @bnd (jboxSem [x0]) ⟨fun x2 =>
  @bnd (POp.sem C [x1] (.bslice false 1)) ⟨fun x3 =>
  @bnd (fldSem 0 (some 2) [x2]) ⟨fun x4 =>
  @bnd (callPS C 22 [x4, x1]) ⟨fun x5 =>
  iterJ 0 (L56_0 C I n x2 x5) n [(.int .i64 0), x3] σ⟩⟩⟩⟩
def B59_0 (C : CallP) (I : CallI) (n : Nat) (x6 x11 x13 : DVal) (x14 x15 x16 : DVal) (σ : Sto) : Option Out :=
  @bnd (bin2Sem .lss [x14, x13]) ⟨fun x17 =>
  @itK x17 ⟨@bnd (idxStrSem [x11, x14]) ⟨fun x18 =>
  @bnd (callPS C 77 [x18]) ⟨fun x19 =>
  @bnd (unSem .not [x19]) ⟨fun x20 =>
  @itK x20 ⟨retJ (resEx [.nils, (.bool false)]) σ⟩ ⟨@bnd (bin2Sem .add [x14, (.int .i64 1)]) ⟨fun x21 =>
  some (.next 1 [x21, x15, x16] σ)⟩⟩⟩⟩⟩⟩ ⟨@bnd (bin2Sem .add [x6, (.int .i64 1)]) ⟨fun x18 =>
  some (.next 0 [x18, x15, x16] σ)⟩⟩⟩
def L59_0 (C : CallP) (I : CallI) (n : Nat) (x6 x11 x13 : DVal) (vs : List DVal) (σ : Sto) : Option Out := B59_0 C I n x6 x11 x13 (vs.getD 0 .undef) (vs.getD 1 .undef) (vs.getD 2 .undef) σ
def B59_1 (C : CallP) (I : CallI) (n : Nat) (x2 x5 : DVal) (x6 x7 x8 : DVal) (σ : Sto) : Option Out :=
  @bnd (bin2Sem .lss [x6, x5]) ⟨fun x9 =>
  @itK x9 ⟨@bnd (idxSSem 1 [x2, x6]) ⟨fun x10 =>
  @bnd (ldESem none [x10]) ⟨fun x11 =>
  @bnd (bin2Sem .eql [x11, (.str [])]) ⟨fun x12 =>
  @itK x12 ⟨retJ (resEx [.nils, (.bool false)]) σ⟩ ⟨@bnd (lenStrSem [x11]) ⟨fun x13 =>
  iterJ 1 (L59_0 C I n x6 x11 x13) n [(.int .i64 0), x7, x8] σ⟩⟩⟩⟩⟩⟩ ⟨retJ (resEx [x2, (.bool true)]) σ⟩⟩
def L59_1 (C : CallP) (I : CallI) (n : Nat) (x2 x5 : DVal) (vs : List DVal) (σ : Sto) : Option Out := B59_1 C I n x2 x5 (vs.getD 0 .undef) (vs.getD 1 .undef) (vs.getD 2 .undef) σ
def D59 (C : CallP) (I : CallI) (n : Nat) (x0 : DVal) (σ : Sto) : Option Out :=
  @bnd (callPS C 76 [x0]) ⟨fun x1 =>
  @bnd (extSem 0 [x1]) ⟨fun x2 =>
  @bnd (extSem 1 [x1]) ⟨fun x3 =>
  @bnd (unSem .not [x3]) ⟨fun x4 =>
  @itK x4 ⟨retJ (resEx [.nils, (.bool false)]) σ⟩ ⟨@bnd (lenSlSem [x2]) ⟨fun x5 =>
  iterJ 0 (L59_1 C I n x2 x5) n [(.int .i64 0), (.bool false), .nils] σ⟩⟩⟩⟩⟩⟩
def D60 (C : CallP) (I : CallI) (n : Nat) (x0 x1 : DVal) (σ : Sto) : Option Out :=
  @bnd (lenStrSem [x0]) ⟨fun x2 =>
  @bnd (bin2Sem .gtr [x2, (.int .i64 256)]) ⟨fun x3 =>
  @itK x3 ⟨retJ (resEx [(.int .i64 4)]) σ⟩ ⟨@bnd (unSem .not [x1]) ⟨fun x4 =>
  @itK x4 ⟨retJ (resEx [(.int .i64 9)]) σ⟩ ⟨retJ (resEx [(.int .i64 0)]) σ⟩⟩⟩⟩⟩
def D76 (C : CallP) (I : CallI) (n : Nat) (x0 : DVal) (σ : Sto) : Option Out :=
  @bnd (bin2Sem .eql [x0, (.str [47])]) ⟨fun x1 =>
  @itK x1 ⟨retJ (resEx [.nils, (.bool true)]) σ⟩ ⟨@bnd (callPS C 88 [x0, (.str [47])]) ⟨fun x2 =>
  @bnd (extSem 0 [x2]) ⟨fun x3 =>
  @bnd (extSem 1 [x2]) ⟨fun x4 =>
  @bnd (unSem .not [x4]) ⟨fun x5 =>
  @bnd (@wnP x5 false ⟨mvSem [x0]⟩) ⟨fun x6 =>
  @bnd (@wnP x5 false ⟨lenStrSem [x6]⟩) ⟨fun x7 =>
  @bnd (@wnP x5 false ⟨bin2Sem .gtr [x7, (.int .i64 256)]⟩) ⟨fun x8 =>
  @bnd (pickSem [x5, (.bool true), x8]) ⟨fun x9 =>
  @itK x9 ⟨retJ (resEx [.nils, (.bool false)]) σ⟩ ⟨@bnd (callPS C 37 [x3, (.str [47])]) ⟨fun x10 =>
  retJ (resEx [x10, (.bool true)]) σ⟩⟩⟩⟩⟩⟩⟩⟩⟩⟩⟩⟩
def D77 (C : CallP) (I : CallI) (n : Nat) (x0 : DVal) (σ : Sto) : Option Out :=
  @bnd (bin2Sem .geq [x0, (.int .u8 33)]) ⟨fun x1 =>
  @bnd (@wnP x1 true ⟨mvSem [x0]⟩) ⟨fun x2 =>
  @bnd (@wnP x1 true ⟨bin2Sem .leq [x2, (.int .u8 126)]⟩) ⟨fun x3 =>
  @bnd (pickSem [x1, x3, (.bool false)]) ⟨fun x4 =>
  @bnd (@wnP x4 true ⟨mvSem [x0]⟩) ⟨fun x5 =>
  @bnd (@wnP x4 true ⟨convSem .i32 [x5]⟩) ⟨fun x6 =>
  @bnd (@wnP x4 true ⟨callPS C 89 [(.str [47, 42, 63, 34]), x6]⟩) ⟨fun x7 =>
  @bnd (@wnP x4 true ⟨unSem .not [x7]⟩) ⟨fun x8 =>
  @bnd (pickSem [x4, x8, (.bool false)]) ⟨fun x9 =>
  retJ (resEx [x9]) σ⟩⟩⟩⟩⟩⟩⟩⟩⟩
def D88 (C : CallP) (I : CallI) (n : Nat) (x0 x1 : DVal) (σ : Sto) : Option Out :=
  @bnd (callPS C 95 [x0, x1]) ⟨fun x2 =>
  @bnd (extSem 0 [x2]) ⟨fun x3 =>
  @bnd (extSem 1 [x2]) ⟨fun x4 =>
  retJ (resEx [x3, x4]) σ⟩⟩⟩
def D95 (C : CallP) (I : CallI) (n : Nat) (x0 x1 : DVal) (σ : Sto) : Option Out :=
  @bnd (callPS C 98 [x0, x1]) ⟨fun x2 =>
  @bnd (unSem .not [x2]) ⟨fun x3 =>
  @itK x3 ⟨retJ (resEx [x0, (.bool false)]) σ⟩ ⟨@bnd (lenStrSem [x1]) ⟨fun x4 =>
  @bnd (slcSSem true false [x0, x4]) ⟨fun x5 =>
  retJ (resEx [x5, (.bool true)]) σ⟩⟩⟩⟩⟩
def D98 (C : CallP) (I : CallI) (n : Nat) (x0 x1 : DVal) (σ : Sto) : Option Out :=
  @bnd (lenStrSem [x0]) ⟨fun x2 =>
  @bnd (lenStrSem [x1]) ⟨fun x3 =>
  @bnd (bin2Sem .geq [x2, x3]) ⟨fun x4 =>
  @bnd (@wnP x4 true ⟨mvSem [x0]⟩) ⟨fun x5 =>
  @bnd (@wnP x4 true ⟨mvSem [x1]⟩) ⟨fun x6 =>
  @bnd (@wnP x4 true ⟨lenStrSem [x6]⟩) ⟨fun x7 =>
  @bnd (@wnP x4 true ⟨slcSSem false true [x5, x7]⟩) ⟨fun x8 =>
  @bnd (@wnP x4 true ⟨mvSem [x1]⟩) ⟨fun x9 =>
  @bnd (@wnP x4 true ⟨bin2Sem .eql [x8, x9]⟩) ⟨fun x10 =>
  @bnd (pickSem [x4, x10, (.bool false)]) ⟨fun x11 =>
  retJ (resEx [x11]) σ⟩⟩⟩⟩⟩⟩⟩⟩⟩⟩
end Go.Proofs.YtklepphkbbjbjaaDoor
namespace Go.Proofs.YtklepphkbbjbjaaDoor
set_option linter.unusedVariables false
open Go
section
variable {V V0 : Vw} {L : Nat → Nat × DVal} {σ : Sto} {w w0 : World}
structure Stp (V : Vw) (w : World) (V' : Vw) (w' : World) : Prop where
  ei : ExtI V w V' w'
  er : ExtS V w V' w'
theorem Stp.refl (V : Vw) (w : World) : Stp V w V w := ⟨.refl V w, .refl V w⟩
theorem Stp.trans {V V' V'' : Vw} {w w' w'' : World} (h : Stp V w V' w') (h' : Stp V' w' V'' w'') : Stp V w V'' w'' := ⟨h.ei.trans h'.ei, h.er.trans h'.er⟩
theorem Adv.stp {V' : Vw} {w' : World} (h : Adv V w V' w') : Stp V w V' w' := ⟨h.ei, h.er⟩
theorem Inv.grown0 (h : Inv V L σ w) {w' : World} {row : Option Nat} (hg : w.grownBy w' row)
    (hrow : ∀ p, row = some p → V.B ≤ p ∧ (V.tag p).1 = 0 ∧ ∀ c el, w.heap[p]? = some (.cells c el (0, 0)) → ∃ c', w'.heap[p]? = some (.cells c' el (0, 0)) ∧ c'.size = c.size) : Stp V w V w' ∧ Inv V L σ w' := by
  have hh : ∀ b, b < w.heap.size → (V.tag b).1 ≠ 0 ∨ b < V.B → w'.heap[b]? = w.heap[b]? := fun b hb ht => hg.block b hb (fun e => by
    obtain ⟨h1, h2, -⟩ := hrow b e.symm
    omega)
  have hI : ExtI V w V w' := fun b n hi => ⟨hi, World.cell?_of_block (hh b (h.imm_lt hi) (by
    rcases hi with ⟨h1, -⟩ | ⟨-, h2⟩
    · exact .inr h1
    · rcases h2 with h2 | ⟨h2, -⟩ <;> exact .inl (by omega)))⟩
  have hall : ∀ (b : Nat) (c : Array Value) (el : TypeId), w.heap[b]? = some (.cells c el (0, 0)) → ∃ c', w'.heap[b]? = some (.cells c' el (0, 0)) ∧ c'.size = c.size := fun b c el hb => by
    by_cases e : some b = row
    · exact (hrow b e.symm).2.2 c el hb
    · exact ⟨c, by rw [hg.block b (Array.getElem?_eq_some_iff.1 hb).1 e]; exact hb, rfl⟩
  have hR : ExtS V w V w' := ⟨Nat.le_refl _, fun _ _ => rfl, Nat.le_refl _, fun _ _ => Nat.le_refl _, fun g hg _ => ⟨rfl, fun c el hb => hall _ c el hb⟩, hall⟩
  have hQ : Quiet V w V w' σ := fun m hm _ h3 _ => ⟨hh _ (h.obj_lt hm) (.inl (by rw [h3]; simp)), rfl⟩
  have hsz := hg.size
  refine ⟨⟨hI, hR⟩, ?_⟩
  exact { h with
    hB := Nat.le_trans h.hB hsz
    tag := fun b hb => by have := h.tag b hb; omega
    root := fun r hr => ⟨(h.root r hr).1, (h.root r hr).2.ext hI hR (h.hrt r hr) (hh _ (h.root_lt hr) (.inl (by rw [(h.root r hr).1]; simp)))⟩
    obj := fun id hid => ⟨(h.obj id hid).1, by
      by_cases hu : σ.obj id = .undef
      · have := (h.obj id hid).2
        rw [hu] at this ⊢
        have h2 : V.phi id < w.heap.size := this
        show V.phi id < w'.heap.size
        omega
      · exact .quiet h hid hI hR hQ (hh _ (h.obj_lt hid) (.inl (by rw [(h.obj id hid).1 hu]; simp)))⟩
    tok := fun g hg => by
      obtain ⟨h1, c, el, h2, h3⟩ := h.tok g hg
      exact ⟨h1, c, el, by rw [hh _ (h.tok_lt hg) (.inl (by rw [h1]; simp))]; exact h2, h3⟩ }
theorem Inv.tag_new (h : Inv V L σ w) {b : Nat} (hb : w.heap.size ≤ b) : (V.tag b).1 = 0 := by
  by_cases e : (V.tag b).1 = 0
  · exact e
  · have := h.tag _ e; omega
theorem Inv.take0 (h : Inv V L σ w) {p : Nat} (hp : V.B ≤ p) (hlt : p < w.heap.size) (ht : (V.tag p).1 = 0) :
    Stp V w { V with tag := upd V.tag p (1, 0) } w ∧ Inv { V with tag := upd V.tag p (1, 0) } L σ w := by
  have hne : ∀ b, (V.tag b).1 ≠ 0 → upd V.tag p (1, 0) b = V.tag b := fun b hb => by
    simp only [upd]; rw [if_neg (fun e => hb (by rw [e]; exact ht))]
  have hI : ExtI V w { V with tag := upd V.tag p (1, 0) } w := fun b n hi => ⟨by
    rcases hi with h1 | ⟨h1, h2⟩
    · exact .inl h1
    · refine .inr ⟨h1, ?_⟩
      have hb : (V.tag b).1 ≠ 0 := by rcases h2 with h2 | ⟨h2, -⟩ <;> omega
      show (upd V.tag p (1, 0) b).1 = 1 ∨ ((upd V.tag p (1, 0) b).1 = 4 ∧ n < V.fr (upd V.tag p (1, 0) b).2)
      rw [hne b hb]
      exact h2, rfl⟩
  have hR : ExtS V w { V with tag := upd V.tag p (1, 0) } w := ⟨Nat.le_refl _, fun _ _ => rfl, Nat.le_refl _, fun _ _ => Nat.le_refl _, fun g hg _ => ⟨rfl, fun c el hb => ⟨c, hb, rfl⟩⟩, fun b c el hb => ⟨c, hb, rfl⟩⟩
  have hQ : Quiet V w { V with tag := upd V.tag p (1, 0) } w σ := fun m hm _ h3 _ => ⟨rfl, hne _ (by rw [h3]; simp)⟩
  refine ⟨⟨hI, hR⟩, ?_⟩
  exact { h with
    tag := fun b hb => by
      change (upd V.tag p (1, 0) b).1 ≠ 0 at hb
      simp only [upd] at hb
      split at hb
      · rename_i e; subst e; exact ⟨hp, hlt⟩
      · exact h.tag b hb
    root := fun r hr => ⟨(hne _ (by rw [(h.root r hr).1]; simp)).trans (h.root r hr).1, (h.root r hr).2.ext hI hR (h.hrt r hr) rfl⟩
    obj := fun id hid => ⟨fun hu => (hne _ (by rw [(h.obj id hid).1 hu]; simp)).trans ((h.obj id hid).1 hu), .quiet h hid hI hR hQ rfl⟩
    tag4 := fun b hb => by
      change (upd V.tag p (1, 0) b).1 = 4 at hb
      have hb0 : (V.tag b).1 ≠ 0 := by
        intro e
        simp only [upd] at hb
        split at hb
        · simp at hb
        · omega
      show (upd V.tag p (1, 0) b).2 < V.ntok
      rw [hne b hb0] at hb ⊢
      exact h.tag4 b hb
    tok := fun g hg => ⟨(hne _ (by rw [(h.tok g hg).1]; simp)).trans (h.tok g hg).1, (h.tok g hg).2⟩ }
theorem Adv.more {V' : Vw} {w' : World} (h : Adv V0 w0 V w) (hs : Stp V w V' w') (hl : ExtL V V') (hB : V'.B = V.B) (hI0 : V'.I0 = V.I0) (hz : ∀ b, b < w0.heap.size → (V.tag b).1 = 0 → (V'.tag b).1 = 0)
    (hf : ∀ b, b < w0.heap.size → (V.tag b).1 = 0 → w'.heap[b]? = w.heap[b]?) (hsz : w.heap.size ≤ w'.heap.size) (ho : w'.os = w.os) (htp : w'.tape = w.tape) (hop : w'.output = w.output) : Adv V0 w0 V' w' where
  ei := h.ei.trans hs.ei
  er := h.er.trans hs.er
  el := h.el.trans hl
  B := hB.trans h.B
  zero b hb h0 := hz b hb (h.zero b hb h0)
  frame b hb h0 := (hf b hb (h.zero b hb h0)).trans (h.frame b hb h0)
  size := Nat.le_trans h.size hsz
  os := ho.trans h.os
  tape := htp.trans h.tape
  output := hop.trans h.output
  I0 := hI0.trans h.I0
theorem Adv.grown0 {w' : World} (h : Adv V0 w0 V w) (hs : Stp V w V w') {row : Option Nat} (hg : w.grownBy w' row) (hrow : ∀ p, row = some p → w0.heap.size ≤ p) : Adv V0 w0 V w' :=
  h.more hs (.refl V) rfl rfl (fun _ _ h => h) (fun b hb _ => hg.block b (Nat.lt_of_lt_of_le hb h.size) (fun e => by have := hrow b e.symm; omega)) hg.size hg.os hg.tape hg.output
end
end Go.Proofs.YtklepphkbbjbjaaDoor
