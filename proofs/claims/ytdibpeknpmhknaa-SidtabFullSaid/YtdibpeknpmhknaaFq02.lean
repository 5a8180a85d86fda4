/- Texts of this proof, part 2: see the card for what is proved. -/
import Derived.Test.YtdibpeknpmhknaaFq01
namespace Go.Proofs.Ytdibpeknpmhknaa
set_option linter.unusedVariables false
set_option linter.unusedSimpArgs false
open Go
theorem lookup_mem {α : Type} {k : Nat} {v : α} : ∀ {l : List (Nat × α)}, l.lookup k = some v → (k, v) ∈ l
  | [], h => by simp at h
  | (a, b) :: l, h => by
    rw [List.lookup_cons] at h
    split at h
    · rename_i e
      have e : k = a := by simpa using e
      simp only [Option.some.injEq] at h
      subst h e
      exact List.mem_cons_self
    · exact List.mem_cons_of_mem _ (lookup_mem h)
def Gok (n : Nat) : Gd → Prop
  | none => True
  | some (i, _) => i < n
def SVok (ρ : List DVal) (L : Nat → Nat × DVal) (x : DVal) : SV → Prop
  | .ex e => e.ok ρ.length = true ∧ x = e.val ρ
  | .ptr r off g => Gok ρ.length g ∧ (gB ρ g = true → x = .loc r (L r).1 off)
structure Corr (s : SS) (ρ : List DVal) (st : St) : Prop where
  len : ρ.length = s.nv
  env : ∀ t sv, (t, sv) ∈ s.env → SVok ρ st.loc (st.env t) sv
  loc : ∀ r e g, (r, (e, g)) ∈ s.loc → e.ok ρ.length = true ∧ Gok ρ.length g ∧ (gB ρ g = true → (st.loc r).2 = e.val ρ)
theorem ok_append {ρ vs : List DVal} {e : Ex} (h : e.ok ρ.length = true) : e.ok (ρ ++ vs).length = true ∧ e.val (ρ ++ vs) = e.val ρ := by
  cases e with
  | k d => exact ⟨rfl, rfl⟩
  | v i =>
    have hi : i < ρ.length := by simpa [Ex.ok, Nat.blt_eq] using h
    refine ⟨by simp [Ex.ok, Nat.blt_eq]; omega, ?_⟩
    simp [Ex.val, List.getD_eq_getElem?_getD, List.getElem?_append_left hi]
theorem gok_append {ρ vs : List DVal} {g : Gd} (h : Gok ρ.length g) : Gok (ρ ++ vs).length g ∧ gB (ρ ++ vs) g = gB ρ g := by
  cases g with
  | none => exact ⟨trivial, rfl⟩
  | some p =>
    obtain ⟨i, b⟩ := p
    simp only [Gok] at h
    refine ⟨by simp only [Gok, List.length_append]; omega, ?_⟩
    simp [gB, List.getD_eq_getElem?_getD, List.getElem?_append_left h]
theorem SVok.append {ρ vs : List DVal} {L : Nat → Nat × DVal} {x : DVal} {sv : SV} (h : SVok ρ L x sv) : SVok (ρ ++ vs) L x sv := by
  cases sv with
  | ex e => simp only [SVok] at h ⊢; exact ⟨(ok_append h.1).1, by rw [(ok_append h.1).2]; exact h.2⟩
  | ptr r off g => simp only [SVok] at h ⊢; exact ⟨(gok_append h.1).1, by rw [(gok_append h.1).2]; exact h.2⟩
theorem Corr.more {s : SS} {ρ vs : List DVal} {st : St} (h : Corr s ρ st) {k : Nat} (hk : vs.length = k) : Corr (s.more k) (ρ ++ vs) st :=
  ⟨by simp [SS.more, h.len, hk], fun t sv hm => (h.env t sv hm).append, fun r e g hm => by
    obtain ⟨h1, h2, h3⟩ := h.loc r e g hm
    exact ⟨(ok_append h1).1, (gok_append h2).1, by rw [(gok_append h2).2, (ok_append h1).2]; exact h3⟩⟩
theorem Corr.put {s : SS} {ρ : List DVal} {st : St} (h : Corr s ρ st) {d : Option Nat} {x : DVal} {sv : SV} (hx : SVok ρ st.loc x sv) : Corr (s.put d sv) ρ (st.put d x) := by
  cases d with
  | none => exact h
  | some t =>
    refine ⟨h.len, fun t' sv' hm => ?_, h.loc⟩
    simp only [SS.put, List.mem_cons, List.mem_filter, Prod.mk.injEq] at hm
    rcases hm with ⟨rfl, rfl⟩ | ⟨hm, hne⟩
    · simpa [St.put, upd] using hx
    · have : t' ≠ t := by simpa using hne
      simpa [St.put, upd, this] using h.env t' sv' hm
theorem put_sto (st : St) (d : Option Nat) (x : DVal) : (st.put d x).sto = st.sto := by cases d <;> rfl
theorem put_loc (st : St) (d : Option Nat) (x : DVal) : (st.put d x).loc = st.loc := by cases d <;> rfl
theorem Corr.rebox {s : SS} {ρ : List DVal} {st : St} (h : Corr s ρ st) {r ep : Nat} {c : DVal} : Corr ({ s.drop r with loc := s.loc.filter fun p => p.1 != r }) ρ { st with loc := upd st.loc r (ep, c) } := by
  refine ⟨h.len, fun t sv hm => ?_, fun q e g hm => ?_⟩
  · simp only [SS.drop, List.mem_filter] at hm
    have := h.env t sv hm.1
    cases sv with
    | ex e => exact this
    | ptr q off g =>
      have hq : q ≠ r := by simpa [SV.notTo] using hm.2
      simpa [SVok, upd, hq] using this
  · simp only [List.mem_filter] at hm
    have hq : q ≠ r := by simpa using hm.2
    simpa [upd, hq] using h.loc q e g hm.1
theorem Corr.setc {s : SS} {ρ : List DVal} {st : St} (h : Corr s ρ st) {r : Nat} {c : DVal} : Corr ({ s with loc := s.loc.filter fun p => p.1 != r }) ρ { st with loc := upd st.loc r ((st.loc r).1, c) } := by
  refine ⟨h.len, fun t sv hm => ?_, fun q e g hm => ?_⟩
  · have := h.env t sv hm
    cases sv with
    | ex e => exact this
    | ptr q off g =>
      by_cases hq : q = r
      · subst hq; simpa [SVok, upd] using this
      · simpa [SVok, upd, hq] using this
  · simp only [List.mem_filter] at hm
    have hq : q ≠ r := by simpa using hm.2
    simpa [upd, hq] using h.loc q e g hm.1
theorem Corr.addLoc {s : SS} {ρ : List DVal} {st : St} {r : Nat} {e : Ex} {g : Gd} (h : Corr { s with loc := s.loc.filter fun p => p.1 != r } ρ st) (he : e.ok ρ.length = true) (hg : Gok ρ.length g) (hv : gB ρ g = true → (st.loc r).2 = e.val ρ) :
    Corr (s.setLoc r e g) ρ st := by
  refine ⟨h.len, h.env, fun q e' g' hm => ?_⟩
  simp only [SS.setLoc, List.mem_cons, Prod.mk.injEq] at hm
  rcases hm with ⟨rfl, rfl, rfl⟩ | hm
  · exact ⟨he, hg, hv⟩
  · exact h.loc q e' g' hm
theorem Corr.sub {s s' : SS} {ρ : List DVal} {st : St} (h : Corr s ρ st) (h1 : ∀ p, p ∈ s'.env → p ∈ s.env) (h2 : ∀ p, p ∈ s'.loc → p ∈ s.loc) (h3 : s'.nv = s.nv) : Corr s' ρ st :=
  ⟨by rw [h3]; exact h.len, fun t sv hm => h.env t sv (h1 _ hm), fun r e g hm => h.loc r e g (h2 _ hm)⟩
theorem Corr.dep {s : SS} {ρ : List DVal} {st : St} (h : Corr s ρ st) (d : Nat) : Corr { s with dep := d } ρ st := ⟨h.len, h.env, h.loc⟩
theorem Corr.sto {s : SS} {ρ : List DVal} {st : St} (h : Corr s ρ st) (σ : Sto) : Corr s ρ { st with sto := σ } := ⟨h.len, h.env, h.loc⟩
theorem Corr.ex {s : SS} {ρ : List DVal} {st : St} (h : Corr s ρ st) {x : Opd} {e : Ex} (hx : s.ex x = some e) : e.ok ρ.length = true ∧ x.val st.env = e.val ρ := by
  cases x with
  | c v => simp only [SS.ex, Option.some.injEq] at hx; subst hx; exact ⟨rfl, rfl⟩
  | t n =>
    simp only [SS.ex] at hx
    split at hx
    · rename_i e' hs
      simp only [Option.some.injEq] at hx
      subst hx
      have := h.env n _ (lookup_mem hs)
      simpa [SVok, Opd.val] using this
    · cases hx
theorem Corr.exs {s : SS} {ρ : List DVal} {st : St} (h : Corr s ρ st) : ∀ {xs : List Opd} {es : List Ex}, s.exs xs = some es → xs.map (Opd.val st.env) = es.map (Ex.val ρ)
  | [], es, hx => by simp only [SS.exs, Option.some.injEq] at hx; subst hx; rfl
  | x :: xs, es, hx => by
    simp only [SS.exs] at hx
    split at hx
    · rename_i e es' h1 h2
      simp only [Option.some.injEq] at hx
      subst hx
      simp only [List.map_cons, (h.ex h1).2, h.exs h2]
    · cases hx
theorem okG_holds {ρ : List DVal} {g G : Gd} (h : okG g G = true) (hG : gB ρ G = true) : gB ρ g = true := by
  cases g with
  | none => rfl
  | some p =>
    obtain ⟨i, b⟩ := p
    cases G with
    | none => simp [okG] at h
    | some q =>
      obtain ⟨j, c⟩ := q
      simp only [okG, Bool.and_eq_true, beq_iff_eq] at h
      have h1 : i = j := Nat.eq_of_beq_eq_true h.1
      rw [h1, h.2]; exact hG
theorem Corr.ptr {s : SS} {ρ : List DVal} {st : St} (h : Corr s ρ st) {x : Opd} {G : Gd} {r off : Nat} (hx : s.ptr G x = some (r, off)) (hG : gB ρ G = true) : x.val st.env = .loc r (st.loc r).1 off := by
  cases x with
  | c v => simp [SS.ptr] at hx
  | t n =>
    simp only [SS.ptr] at hx
    split at hx
    · rename_i r' off' g hs
      split at hx
      · rename_i hok
        simp only [Option.some.injEq, Prod.mk.injEq] at hx
        obtain ⟨rfl, rfl⟩ := hx
        exact (h.env n _ (lookup_mem hs)).2 (okG_holds hok hG)
      · cases hx
    · cases hx
theorem Corr.cont {s : SS} {ρ : List DVal} {st : St} (h : Corr s ρ st) {G : Gd} {r : Nat} {e : Ex} (hx : s.cont G r = some e) : e.ok ρ.length = true ∧ (gB ρ G = true → (st.loc r).2 = e.val ρ) := by
  simp only [SS.cont] at hx
  split at hx
  · rename_i e' g hs
    split at hx
    · rename_i hok
      simp only [Option.some.injEq] at hx
      subst hx
      obtain ⟨h1, h2, h3⟩ := h.loc r _ _ (lookup_mem hs)
      exact ⟨h1, fun hG => h3 (okG_holds hok hG)⟩
    · cases hx
  · cases hx
def gS (st : St) : Option (Nat × Bool) → Bool
  | none => true
  | some (t, b) => (st.env t).isB b
theorem Corr.guard {s : SS} {ρ : List DVal} {st : St} (h : Corr s ρ st) {g : Option (Nat × Bool)} {G : Gd} (hx : s.guard g = some G) : Gok ρ.length G ∧ gS st g = gB ρ G := by
  cases g with
  | none => simp only [SS.guard, Option.some.injEq] at hx; subst hx; exact ⟨trivial, rfl⟩
  | some p =>
    obtain ⟨t, b⟩ := p
    simp only [SS.guard] at hx
    split at hx
    · rename_i i hs
      simp only [Option.some.injEq] at hx
      subst hx
      obtain ⟨h1, h2⟩ := h.env t _ (lookup_mem hs)
      refine ⟨by simpa [Ex.ok, Nat.blt_eq, Gok] using h1, ?_⟩
      simp only [gB, gS, h2, Ex.val]
    · cases hx
section
variable {cp : Nat → List DVal → Option DVal} {ci : Nat → List DVal → Sto → Option (DVal × Sto)}
def runIns (cp : Nat → List DVal → Option DVal) (ci : Nat → List DVal → Sto → Option (DVal × Sto)) : List JIns → List DVal → Sto → Option (List DVal × Sto)
  | [], ρ, σ => some (ρ, σ)
  | i :: is, ρ, σ => match i.op with
    | .p o => match guarded ρ i.g (o.sem cp (i.xs.map (Ex.val ρ))) with
      | some v => runIns cp ci is (ρ ++ [v]) σ
      | none => none
    | .s o => match guardedS ρ σ i.g (o.sem cp ci σ (i.xs.map (Ex.val ρ))) with
      | some (v, σ') => runIns cp ci is (ρ ++ [v]) σ'
      | none => none
theorem runIns_append : ∀ (is js : List JIns) (ρ : List DVal) (σ : Sto), runIns cp ci (is ++ js) ρ σ = (runIns cp ci is ρ σ).bind fun x => runIns cp ci js x.1 x.2
  | [], js, ρ, σ => rfl
  | i :: is, js, ρ, σ => by
    simp only [List.cons_append, runIns]
    split
    · split
      · rw [runIns_append is js]
      · rfl
    · split
      · rw [runIns_append is js]
      · rfl
theorem den_insTree {n : Nat} (t : T) : ∀ (is : List JIns) (ρ : List DVal) (σ : Sto), den cp ci n (insTree is t) ρ σ = (runIns cp ci is ρ σ).bind fun x => den cp ci n t x.1 x.2
  | [], ρ, σ => rfl
  | i :: is, ρ, σ => by
    obtain ⟨op, xs, g⟩ := i
    cases op with
    | p o =>
      simp only [insTree, JIns.tree, den, runIns, bndP]
      split
      · rename_i v e; rw [den_insTree t is]; simp only [e]
      · rename_i e; simp only [e]; rfl
    | s o =>
      simp only [insTree, JIns.tree, den, runIns, bndS]
      split
      · rename_i v σ' e; rw [den_insTree t is]; simp only [e]
      · rename_i e; simp only [e]; rfl
theorem guarded_eq {ρ : List DVal} {g : Gd} {x : Option DVal} : guarded ρ g x = if gB ρ g then x else some .undef := by
  cases g with
  | none => rfl
  | some p => rfl
theorem guardedS_eq {ρ : List DVal} {σ : Sto} {g : Gd} {x : Option (DVal × Sto)} : guardedS ρ σ g x = if gB ρ g then x else some (.undef, σ) := by
  cases g with
  | none => rfl
  | some p => rfl
theorem runIns_p {o : JOp} {es : List Ex} {G : Gd} {ρ ρ' : List DVal} {σ σ' : Sto} (h : runIns cp ci [⟨.p o, es, G⟩] ρ σ = some (ρ', σ')) :
    ∃ v, (if gB ρ G then o.sem cp (es.map (Ex.val ρ)) else some .undef) = some v ∧ ρ' = ρ ++ [v] ∧ σ' = σ := by
  simp only [runIns, guarded_eq] at h
  split at h
  · rename_i v e
    simp only [Option.some.injEq, Prod.mk.injEq] at h
    exact ⟨v, e, h.1.symm, h.2.symm⟩
  · cases h
theorem step_eq {s : SS} {ρ : List DVal} {st : St} (h : Corr s ρ st) {o : IOper} {G : Gd} (hg : s.guard o.guard = some G) :
    stepOp cp ci o st = if gB ρ G then execOp' cp ci o.dst o.op o.xs st else some (st.put o.dst .undef) := by
  have := (h.guard hg).2
  unfold stepOp
  split
  · rename_i e; rw [e] at this; simp only [gS] at this; rw [← this]; simp
  · rename_i g b e; rw [e] at this; simp only [gS] at this; rw [← this]
theorem v_last {ρ : List DVal} {v : DVal} : Ex.val (ρ ++ [v]) (.v ρ.length) = v := by simp [Ex.val]
theorem v_ok {ρ : List DVal} {v : DVal} : Ex.ok (ρ ++ [v]).length (.v ρ.length) = true := by simp [Ex.ok, Nat.blt_eq]
theorem Corr.bind {s : SS} {ρ : List DVal} {st : St} (h : Corr s ρ st) (d : Option Nat) (v : DVal) : Corr ((s.more 1).put d (.ex (.v s.nv))) (ρ ++ [v]) (st.put d v) := by
  refine (h.more (vs := [v]) rfl).put ?_
  rw [← h.len]
  exact ⟨v_ok, v_last.symm⟩
theorem mv_sem {st : St} {x : Opd} {r ep off n : Nat} {o : POp} (ho : isMv o = some n) (hx : x.val st.env = .loc r ep off) : o.sem cp ([x].map (Opd.val st.env)) = some (.loc r ep (off + n)) := by
  unfold isMv at ho
  split at ho <;> simp only [Option.some.injEq, reduceCtorEq] at ho
  · subst ho; simp [POp.sem, mvSem, hx]
  · subst ho; simp [POp.sem, nilchkSem, hx]
  · subst ho; simp [POp.sem, offSem, DVal.shift, hx]
theorem symbP_sound {s s' : SS} {G : Gd} {dst : Option Nat} {o : POp} {xs : List Opd} {is : List JIns} {ρ ρ' : List DVal} {st : St} {σ' : Sto} (hs : symbP s G dst o xs = some (is, s')) (h : Corr s ρ st) (hG : Gok ρ.length G)
    (hr : runIns cp ci is ρ st.sto = some (ρ', σ')) : ∃ st', (if gB ρ G then execOp' cp ci dst (.p o) xs st else some (st.put dst .undef)) = some st' ∧ st'.sto = σ' ∧ Corr s' ρ' st' := by
  unfold symbP at hs
  split at hs
  · rename_i r off hp
    simp only [Option.some.injEq, Prod.mk.injEq] at hs
    obtain ⟨rfl, rfl⟩ := hs
    simp only [runIns, Option.some.injEq, Prod.mk.injEq] at hr
    obtain ⟨rfl, rfl⟩ := hr
    split at hp
    · rename_i n x hm
      simp only [Option.map_eq_some_iff, Prod.mk.injEq] at hp
      obtain ⟨⟨r', off'⟩, hp, rfl, rfl⟩ := hp
      cases hb : gB ρ G with
      | true =>
        have hv := h.ptr hp hb
        refine ⟨st.put dst (.loc r' (st.loc r').1 (off' + n)), ?_, put_sto .., h.put ⟨hG, fun _ => rfl⟩⟩
        simp only [if_true, execOp', mv_sem (cp := cp) hm hv, Option.map_some]
      | false => exact ⟨st.put dst .undef, rfl, put_sto .., h.put ⟨hG, fun e => by rw [hb] at e; cases e⟩⟩
    · cases hp
  · split at hs
    · rename_i es hes
      have hval := h.exs hes
      split at hs
      · rename_i e _
        simp only [Option.some.injEq, Prod.mk.injEq] at hs
        obtain ⟨rfl, rfl⟩ := hs
        simp only [runIns, Option.some.injEq, Prod.mk.injEq] at hr
        obtain ⟨rfl, rfl⟩ := hr
        cases xs with
        | nil => simp [SS.exs] at hes
        | cons x xs =>
          cases xs with
          | cons y ys => simp only [SS.exs] at hes; split at hes <;> simp at hes; rename_i h2; split at h2 <;> simp at h2; simp [← h2] at hes
          | nil =>
            have hx : s.ex x = some e := by
              simp only [SS.exs] at hes
              split at hes
              · rename_i e' es' h1 h2
                simp only [Option.some.injEq, List.cons.injEq] at hes h2
                rw [h1, hes.1]
              · cases hes
            have := h.ex hx
            refine ⟨st.put dst (e.val ρ), ?_, put_sto .., h.put ⟨this.1, rfl⟩⟩
            simp [gB, execOp', POp.sem, mvSem, this.2]
      · simp only [Option.some.injEq, Prod.mk.injEq] at hs
        obtain ⟨rfl, rfl⟩ := hs
        obtain ⟨v, hv, rfl, rfl⟩ := runIns_p hr
        refine ⟨st.put dst v, ?_, put_sto .., h.bind dst v⟩
        cases hb : gB ρ G with
        | true => rw [hb] at hv; simp only [if_true, JOp.sem] at hv; simp only [if_true, execOp', hval, hv, Option.map_some]
        | false => rw [hb] at hv; simp at hv; subst hv; simp
    · cases hs
theorem rebox_corr {s : SS} {ρ : List DVal} {st : St} (h : Corr s ρ st) {r : Nat} {dst : Option Nat} {G : Gd} (hG : Gok ρ.length G) {c : DVal} {e : Ex} (he : e.ok ρ.length = true) (hc : gB ρ G = true → c = e.val ρ) :
    (gB ρ G = true → Corr (((s.drop r).put dst (.ptr r 0 G)).setLoc r e G) ρ ({ st with loc := upd st.loc r ((st.loc r).1 + 1, c) }.put dst (.loc r ((st.loc r).1 + 1) 0))) ∧
    (gB ρ G = false → Corr (((s.drop r).put dst (.ptr r 0 G)).setLoc r e G) ρ (st.put dst .undef)) := by
  constructor
  · intro hb
    refine Corr.addLoc ?_ he hG fun _ => ?_
    · have h1 := (h.rebox (r := r) (ep := (st.loc r).1 + 1) (c := c)).put (d := dst) (x := .loc r ((st.loc r).1 + 1) 0) (sv := .ptr r 0 G) ⟨hG, fun _ => by simp [upd]⟩
      refine h1.sub (fun p hp => ?_) (fun p hp => ?_) ?_
      · cases dst <;> simpa [SS.put, SS.drop] using hp
      · cases dst <;> simpa [SS.put, SS.drop] using hp
      · cases dst <;> rfl
    · rw [put_loc]; simp [upd, hc hb]
  · intro hb
    refine Corr.addLoc ?_ he hG fun e => by rw [hb] at e; cases e
    have h1 := h.put (d := dst) (x := .undef) (sv := .ptr r 0 G) ⟨hG, fun e => by rw [hb] at e; cases e⟩
    refine h1.sub (fun p hp => ?_) (fun p hp => ?_) ?_
    · cases dst with
      | none => simp only [SS.put, SS.drop, List.mem_filter] at hp ⊢; exact hp.1
      | some t =>
        simp only [SS.put, SS.drop, List.mem_cons, List.mem_filter] at hp ⊢
        rcases hp with hp | hp
        · exact .inl hp
        · exact .inr ⟨hp.1.1, hp.2⟩
    · cases dst <;> (simp only [SS.put, SS.drop, List.mem_filter] at hp ⊢; exact hp.1)
    · cases dst <;> rfl
theorem symbL_sound {s s' : SS} {G : Gd} {dst : Option Nat} {r : Nat} {o : LOp} {xs : List Opd} {is : List JIns} {ρ ρ' : List DVal} {st : St} {σ' : Sto} (hs : symbL s G dst r o xs = some (is, s')) (h : Corr s ρ st) (hG : Gok ρ.length G)
    (hr : runIns cp ci is ρ st.sto = some (ρ', σ')) : ∃ st', (if gB ρ G then execOp' cp ci dst (.lw r o) xs st else some (st.put dst .undef)) = some st' ∧ st'.sto = σ' ∧ Corr s' ρ' st' := by
  unfold symbL at hs
  split at hs
  · rename_i x
    simp only [Option.map_eq_some_iff, Prod.mk.injEq] at hs
    obtain ⟨e, he, rfl, rfl⟩ := hs
    obtain ⟨v, hv, rfl, rfl⟩ := runIns_p hr
    have hx := h.ex he
    have hm := h.more (vs := [v]) (k := 1) rfl
    have key := rebox_corr (r := r) (dst := dst) hm (gok_append (vs := [v]) hG).1 (c := v) (e := .v s.nv) (by rw [← h.len]; exact v_ok) (fun _ => by rw [← h.len]; exact v_last.symm)
    rw [(gok_append hG).2] at key
    cases hb : gB ρ G with
    | true =>
      rw [hb] at hv
      simp only [if_true, JOp.sem, List.map_cons, List.map_nil, jboxSem] at hv
      split at hv
      · rename_i hok
        simp only [Option.some.injEq] at hv
        refine ⟨_, ?_, ?_, key.1 hb⟩
        · simp only [if_true, execOp', LOp.sem, List.map_cons, List.map_nil, boxLSem, hx.2, hok, Option.map_some]
          rw [← hv]
        · rw [put_sto]
      · cases hv
    | false => exact ⟨_, rfl, put_sto .., key.2 hb⟩
  · rename_i z
    simp only [Option.some.injEq, Prod.mk.injEq] at hs
    obtain ⟨rfl, rfl⟩ := hs
    simp only [runIns, Option.some.injEq, Prod.mk.injEq] at hr
    obtain ⟨rfl, rfl⟩ := hr
    have key := rebox_corr (r := r) (dst := dst) h hG (c := .agg z) (e := .k (.agg z)) rfl (fun _ => rfl)
    cases hb : gB ρ G with
    | true =>
      refine ⟨_, ?_, ?_, key.1 hb⟩
      · simp only [if_true, execOp', LOp.sem, List.map_nil, allocLSem, Option.map_some]
      · rw [put_sto]
    | false => exact ⟨_, rfl, put_sto .., key.2 hb⟩
  · rename_i x
    simp only [Option.map_eq_some_iff, Prod.mk.injEq] at hs
    obtain ⟨e, he, rfl, rfl⟩ := hs
    obtain ⟨v, hv, rfl, rfl⟩ := runIns_p hr
    have hx := h.ex he
    have hm := h.more (vs := [v]) (k := 1) rfl
    have key := rebox_corr (r := r) (dst := dst) hm (gok_append (vs := [v]) hG).1 (c := v) (e := .v s.nv) (by rw [← h.len]; exact v_ok) (fun _ => by rw [← h.len]; exact v_last.symm)
    rw [(gok_append hG).2] at key
    cases hb : gB ρ G with
    | true =>
      rw [hb] at hv
      simp only [if_true, JOp.sem, List.map_cons, List.map_nil, ← hx.2] at hv
      unfold jrngSem at hv
      split at hv
      · rename_i q hq
        simp only [List.cons.injEq, and_true] at hq
        simp only [Option.some.injEq] at hv
        refine ⟨_, ?_, ?_, key.1 hb⟩
        · simp only [if_true, execOp', LOp.sem, List.map_cons, List.map_nil, rngSem, hq, Option.map_some]
          rw [← hv]
        · rw [put_sto]
      · cases hv
    | false => exact ⟨_, rfl, put_sto .., key.2 hb⟩
  · rename_i n p x
    split at hs
    · rename_i q off e c hp he hc
      split at hs
      · rename_i hq
        subst hq
        simp only [Option.some.injEq, Prod.mk.injEq] at hs
        obtain ⟨rfl, rfl⟩ := hs
        obtain ⟨v, hv, rfl, rfl⟩ := runIns_p hr
        have hx := h.ex he
        have hcv := h.cont hc
        have hundef : SVok (ρ ++ [v]) st.loc .undef (.ex (.k .undef)) := ⟨rfl, rfl⟩
        cases hb : gB ρ G with
        | true =>
          rw [hb] at hv
          have hp' := h.ptr hp hb
          have hc' := hcv.2 hb
          simp only [if_true, JOp.sem, List.map_cons, List.map_nil, ← hx.2, ← hc'] at hv
          unfold jwrSem at hv
          split at hv
          · rename_i cs u hq
            simp only [List.cons.injEq, and_true] at hq
            obtain ⟨hq1, hq2⟩ := hq
            split at hv
            · rename_i hcond
              simp only [Option.map_eq_some_iff] at hv
              obtain ⟨cs', hw, rfl⟩ := hv
              refine ⟨({ st with loc := upd st.loc q ((st.loc q).1, .agg cs') }).put dst .undef, ?_, by rw [put_sto], ?_⟩
              · simp only [if_true, execOp', LOp.sem, List.map_cons, List.map_nil, hp', stLSem, hq2]
                rw [if_pos ⟨trivial, trivial, hcond.1, hcond.2⟩, hq1]
                simp only [hw, Option.map_some]
              · refine Corr.addLoc ?_ ?_ (gok_append hG).1 fun _ => ?_
                · have h1 := ((h.setc (r := q) (c := .agg cs')).more (vs := [DVal.agg cs']) (k := 1) rfl).put (d := dst) (x := .undef) (sv := .ex (.k .undef)) ⟨rfl, rfl⟩
                  refine h1.sub (fun p hp => ?_) (fun p hp => ?_) ?_
                  · cases dst <;> exact hp
                  · cases dst <;> exact hp
                  · cases dst <;> rfl
                · rw [← h.len]; exact v_ok
                · rw [put_loc, ← h.len, v_last]; simp [upd]
            · cases hv
          · cases hv
        | false =>
          refine ⟨_, rfl, put_sto .., ?_⟩
          refine Corr.addLoc ?_ ?_ (gok_append hG).1 fun e => ?_
          · have h1 := (h.more (vs := [v]) (k := 1) rfl).put (d := dst) (x := .undef) (sv := .ex (.k .undef)) ⟨rfl, rfl⟩
            refine h1.sub (fun p hp => ?_) (fun p hp => ?_) ?_
            · cases dst <;> exact hp
            · cases dst <;> (simp only [SS.put, SS.more, List.mem_filter] at hp ⊢; exact hp.1)
            · cases dst <;> rfl
          · rw [← h.len]; exact v_ok
          · rw [(gok_append hG).2, hb] at e; cases e
      · cases hs
    · cases hs
  · rename_i p
    split at hs
    · rename_i q c hp hc
      split at hs
      · rename_i hq
        subst hq
        simp only [Option.some.injEq, Prod.mk.injEq] at hs
        obtain ⟨rfl, rfl⟩ := hs
        have hcv := h.cont hc
        simp only [runIns, guarded_eq, (gok_append hG).2, List.map_cons, List.map_nil, (ok_append hcv.1).2] at hr
        split at hr
        · rename_i v hv
          split at hr
          · rename_i u hu
            simp only [Option.some.injEq, Prod.mk.injEq, List.append_assoc, List.cons_append, List.nil_append] at hr
            obtain ⟨rfl, rfl⟩ := hr
            have e1 : Ex.ok (ρ ++ [v, u]).length (.v s.nv) = true := by simp [Ex.ok, Nat.blt_eq, h.len]
            have e2 : Ex.val (ρ ++ [v, u]) (.v s.nv) = v := by simp [Ex.val, ← h.len, List.getD_eq_getElem?_getD]
            have e3 : Ex.ok (ρ ++ [v, u]).length (.v (s.nv + 1)) = true := by simp [Ex.ok, Nat.blt_eq, h.len]
            have e4 : Ex.val (ρ ++ [v, u]) (.v (s.nv + 1)) = u := by simp [Ex.val, ← h.len, List.getD_eq_getElem?_getD]
            cases hb : gB ρ G with
            | true =>
              rw [hb] at hv hu
              have hp' := h.ptr hp hb
              have hc' := hcv.2 hb
              simp only [if_true, JOp.sem, ← hc'] at hv hu
              have hn : nextSem q (st.loc q) [.loc q (st.loc q).1 0] = some (v, ((st.loc q).1, u)) := by
                unfold jnxSem at hv hu
                split at hv
                · rename_i z pos hz
                  simp only [List.cons.injEq, and_true] at hz
                  rw [hz] at hu
                  simp only at hu
                  simp only [nextSem, true_and, if_true, hz]
                  by_cases hlt : pos < z.length
                  · simp only [hlt, if_true, Option.some.injEq] at hv hu ⊢
                    subst hv hu
                    simp
                  · simp only [hlt, if_false, Option.some.injEq] at hv hu ⊢
                    subst hv hu
                    simp [← hz]
                · cases hv
              refine ⟨({ st with loc := upd st.loc q ((st.loc q).1, u) }).put dst v, ?_, by rw [put_sto], ?_⟩
              · simp only [if_true, execOp', LOp.sem, List.map_cons, List.map_nil, hp', hn, Option.map_some]
              · refine Corr.addLoc ?_ e3 (gok_append hG).1 fun _ => ?_
                · have h1 := ((h.setc (r := q) (c := u)).more (vs := [v, u]) (k := 2) rfl).put (d := dst) (x := v) (sv := .ex (.v s.nv)) ⟨e1, e2.symm⟩
                  refine h1.sub (fun p hp => ?_) (fun p hp => ?_) ?_
                  · cases dst <;> exact hp
                  · cases dst <;> exact hp
                  · cases dst <;> rfl
                · rw [put_loc, e4]; simp [upd]
            | false =>
              rw [hb] at hv hu
              simp at hv hu
              subst hv hu
              refine ⟨_, rfl, put_sto .., ?_⟩
              refine Corr.addLoc ?_ e3 (gok_append hG).1 fun e => ?_
              · have h1 := (h.more (vs := [DVal.undef, DVal.undef]) (k := 2) rfl).put (d := dst) (x := .undef) (sv := .ex (.v s.nv)) ⟨e1, e2.symm⟩
                refine h1.sub (fun p hp => ?_) (fun p hp => ?_) ?_
                · cases dst <;> exact hp
                · cases dst <;> (simp only [SS.put, SS.more, List.mem_filter] at hp ⊢; exact hp.1)
                · cases dst <;> rfl
              · rw [(gok_append hG).2, hb] at e; cases e
          · cases hr
        · cases hr
      · cases hs
    · cases hs
  · cases hs
theorem symbOp_sound {s s' : SS} {o : IOper} {is : List JIns} {ρ ρ' : List DVal} {st : St} {σ' : Sto} (hs : symbOp s o = some (is, s')) (h : Corr s ρ st) (hr : runIns cp ci is ρ st.sto = some (ρ', σ')) :
    ∃ st', stepOp cp ci o st = some st' ∧ st'.sto = σ' ∧ Corr s' ρ' st' := by
  unfold symbOp at hs
  split at hs
  · cases hs
  · rename_i G hg
    have hG := (h.guard hg).1
    rw [step_eq h hg]
    split at hs
    · rename_i q e; rw [e]; exact symbP_sound hs h hG hr
    · rename_i r sz e
      rw [e]
      split at hs
      · rename_i x hxs
        split at hs
        · rename_i q off c hp hc
          split at hs
          · rename_i hq
            subst hq
            simp only [Option.some.injEq, Prod.mk.injEq] at hs
            obtain ⟨rfl, rfl⟩ := hs
            obtain ⟨v, hv, rfl, rfl⟩ := runIns_p hr
            refine ⟨st.put o.dst v, ?_, put_sto .., h.bind o.dst v⟩
            cases hb : gB ρ G with
            | true =>
              rw [hb] at hv
              have hp' := h.ptr hp hb
              have hc' := (h.cont hc).2 hb
              simp only [if_true, JOp.sem, POp.sem, List.map_cons, List.map_nil, ← hc'] at hv
              unfold fldSem at hv
              split at hv
              · rename_i cs hcs
                simp only [List.cons.injEq, and_true] at hcs
                simp only [if_true, execOp', hxs, List.map_cons, List.map_nil, hp', readLoc, true_and, hcs, hv, Option.map_some]
              · cases hv
            | false => rw [hb] at hv; simp at hv; subst hv; simp
          · cases hs
        · cases hs
      · cases hs
    · rename_i r q e; rw [e]; exact symbL_sound hs h hG hr
    · rename_i b q e
      rw [e]
      simp only [Option.map_eq_some_iff, Prod.mk.injEq] at hs
      obtain ⟨es, hes, rfl, rfl⟩ := hs
      have hval := h.exs hes
      simp only [runIns, guardedS_eq] at hr
      split at hr
      · rename_i v σ2 e2
        simp only [Option.some.injEq, Prod.mk.injEq] at hr
        obtain ⟨rfl, rfl⟩ := hr
        cases hb : gB ρ G with
        | true =>
          rw [hb] at e2
          simp only [if_true] at e2
          refine ⟨({ st with sto := σ2 }).put o.dst v, ?_, by rw [put_sto], (h.sto σ2).bind o.dst v⟩
          simp only [if_true, execOp', hval, e2, Option.map_some]
        | false =>
          rw [hb] at e2
          simp at e2
          obtain ⟨rfl, rfl⟩ := e2
          exact ⟨_, rfl, put_sto .., h.bind o.dst .undef⟩
      · cases hr
theorem symbOps_sound : ∀ {ops : List IOper} {s s' : SS} {is : List JIns} {ρ ρ' : List DVal} {st : St} {σ' : Sto}, symbOps ops s = some (is, s') → Corr s ρ st → runIns cp ci is ρ st.sto = some (ρ', σ') →
    ∃ st', runOps cp ci ops st = some st' ∧ st'.sto = σ' ∧ Corr s' ρ' st'
  | [], s, s', is, ρ, ρ', st, σ', hs, h, hr => by
    simp only [symbOps, Option.some.injEq, Prod.mk.injEq] at hs
    obtain ⟨rfl, rfl⟩ := hs
    simp only [runIns, Option.some.injEq, Prod.mk.injEq] at hr
    obtain ⟨rfl, rfl⟩ := hr
    exact ⟨st, rfl, rfl, h⟩
  | o :: os, s, s', is, ρ, ρ', st, σ', hs, h, hr => by
    simp only [symbOps] at hs
    split at hs
    · rename_i is1 s1 h1
      split at hs
      · rename_i is2 s2 h2
        simp only [Option.some.injEq, Prod.mk.injEq] at hs
        obtain ⟨rfl, rfl⟩ := hs
        rw [runIns_append] at hr
        simp only [Option.bind_eq_some_iff] at hr
        obtain ⟨⟨ρ1, σ1⟩, hr1, hr2⟩ := hr
        obtain ⟨st1, a1, rfl, a3⟩ := symbOp_sound h1 h hr1
        obtain ⟨st2, b1, b2, b3⟩ := symbOps_sound h2 a3 hr2
        exact ⟨st2, by simp only [runOps, a1, Option.bind_some, b1], b2, b3⟩
      · cases hs
    · cases hs
end
end Go.Proofs.Ytdibpeknpmhknaa
namespace Go.Proofs.Ytdibpeknpmhknaa
set_option linter.unusedVariables false
set_option linter.unusedSimpArgs false
open Go
structure Fr (W WR WB : List Nat) (st st' : St) : Prop where
  env : ∀ t, t ∉ W → st'.env t = st.env t
  loc : ∀ r, r ∉ WR → (st'.loc r).2 = (st.loc r).2
  ep : ∀ r, r ∉ WB → (st'.loc r).1 = (st.loc r).1
theorem Fr.refl (W WR WB : List Nat) (st : St) : Fr W WR WB st st := ⟨fun _ _ => rfl, fun _ _ => rfl, fun _ _ => rfl⟩
theorem Fr.trans {W WR WB : List Nat} {a b c : St} (h : Fr W WR WB a b) (h' : Fr W WR WB b c) : Fr W WR WB a c :=
  ⟨fun t ht => (h'.env t ht).trans (h.env t ht), fun r hr => (h'.loc r hr).trans (h.loc r hr), fun r hr => (h'.ep r hr).trans (h.ep r hr)⟩
theorem Fr.wider {W WR WB W' WR' WB' : List Nat} {a b : St} (h : Fr W WR WB a b) (h1 : ∀ x, x ∈ W → x ∈ W') (h2 : ∀ x, x ∈ WR → x ∈ WR') (h3 : ∀ x, x ∈ WB → x ∈ WB') : Fr W' WR' WB' a b :=
  ⟨fun t ht => h.env t fun hm => ht (h1 t hm), fun r hr => h.loc r fun hm => hr (h2 r hm), fun r hr => h.ep r fun hm => hr (h3 r hm)⟩
def frCode (c : ICode) (st st' : St) : Prop := Fr (c.wr IOper.dst) (c.wr IOper.root) (c.wr IOper.boxed) st st'
section
variable {cp : Nat → List DVal → Option DVal} {ci : Nat → List DVal → Sto → Option (DVal × Sto)} {n : Nat}
theorem put_env {st : St} {d : Option Nat} {x : DVal} {t : Nat} (h : d ≠ some t) : (st.put d x).env t = st.env t := by
  cases d with
  | none => rfl
  | some u =>
    have : t ≠ u := fun e => h (by rw [e])
    simp [St.put, upd, this]
theorem op_frame {o : IOper} {st st' : St} (h : stepOp cp ci o st = some st') : (∀ t, o.dst ≠ some t → st'.env t = st.env t) ∧ (∀ r, o.root ≠ some r → (st'.loc r).2 = (st.loc r).2) ∧ (∀ r, o.boxed ≠ some r → (st'.loc r).1 = (st.loc r).1) := by
  have hput : ∀ (st0 : St) (x : DVal), st0.loc = st.loc → st0.env = st.env → st' = st0.put o.dst x → (∀ t, o.dst ≠ some t → st'.env t = st.env t) ∧ (∀ r, o.root ≠ some r → (st'.loc r).2 = (st.loc r).2) ∧ (∀ r, o.boxed ≠ some r → (st'.loc r).1 = (st.loc r).1) := by
    rintro st0 x h1 h2 rfl
    exact ⟨fun t ht => by rw [put_env ht, h2], fun r _ => by rw [put_loc, h1], fun r _ => by rw [put_loc, h1]⟩
  have hexec : execOp' cp ci o.dst o.op o.xs st = some st' → (∀ t, o.dst ≠ some t → st'.env t = st.env t) ∧ (∀ r, o.root ≠ some r → (st'.loc r).2 = (st.loc r).2) ∧ (∀ r, o.boxed ≠ some r → (st'.loc r).1 = (st.loc r).1) := by
    clear h
    intro h
    obtain ⟨dst, op, xs, g⟩ := o
    simp only at h hput
    unfold execOp' at h
    split at h
    · simp only [Option.map_eq_some_iff] at h
      obtain ⟨x, -, rfl⟩ := h
      exact hput st x rfl rfl rfl
    · simp only [Option.map_eq_some_iff] at h
      obtain ⟨x, -, rfl⟩ := h
      exact hput st x rfl rfl rfl
    · rename_i r q
      simp only [Option.map_eq_some_iff] at h
      obtain ⟨x, hx, rfl⟩ := h
      refine ⟨fun t ht => put_env (st := { st with loc := upd st.loc r x.2 }) ht, fun p hp => ?_, fun p hp => ?_⟩
      · have : p ≠ r := fun e => hp (by simp [IOper.root, e])
        rw [put_loc]; simp [upd, this]
      · by_cases e : p = r
        · subst e
          rw [put_loc]
          simp only [upd, if_true]
          cases q with
          | box => simp [IOper.boxed] at hp
          | alloc z => simp [IOper.boxed] at hp
          | rng => simp [IOper.boxed] at hp
          | st k =>
            simp only [LOp.sem] at hx
            unfold stLSem at hx
            split at hx
            · split at hx
              · split at hx
                · simp only [Option.map_eq_some_iff] at hx
                  obtain ⟨_, -, rfl⟩ := hx
                  rfl
                · cases hx
              · cases hx
            · cases hx
          | next =>
            simp only [LOp.sem] at hx
            unfold nextSem at hx
            split at hx
            · split at hx
              · split at hx
                · split at hx <;> (simp only [Option.some.injEq] at hx; rw [← hx])
                · cases hx
              · cases hx
            · cases hx
        · rw [put_loc]; simp [upd, e]
    · simp only [Option.map_eq_some_iff] at h
      obtain ⟨x, -, rfl⟩ := h
      exact hput { st with sto := x.2 } x.1 rfl rfl rfl
  unfold stepOp at h
  split at h
  · exact hexec h
  · split at h
    · exact hexec h
    · simp only [Option.some.injEq] at h
      exact hput st .undef rfl rfl h.symm
theorem ops_frame : ∀ {ops : List IOper} {st st' : St}, runOps cp ci ops st = some st' → Fr (ops.filterMap IOper.dst) (ops.filterMap IOper.root) (ops.filterMap IOper.boxed) st st'
  | [], st, st', h => by simp only [runOps, Option.some.injEq] at h; subst h; exact Fr.refl ..
  | o :: os, st, st', h => by
    simp only [runOps, Option.bind_eq_some_iff] at h
    obtain ⟨st1, h1, h2⟩ := h
    obtain ⟨a1, a2, a3⟩ := op_frame h1
    have b := ops_frame h2
    have sub : ∀ (f : IOper → Option Nat) x, x ∈ os.filterMap f → x ∈ (o :: os).filterMap f := fun f x hx => by
      simp only [List.mem_filterMap] at hx ⊢
      obtain ⟨y, h1, h2⟩ := hx
      exact ⟨y, List.mem_cons_of_mem _ h1, h2⟩
    have hd : ∀ (f : IOper → Option Nat) x, x ∉ (o :: os).filterMap f → f o ≠ some x := fun f x hx e => hx (by simp only [List.mem_filterMap]; exact ⟨o, List.mem_cons_self, e⟩)
    exact Fr.trans ⟨fun t ht => a1 t (hd _ t ht), fun r hr => a2 r (hd _ r hr), fun r hr => a3 r (hd _ r hr)⟩ (b.wider (sub _) (sub _) (sub _))
theorem code_frame : ∀ (c : ICode) {st st' : St} {e : Exit}, runCode cp ci n c st = some (e, st') → frCode c st st'
  | .skip, st, st', e, h => by simp only [runCode, Option.some.injEq, Prod.mk.injEq] at h; obtain ⟨-, rfl⟩ := h; exact Fr.refl ..
  | .ret, st, st', e, h => by simp only [runCode, Option.some.injEq, Prod.mk.injEq] at h; obtain ⟨-, rfl⟩ := h; exact Fr.refl ..
  | .exit i, st, st', e, h => by simp only [runCode, Option.some.injEq, Prod.mk.injEq] at h; obtain ⟨-, rfl⟩ := h; exact Fr.refl ..
  | .reg ops, st, st', e, h => by
    simp only [runCode, Option.map_eq_some_iff, Prod.mk.injEq] at h
    obtain ⟨s, h1, -, rfl⟩ := h
    exact ops_frame h1
  | .seq a b, st, st', e, h => by
    have wl : ∀ {x y : St}, frCode a x y → frCode (.seq a b) x y := fun h => h.wider (fun x hx => by simp [ICode.wr, hx]) (fun x hx => by simp [ICode.wr, hx]) (fun x hx => by simp [ICode.wr, hx])
    have wr : ∀ {x y : St}, frCode b x y → frCode (.seq a b) x y := fun h => h.wider (fun x hx => by simp [ICode.wr, hx]) (fun x hx => by simp [ICode.wr, hx]) (fun x hx => by simp [ICode.wr, hx])
    simp only [runCode] at h
    split at h
    · rename_i s hs
      exact (wl (code_frame a hs)).trans (wr (code_frame b h))
    · exact wl (code_frame a h)
  | .cond c a b, st, st', e, h => by
    simp only [runCode] at h
    split at h
    · exact (code_frame a h).wider (fun x hx => by simp [ICode.wr, hx]) (fun x hx => by simp [ICode.wr, hx]) (fun x hx => by simp [ICode.wr, hx])
    · exact (code_frame b h).wider (fun x hx => by simp [ICode.wr, hx]) (fun x hx => by simp [ICode.wr, hx]) (fun x hx => by simp [ICode.wr, hx])
    · cases h
  | .block id a, st, st', e, h => by
    simp only [runCode] at h
    split at h
    · rename_i i s hs
      have := code_frame a hs
      split at h <;> (simp only [Option.some.injEq, Prod.mk.injEq] at h; obtain ⟨-, rfl⟩ := h; exact this)
    · exact code_frame a h
  | .loop a, st, st', e, h => by
    simp only [runCode] at h
    have aux : ∀ m st, iter (runCode cp ci n a) m st = some (e, st') → frCode a st st' := by
      intro m
      induction m with
      | zero => intro st h; simp [iter] at h
      | succ m ih =>
        intro st h
        simp only [iter] at h
        split at h
        · rename_i s hs
          exact (code_frame a hs).trans (ih s h)
        · exact code_frame a h
    exact aux n st h
theorem varsEnv_ok {ρ : List DVal} {L : Nat → Nat × DVal} {env : Nat → DVal} {vs us : List DVal} : ∀ {ts : List Nat} {b : Nat}, ρ.length + vs.length = b → ∀ t sv, (t, sv) ∈ varsEnv b ts → SVok (ρ ++ (vs ++ (ts.map env ++ us))) L (env t) sv
  | [], b, hb, t, sv, hm => by simp [varsEnv] at hm
  | d :: ds, b, hb, t, sv, hm => by
    simp only [varsEnv, List.mem_cons, Prod.mk.injEq] at hm
    rcases hm with ⟨rfl, rfl⟩ | hm
    · refine ⟨by simp [Ex.ok, Nat.blt_eq]; omega, ?_⟩
      subst hb
      simp [Ex.val, List.getD_eq_getElem?_getD]
    · have := varsEnv_ok (ρ := ρ) (vs := vs ++ [env d]) (us := us) (ts := ds) (b := b + 1) (L := L) (env := env) (by simp; omega) t sv hm
      simpa using this
theorem varsLoc_ok {ρ : List DVal} {f : Nat → DVal} {vs : List DVal} : ∀ {rs : List Nat} {b : Nat}, ρ.length + vs.length = b → ∀ r e g, (r, (e, g)) ∈ varsLoc b rs → g = none ∧ e.ok (ρ ++ (vs ++ rs.map f)).length = true ∧ f r = e.val (ρ ++ (vs ++ rs.map f))
  | [], b, hb, r, e, g, hm => by simp [varsLoc] at hm
  | d :: ds, b, hb, r, e, g, hm => by
    simp only [varsLoc, List.mem_cons, Prod.mk.injEq] at hm
    rcases hm with ⟨rfl, rfl, rfl⟩ | hm
    · refine ⟨rfl, by simp [Ex.ok, Nat.blt_eq]; omega, ?_⟩
      subst hb
      simp [Ex.val, List.getD_eq_getElem?_getD]
    · have := varsLoc_ok (ρ := ρ) (f := f) (vs := vs ++ [f d]) (rs := ds) (b := b + 1) (by simp; omega) r e g hm
      simpa using this
def valsOf (a : ICode) (s : SS) (st : St) : List DVal :=
  (slotVars (a.wr IOper.dst) s.env).map st.env ++ (rootVars (a.wr IOper.root) s.loc).map fun r => (st.loc r).2
theorem valsOf_length {a : ICode} {s : SS} {st : St} : (valsOf a s st).length = numVals a s := by simp [valsOf, numVals]
theorem padFrom_drop {vs : List DVal} : ∀ {m i : Nat}, i + m = vs.length → padFrom vs i m = vs.drop i
  | 0, i, h => by rw [List.drop_eq_nil_of_le (by omega)]; rfl
  | m + 1, i, h => by
    rw [padFrom, padFrom_drop (by omega), List.drop_eq_getElem_cons (by omega : i < vs.length)]
    rw [List.getD_eq_getElem?_getD, List.getElem?_eq_getElem (by omega : i < vs.length)]
    rfl
@[simp] theorem padFrom_vals {a : ICode} {s : SS} {st : St} : padFrom (valsOf a s st) 0 (numVals a s) = valsOf a s st := by
  rw [padFrom_drop (by rw [valsOf_length]; omega)]; rfl
def PtrsOk (a : ICode) (s : SS) (st : St) : Prop := ∀ t r off, (t, (r, off)) ∈ ptrVars (a.wr IOper.dst) s.env → st.env t = .loc r (st.loc r).1 off
theorem head_corr {a : ICode} {s : SS} {ρ : List DVal} {st0 st : St} (h : Corr s ρ st0) (hf : frCode a st0 st) (hp : PtrsOk a s st) (dep : Nat) : Corr (headOf a s dep) (ρ ++ valsOf a s st) st := by
  refine ⟨?_, fun t sv hm => ?_, fun r e g hm => ?_⟩
  · simp [headOf, valsOf, h.len]
  · simp only [headOf, List.mem_append, List.mem_map] at hm
    rcases hm with (hm | ⟨⟨t', r, off⟩, hm, he⟩) | hm
    · have := varsEnv_ok (ρ := ρ) (vs := []) (us := (rootVars (a.wr IOper.root) s.loc).map fun r => (st.loc r).2) (L := st.loc) (env := st.env) (by simp [h.len]) t sv hm
      simpa [valsOf] using this
    · simp only [Prod.mk.injEq] at he
      obtain ⟨rfl, rfl⟩ := he
      exact ⟨trivial, fun _ => hp _ _ _ hm⟩
    · simp only [keepEnv, List.mem_filter, Bool.and_eq_true, Bool.not_eq_true', List.contains_eq_mem, decide_eq_false_iff_not] at hm
      obtain ⟨hm, hw, hb⟩ := hm
      have := (h.env t sv hm).append (vs := valsOf a s st)
      rw [hf.env t hw]
      cases sv with
      | ex e => exact this
      | ptr r off g =>
        simp only at hb
        refine ⟨this.1, fun hg => ?_⟩
        rw [hf.ep r (by simpa using hb)]
        exact this.2 hg
  · simp only [headOf, List.mem_append] at hm
    rcases hm with hm | hm
    · have := varsLoc_ok (ρ := ρ) (f := fun r => (st.loc r).2) (vs := (slotVars (a.wr IOper.dst) s.env).map st.env) (by simp [h.len]) r e g hm
      obtain ⟨rfl, h1, h2⟩ := this
      exact ⟨h1, trivial, fun _ => h2⟩
    · simp only [keepLoc, List.mem_filter, Bool.not_eq_true', List.contains_eq_mem, decide_eq_false_iff_not] at hm
      obtain ⟨h1, h2, h3⟩ := h.loc r e g hm.1
      refine ⟨(ok_append h1).1, (gok_append h2).1, fun hg => ?_⟩
      rw [(gok_append h2).2] at hg
      rw [hf.loc r hm.2, (ok_append h1).2]
      exact h3 hg
theorem getSlots_ok {s : SS} {ρ : List DVal} {st : St} (h : Corr s ρ st) : ∀ {ts : List Nat} {es : List Ex}, getSlots s ts = some es → es.map (Ex.val ρ) = ts.map st.env
  | [], es, hs => by simp only [getSlots, Option.some.injEq] at hs; subst hs; rfl
  | t :: ts, es, hs => by
    simp only [getSlots] at hs
    split at hs
    · rename_i e es' h1 h2
      simp only [Option.some.injEq] at hs
      subst hs
      simp only [List.map_cons, getSlots_ok h h2, ← (h.ex h1).2, Opd.val]
    · cases hs
theorem getRoots_ok {s : SS} {ρ : List DVal} {st : St} (h : Corr s ρ st) : ∀ {ts : List Nat} {es : List Ex}, getRoots s ts = some es → es.map (Ex.val ρ) = ts.map fun r => (st.loc r).2
  | [], es, hs => by simp only [getRoots, Option.some.injEq] at hs; subst hs; rfl
  | t :: ts, es, hs => by
    simp only [getRoots] at hs
    split at hs
    · rename_i e es' h1 h2
      simp only [Option.some.injEq] at hs
      subst hs
      simp only [List.map_cons, getRoots_ok h h2, (h.cont h1).2 rfl]
    · cases hs
theorem samePtrs_ok {s : SS} {ρ : List DVal} {st : St} (h : Corr s ρ st) : ∀ {ps : List (Nat × (Nat × Nat))}, samePtrs s ps = true → ∀ t r off, (t, (r, off)) ∈ ps → st.env t = .loc r (st.loc r).1 off
  | [], _, t, r, off, hm => by simp at hm
  | (u, (q, o)) :: ps, hs, t, r, off, hm => by
    simp only [samePtrs, Bool.and_eq_true] at hs
    simp only [List.mem_cons, Prod.mk.injEq] at hm
    rcases hm with ⟨rfl, rfl, rfl⟩ | hm
    · have h1 := hs.1
      split at h1
      · rename_i q' o' hp
        simp only [Bool.and_eq_true] at h1
        have e1 := Nat.eq_of_beq_eq_true h1.1
        have e2 := Nat.eq_of_beq_eq_true h1.2
        subst e1 e2
        exact h.ptr hp rfl
      · cases h1
    · exact samePtrs_ok h hs.2 t r off hm
theorem nowVals_ok {a : ICode} {s0 s : SS} {ρ : List DVal} {st : St} {es : List Ex} (h : Corr s ρ st) (hs : nowVals a s0 s = some es) : es.map (Ex.val ρ) = valsOf a s0 st ∧ PtrsOk a s0 st := by
  simp only [nowVals] at hs
  split at hs
  · rename_i e1 e2 h1 h2
    split at hs
    · rename_i h3
      simp only [Option.some.injEq] at hs
      subst hs
      exact ⟨by rw [List.map_append, getSlots_ok h h1, getRoots_ok h h2]; rfl, samePtrs_ok h h3⟩
    · cases hs
  · cases hs
theorem iterJ_next {l i : Nat} {f : List DVal → Sto → Option Out} {vs' : List DVal} {σ' : Sto} : ∀ {m : Nat} {vs : List DVal} {σ : Sto}, iterJ l f m vs σ = some (.next i vs' σ') → i ≠ l ∧ ∃ us τ, f us τ = some (.next i vs' σ')
  | 0, vs, σ, h => by simp [iterJ] at h
  | m + 1, vs, σ, h => by
    simp only [iterJ] at h
    split at h
    · rename_i j ws τ e
      split at h
      · exact iterJ_next h
      · rename_i hne
        simp only [Option.some.injEq, Out.next.injEq] at h
        obtain ⟨rfl, rfl, rfl⟩ := h
        exact ⟨hne, _, _, e⟩
    · rename_i hne
      exact absurd h (hne i vs' σ')
theorem esc_next {l i : Nat} {vs : List DVal} {τ : Sto} : ∀ (t : T) (ρ : List DVal) (σ : Sto), t.esc l = true → den cp ci n t ρ σ = some (.next i vs τ) → i ≠ l
  | .ret xs, ρ, σ, he, h => by
    simp only [den, retJ] at h
    split at h <;> simp at h
  | .p o xs g k, ρ, σ, he, h => by
    simp only [den, bndP] at h
    split at h
    · exact esc_next k _ _ he h
    · cases h
  | .s o xs g k, ρ, σ, he, h => by
    simp only [den, bndS] at h
    split at h
    · exact esc_next k _ _ he h
    · cases h
  | .ite c a b, ρ, σ, he, h => by
    simp only [T.esc, Bool.and_eq_true] at he
    simp only [den, iteJ] at h
    split at h
    · exact esc_next a _ _ he.1 h
    · exact esc_next b _ _ he.2 h
    · cases h
  | .loop j init body, ρ, σ, he, h => by
    simp only [T.esc, Bool.or_eq_true, beq_iff_eq] at he
    simp only [den] at h
    obtain ⟨h1, us, τ', h2⟩ := iterJ_next h
    rcases he with rfl | he
    · exact h1
    · exact esc_next body _ _ he h2
  | .join j m body k, ρ, σ, he, h => by
    simp only [T.esc, Bool.and_eq_true, Bool.or_eq_true, beq_iff_eq] at he
    simp only [den, joinJ] at h
    split at h
    · rename_i i' vs' σ' e
      split at h
      · exact esc_next k _ _ he.2 h
      · rename_i hne
        simp only [Option.some.injEq, Out.next.injEq] at h
        obtain ⟨rfl, rfl, rfl⟩ := h
        rcases he.1 with rfl | he
        · exact hne
        · exact esc_next body _ _ he e
    · exact absurd h (by rename_i hne; exact hne _ _ _)
  | .next j xs, ρ, σ, he, h => by
    simp only [T.esc, bne_iff_ne, ne_eq] at he
    simp only [den, Option.some.injEq, Out.next.injEq] at h
    rw [← h.1]
    exact he
theorem noEsc_some {l : Nat} {t t' : T} (h : noEsc l t = some t') : t' = t ∧ t.esc l = true := by
  unfold noEsc at h
  split at h
  · rename_i he; simp only [Option.some.injEq] at h; exact ⟨h.symm, he⟩
  · cases h
def Leads (cp : Nat → List DVal → Option DVal) (ci : Nat → List DVal → Sto → Option (DVal × Sto)) (n : Nat) (k : Exit → SS → Option T) (out : Out) (e : Exit) (st' : St) : Prop :=
  ∃ s' t' ρ', k e s' = some t' ∧ Corr s' ρ' st' ∧ den cp ci n t' ρ' st'.sto = some out
theorem joinAt_leads {a : ICode} {s : SS} {k : Exit → SS → Option T} {out : Out} {e : Exit} {st' : St} (h : Leads cp ci n (joinAt a s k) out e st') :
    (e = .normal ∧ out = .next s.dep (valsOf a s st') st'.sto ∧ PtrsOk a s st') ∨ (e ≠ .normal ∧ (∀ vs τ, out ≠ .next s.dep vs τ) ∧ Leads cp ci n k out e st') := by
  obtain ⟨s', t', ρ', h1, h2, h3⟩ := h
  have other : e ≠ .normal → (k e s').bind (noEsc s.dep) = some t' → (e = .normal ∧ out = .next s.dep (valsOf a s st') st'.sto ∧ PtrsOk a s st') ∨ (e ≠ .normal ∧ (∀ vs τ, out ≠ .next s.dep vs τ) ∧ Leads cp ci n k out e st') := by
    intro hne h1
    simp only [Option.bind_eq_some_iff] at h1
    obtain ⟨t, ht, hn⟩ := h1
    obtain ⟨rfl, hesc⟩ := noEsc_some hn
    refine .inr ⟨hne, fun vs τ e => ?_, s', t', ρ', ht, h2, h3⟩
    rw [e] at h3
    exact esc_next _ _ _ hesc h3 rfl
  unfold joinAt at h1
  split at h1
  · simp only [Option.map_eq_some_iff] at h1
    obtain ⟨es, he, rfl⟩ := h1
    simp only [den, Option.some.injEq] at h3
    obtain ⟨a1, a2⟩ := nowVals_ok h2 he
    rw [a1] at h3
    exact .inl ⟨rfl, h3.symm, a2⟩
  · rename_i hne
    exact other (fun e => hne e) h1
theorem symb_sound : ∀ (c : ICode) (rs : Nat) (s : SS) (k : Exit → SS → Option T) (t : T), symb c rs s k = some t → ∀ (ρ : List DVal) (st : St) (out : Out), Corr s ρ st → den cp ci n t ρ st.sto = some out →
    ∃ e st', runCode cp ci n c st = some (e, st') ∧ Leads cp ci n k out e st'
  | .skip, rs, s, k, t, hs, ρ, st, out, h, hd => ⟨.normal, st, rfl, s, t, ρ, hs, h, hd⟩
  | .ret, rs, s, k, t, hs, ρ, st, out, h, hd => ⟨.ret, st, rfl, s, t, ρ, hs, h, hd⟩
  | .exit i, rs, s, k, t, hs, ρ, st, out, h, hd => ⟨.exit i, st, rfl, s, t, ρ, hs, h, hd⟩
  | .reg ops, rs, s, k, t, hs, ρ, st, out, h, hd => by
    simp only [symb] at hs
    split at hs
    · rename_i is s' h1
      simp only [Option.map_eq_some_iff] at hs
      obtain ⟨t', hk, rfl⟩ := hs
      rw [den_insTree] at hd
      simp only [Option.bind_eq_some_iff] at hd
      obtain ⟨⟨ρ', σ'⟩, hr, hd⟩ := hd
      obtain ⟨st', a1, rfl, a3⟩ := symbOps_sound h1 h hr
      exact ⟨.normal, st', by simp only [runCode, a1, Option.map_some], s', t', ρ', hk, a3, hd⟩
    · cases hs
  | .seq a b, rs, s, k, t, hs, ρ, st, out, h, hd => by
    simp only [symb] at hs
    obtain ⟨e, st1, h1, s1, t1, ρ1, h2, h3, h4⟩ := symb_sound a _ _ _ _ hs ρ st out h hd
    simp only at h2
    split at h2
    · obtain ⟨e2, st2, g1, g2⟩ := symb_sound b _ _ _ _ h2 ρ1 st1 out h3 h4
      exact ⟨e2, st2, by simp only [runCode, h1, g1], g2⟩
    · rename_i hne
      refine ⟨e, st1, ?_, s1, t1, ρ1, h2, h3, h4⟩
      simp only [runCode, h1]
      cases e <;> first | exact absurd rfl hne | rfl
  | .cond c a b, rs, s, k, t, hs, ρ, st, out, h, hd => by
    simp only [symb] at hs
    split at hs
    · rename_i e he
      have hc := (h.ex he).2
      split at hs
      · split at hs
        · rename_i ta tb tk h1 h2 h3
          simp only [Option.some.injEq] at hs
          subst hs
          simp only [den, joinJ] at hd
          have key : ∀ (x : ICode) (tx : T), (∀ (ρ : List DVal) (st : St) (out : Out), Corr { s with dep := s.dep + 1 } ρ st → den cp ci n tx ρ st.sto = some out → ∃ e st', runCode cp ci n x st = some (e, st') ∧ Leads cp ci n (joinAt (.cond c a b) s k) out e st') → runCode cp ci n (.cond c a b) st = runCode cp ci n x st →
              ∀ o, den cp ci n tx ρ st.sto = some o → (match some o with | some (.next i vs' σ') => if i = s.dep then den cp ci n tk (ρ ++ padFrom vs' 0 (numVals (.cond c a b) s)) σ' else some (.next i vs' σ') | r => r) = some out → ∃ e st', runCode cp ci n (.cond c a b) st = some (e, st') ∧ Leads cp ci n k out e st' := by
            intro x tx hx hrun o ho hd
            obtain ⟨e1, st1, g1, g2⟩ := hx ρ st o (h.dep _) ho
            rw [← hrun] at g1
            rcases joinAt_leads g2 with ⟨rfl, rfl, g3⟩ | ⟨g3, g4, g5⟩
            · simp only [if_true, padFrom_vals] at hd
              exact ⟨.normal, st1, g1, _, tk, _, h3, head_corr h (code_frame _ g1) g3 _, hd⟩
            · refine ⟨e1, st1, g1, ?_⟩
              cases o with
              | done v σ => simp only [Option.some.injEq] at hd; rw [← hd]; exact g5
              | next i vs τ =>
                have : i ≠ s.dep := fun e => g4 vs τ (by rw [e])
                simp only [this, if_false, Option.some.injEq] at hd
                rw [← hd]; exact g5
          simp only [iteJ] at hd
          rw [← hc] at hd
          split at hd
          all_goals rename_i heq
          · split at heq
            · rename_i hv
              exact key a ta (symb_sound a _ _ _ _ h1) (by simp only [runCode, hv]) _ heq (by simpa using hd)
            · rename_i hv
              exact key b tb (symb_sound b _ _ _ _ h2) (by simp only [runCode, hv]) _ heq (by simpa using hd)
            · cases heq
          · split at hd
            · rename_i hv
              exact key a ta (symb_sound a _ _ _ _ h1) (by simp only [runCode, hv]) out hd (by
                cases out with
                | done v σ => rfl
                | next i vs τ => exact absurd (by simp only [hv]; exact hd) (heq i vs τ))
            · rename_i hv
              exact key b tb (symb_sound b _ _ _ _ h2) (by simp only [runCode, hv]) out hd (by
                cases out with
                | done v σ => rfl
                | next i vs τ => exact absurd (by simp only [hv]; exact hd) (heq i vs τ))
            · cases hd
        · cases hs
      · split at hs
        · rename_i ta tb h1 h2
          simp only [Option.some.injEq] at hs
          subst hs
          simp only [den, iteJ] at hd
          rw [← hc] at hd
          split at hd
          · rename_i hv
            obtain ⟨e1, st1, g1, g2⟩ := symb_sound a _ _ _ _ h1 ρ st out h hd
            exact ⟨e1, st1, by simp only [runCode, hv, g1], g2⟩
          · rename_i hv
            obtain ⟨e1, st1, g1, g2⟩ := symb_sound b _ _ _ _ h2 ρ st out h hd
            exact ⟨e1, st1, by simp only [runCode, hv, g1], g2⟩
          · cases hd
        · cases hs
    · cases hs
  | .block id a, rs, s, k, t, hs, ρ, st, out, h, hd => by
    -- an end of the body is an end of the block
    have conv : ∀ (k0 : Exit → SS → Option T) (o : Out) (e1 : Exit) (st1 : St), runCode cp ci n a st = some (e1, st1) → Leads cp ci n (fun e s' => match e with | .exit i => if i = id then k0 .normal s' else k0 (.exit i) s' | e => k0 e s') o e1 st1 →
        ∃ e st', runCode cp ci n (.block id a) st = some (e, st') ∧ Leads cp ci n k0 o e st' := by
      intro k0 o e1 st1 g1 g2
      obtain ⟨s', t', ρ', g2, g3, g4⟩ := g2
      simp only at g2
      split at g2
      · rename_i i
        split at g2
        · rename_i hi
          exact ⟨.normal, st1, by simp only [runCode, g1, hi, if_true], s', t', ρ', g2, g3, g4⟩
        · rename_i hi
          exact ⟨.exit i, st1, by simp only [runCode, g1, hi, if_false], s', t', ρ', g2, g3, g4⟩
      · rename_i hne
        refine ⟨e1, st1, ?_, s', t', ρ', g2, g3, g4⟩
        simp only [runCode, g1]
        try (cases e1 <;> first | exact absurd rfl (hne _) | rfl)
    simp only [symb] at hs
    split at hs
    · split at hs
      · rename_i ta tk h1 h2
        simp only [Option.some.injEq] at hs
        subst hs
        simp only [den, joinJ] at hd
        have key : ∀ o, den cp ci n ta ρ st.sto = some o → (match some o with | some (.next i vs' σ') => if i = s.dep then den cp ci n tk (ρ ++ padFrom vs' 0 (numVals (.block id a) s)) σ' else some (.next i vs' σ') | r => r) = some out → ∃ e st', runCode cp ci n (.block id a) st = some (e, st') ∧ Leads cp ci n k out e st' := by
          intro o ho hd
          obtain ⟨e1, st1, g1, g2⟩ := symb_sound a _ _ _ _ h1 ρ st o (h.dep _) ho
          obtain ⟨e1, st1, g1, g2⟩ := conv _ o e1 st1 g1 g2
          rcases joinAt_leads g2 with ⟨rfl, rfl, g3⟩ | ⟨g3, g4, g5⟩
          · simp only [if_true, padFrom_vals] at hd
            exact ⟨.normal, st1, g1, _, tk, _, h2, head_corr h (code_frame _ g1) g3 _, hd⟩
          · refine ⟨e1, st1, g1, ?_⟩
            cases o with
            | done v σ => simp only [Option.some.injEq] at hd; rw [← hd]; exact g5
            | next i vs τ =>
              have : i ≠ s.dep := fun e => g4 vs τ (by rw [e])
              simp only [this, if_false, Option.some.injEq] at hd
              rw [← hd]; exact g5
        split at hd
        · rename_i heq
          exact key _ heq (by simpa using hd)
        · rename_i heq
          exact key out hd (by
            cases out with
            | done v σ => rfl
            | next i vs τ => exact absurd hd (heq i vs τ))
      · cases hs
    · obtain ⟨e1, st1, g1, g2⟩ := symb_sound a _ _ _ _ hs ρ st out h hd
      exact conv k out e1 st1 g1 g2
  | .loop a, rs, s, k, t, hs, ρ, st, out, h, hd => by
    simp only [symb] at hs
    split at hs
    · rename_i init hinit
      simp only [Option.map_eq_some_iff] at hs
      obtain ⟨body, hb, rfl⟩ := hs
      obtain ⟨i1, i2⟩ := nowVals_ok h hinit
      simp only [den] at hd
      have hlen : init.length = numVals a s := by rw [← valsOf_length (a := a) (s := s) (st := st), ← i1, List.length_map]
      rw [i1, hlen] at hd
      have aux : ∀ m st1, frCode a st st1 → PtrsOk a s st1 → iterJ s.dep (fun vs σ => den cp ci n body (ρ ++ padFrom vs 0 (numVals a s)) σ) m (valsOf a s st1) st1.sto = some out →
          ∃ e st', iter (runCode cp ci n a) m st1 = some (e, st') ∧ Leads cp ci n k out e st' := by
        intro m
        induction m with
        | zero => intro st1 _ _ hd; simp [iterJ] at hd
        | succ m ih =>
          intro st1 hf hp hd
          simp only [iterJ, padFrom_vals] at hd
          have hcorr := head_corr h hf hp (s.dep + 1)
          cases ho : den cp ci n body (ρ ++ valsOf a s st1) st1.sto with
          | none => rw [ho] at hd; simp at hd
          | some o =>
            rw [ho] at hd
            obtain ⟨e1, st2, g1, g2⟩ := symb_sound a _ _ _ _ hb _ st1 o hcorr ho
            rcases joinAt_leads g2 with ⟨rfl, rfl, g3⟩ | ⟨g3, g4, g5⟩
            · simp only [if_true] at hd
              obtain ⟨e3, st3, q1, q2⟩ := ih st2 (hf.trans (code_frame a g1)) g3 hd
              exact ⟨e3, st3, by simp only [iter, g1, q1], q2⟩
            · refine ⟨e1, st2, ?_, ?_⟩
              · simp only [iter, g1]
                cases e1 <;> first | exact absurd rfl g3 | rfl
              · cases o with
                | done v σ => simp only [Option.some.injEq] at hd; rw [← hd]; exact g5
                | next i vs τ =>
                  have : i ≠ s.dep := fun e => g4 vs τ (by rw [e])
                  simp only [this, if_false, Option.some.injEq] at hd
                  rw [← hd]; exact g5
      obtain ⟨e, st', g1, g2⟩ := aux n st (Fr.refl ..) i2 hd
      exact ⟨e, st', by simp only [runCode, g1], g2⟩
    · cases hs
theorem resTree_sound : ∀ {rs : List IRes} {s : SS} {es : List Ex} {t : T} {ρ : List DVal} {st : St} {out : Out}, resTree rs s es = some t → Corr s ρ st → (∀ e, e ∈ es → e.ok ρ.length = true) → den cp ci n t ρ st.sto = some out →
    ∃ vs d, out = .done d st.sto ∧ resEx (es.map (Ex.val ρ) ++ vs) = some d ∧ (rs.length = vs.length) ∧ ((es.map (Ex.val ρ) ++ vs).all DVal.okVal = true → resVals st rs = some vs)
  | [], s, es, t, ρ, st, out, hs, h, hok, hd => by
    simp only [resTree, Option.some.injEq] at hs
    subst hs
    simp only [den, retJ] at hd
    split at hd
    · rename_i d e
      simp only [Option.some.injEq] at hd
      exact ⟨[], d, hd.symm, by simpa using e, rfl, fun _ => rfl⟩
    · cases hd
  | .t i :: rs, s, es, t, ρ, st, out, hs, h, hok, hd => by
    simp only [resTree, Option.bind_eq_some_iff] at hs
    obtain ⟨e, he, hs⟩ := hs
    obtain ⟨a1, a2⟩ := h.ex he
    obtain ⟨vs, d, g1, g2, g3, g4⟩ := resTree_sound hs h (fun x hx => by
      simp only [List.mem_append, List.mem_singleton] at hx
      rcases hx with hx | rfl
      · exact hok x hx
      · exact a1) hd
    refine ⟨e.val ρ :: vs, d, g1, by simpa using g2, by simp [g3], fun hall => ?_⟩
    have hrest := g4 (by simpa using hall)
    have hv : DVal.okVal (e.val ρ) = true := by simp only [List.all_append, List.all_cons, Bool.and_eq_true] at hall; exact hall.2.1
    simp only [Opd.val] at a2
    simp only [resVals, IRes.val, hrest, a2, hv, if_true]
  | .cell r sz :: rs, s, es, t, ρ, st, out, hs, h, hok, hd => by
    simp only [resTree] at hs
    split at hs
    · rename_i q off c hp hc
      split at hs
      · rename_i hq
        subst hq
        simp only [Option.map_eq_some_iff] at hs
        obtain ⟨t', hs, rfl⟩ := hs
        simp only [den, bndP, guarded] at hd
        split at hd
        · rename_i v hv
          have hp' := h.ptr hp rfl
          obtain ⟨hcok, hc'⟩ := h.cont hc
          have hc' := hc' rfl
          have hmap : es.map (Ex.val (ρ ++ [v])) = es.map (Ex.val ρ) := List.map_congr_left fun x hx => (ok_append (hok x hx)).2
          obtain ⟨vs, d, g1, g2, g3, g4⟩ := resTree_sound (es := es ++ [.v s.nv]) hs (h.more (vs := [v]) rfl) (fun x hx => by
            simp only [List.mem_append, List.mem_singleton] at hx
            rcases hx with hx | rfl
            · exact (ok_append (hok x hx)).1
            · rw [← h.len]; exact v_ok) hd
          rw [List.map_append, hmap] at g2 g4
          have hlast : [Ex.v s.nv].map (Ex.val (ρ ++ [v])) = [v] := by rw [← h.len]; simp [v_last]
          rw [hlast] at g2 g4
          refine ⟨v :: vs, d, g1, by simpa using g2, by simp [g3], fun hall => ?_⟩
          have hrest := g4 (by simpa using hall)
          have hvok : DVal.okVal v = true := by simp only [List.all_append, List.all_cons, Bool.and_eq_true] at hall; exact hall.2.1
          have hrd : readLoc q sz (st.loc q) [st.env q] = some v := by
            simp only [Opd.val] at hp'
            simp only [JOp.sem, POp.sem, List.map_cons, List.map_nil, ← hc'] at hv
            unfold fldSem at hv
            split at hv
            · rename_i cs hcs
              simp only [List.cons.injEq, and_true] at hcs
              simp only [hp', readLoc, true_and, if_true, hcs, hv]
            · cases hv
          simp only [resVals, IRes.val, hrd, hrest, hvok, if_true]
        · cases hd
      · cases hs
    · cases hs
theorem resEx_sound {st : St} {rs : List IRes} {vs : List DVal} {d : DVal} (h1 : resEx vs = some d) (h2 : rs.length = vs.length) (h3 : vs.all DVal.okVal = true → resVals st rs = some vs) : resVal st rs = some d := by
  unfold resEx at h1
  split at h1
  · rename_i v
    split at h1
    · rename_i hok
      simp only [Option.some.injEq] at h1
      subst h1
      have := h3 (by simpa using hok)
      simp only [resVal, this]
    · cases h1
  · rename_i hne
    split at h1
    · rename_i hok
      simp only [Option.some.injEq] at h1
      subst h1
      have := h3 hok
      unfold resVal
      rw [this]
      split
      · rename_i v e; exact absurd (Option.some.inj e) (hne v)
      · rename_i us _ e; rw [Option.some.inj e]
      · rename_i e; cases e
    · cases h1
theorem parEnv_mem : ∀ {n t : Nat} {sv : SV}, (t, sv) ∈ parEnv n → t < n ∧ sv = .ex (.v t)
  | 0, t, sv, h => by simp [parEnv] at h
  | n + 1, t, sv, h => by
    simp only [parEnv, List.mem_cons, Prod.mk.injEq] at h
    rcases h with ⟨rfl, rfl⟩ | h
    · exact ⟨by omega, rfl⟩
    · have := parEnv_mem h; exact ⟨by omega, this.2⟩
theorem symbFun_sound {F : IFunc} {t : T} {args : List DVal} {σ σ' : Sto} {v : DVal} (hs : symbFun F = some t) (hlen : args.length = F.npar) (hd : den cp ci n t args σ = some (.done v σ')) : runFun cp ci n F args σ = some (v, σ') := by
  have h0 : Corr { env := parEnv F.npar, loc := [], nv := F.npar, dep := 0 } args (enter args σ) := by
    refine ⟨hlen, fun t sv hm => ?_, fun r e g hm => by simp at hm⟩
    obtain ⟨h1, rfl⟩ := parEnv_mem hm
    exact ⟨by simp [Ex.ok, Nat.blt_eq, hlen, h1], rfl⟩
  obtain ⟨e, st', g1, s', t', ρ', g2, g3, g4⟩ := symb_sound (cp := cp) (ci := ci) (n := n) _ _ _ _ _ hs args (enter args σ) _ h0 hd
  have fin : resTree F.res s' [] = some t' → (resVal st' F.res).map (fun v => (v, st'.sto)) = some (v, σ') := by
    intro hr
    obtain ⟨vs, d, a1, a2, a3, a4⟩ := resTree_sound hr g3 (by simp) g4
    simp only [List.map_nil, List.nil_append] at a2 a4
    simp only [Out.done.injEq] at a1
    obtain ⟨rfl, rfl⟩ := a1
    rw [resEx_sound a2 a3 a4]
    rfl
  unfold runFun
  rw [if_pos hlen, g1]
  simp only at g2
  split at g2
  · exact fin g2
  · exact fin g2
  · cases g2
end
end Go.Proofs.Ytdibpeknpmhknaa
namespace Go.Proofs.Ytdibpeknpmhknaa
set_option linter.unusedVariables false
set_option linter.unusedSimpArgs false
open Go Go.RowKit
def treeOf (P : Program) (h : Hint) (fn : Func) : Option (Nat × T) :=
  match compFunc P h fn with
  | some F => (symbFun F).map fun t => (F.npar, t)
  | none => none
def KnowsJ (P : Program) (f : FuncId) (np : Nat) (t : T) : Prop := ∃ fn h, P.funcs[f]? = some fn ∧ (fn.name == "runtime.NumGoroutine") = false ∧ treeOf P h fn = some (np, t)
theorem KnowsJ.knows {P : Program} {f : FuncId} {np : Nat} {t : T} (hk : KnowsJ P f np t) : ∃ F, Knows P f F ∧ F.npar = np ∧ symbFun F = some t := by
  obtain ⟨fn, h, h1, h2, h3⟩ := hk
  unfold treeOf at h3
  split at h3
  · rename_i F hF
    simp only [Option.map_eq_some_iff, Prod.mk.injEq] at h3
    obtain ⟨t', ht, rfl, rfl⟩ := h3
    exact ⟨F, ⟨fn, h, h1, h2, hF⟩, rfl, ht⟩
  · cases h3
theorem evJ_sound {P : Program} {Gl : List (Nat × Value)} {prog : Nat → Option JFun} (hb : ∀ f np t, prog f = some (.body np t) → KnowsJ P f np t) (hp : ∀ f sem, prog f = some (.prim sem) → PureOk P Gl f sem) :
    ∀ n, (∀ f, PureOk P Gl f (cpJ prog n f)) ∧ ∀ f, ImpOk P Gl f (ciJ prog n f)
  | 0 => ⟨fun f I w ds vs r _ _ _ hr => by simp [cpJ, evJ] at hr, fun f V σ σ' w ds vs r _ _ _ hr => by simp [ciJ, evJ] at hr⟩
  | n + 1 => by
    obtain ⟨ihp, ihi⟩ := evJ_sound hb hp n
    refine ⟨fun f I w ds vs r hI hG hv hr => ?_, fun f V σ σ' w ds vs r hi hG hv hr => ?_⟩
    · unfold cpJ evJ at hr
      split at hr
      · rename_i np t hF
        obtain ⟨F, hk, rfl, ht⟩ := (hb f np t hF).knows
        split at hr
        · rename_i hlen
          split at hr
          · rename_i v σ hd
            simp only [Option.map_eq_some_iff] at hr
            obtain ⟨x, ⟨z, hz, rfl⟩, rfl⟩ := hr
            have hy := symbFun_sound ht hlen hd
            refine ⟨hk.callable, ?_⟩
            refine (fun_sound (cp := cpJ prog n) (ci := ciJ prog n) ihp ihi hk VI_inv (hG.ext fun b n hn => ⟨VI_imm.2 ⟨hI b n hn, hn⟩, rfl⟩) hv.open' hy).mono ?_
            rintro e w' ⟨v, V', rfl, ha, hinv, hrel⟩
            obtain ⟨q1, q2⟩ := hand_sound ha hinv hrel hz
            exact ⟨v, rfl, q1, q2⟩
          · simp at hr
        · simp at hr
      · rename_i sem hF
        simp only [Option.map_eq_some_iff] at hr
        obtain ⟨x, ⟨y, hy, rfl⟩, rfl⟩ := hr
        exact hp f sem hF I w ds vs y hI hG hv hy
      · simp at hr
    · unfold ciJ evJ at hr
      split at hr
      · rename_i np t hF
        obtain ⟨F, hk, rfl, ht⟩ := (hb f np t hF).knows
        split at hr
        · rename_i hlen
          split at hr
          · rename_i v σ2 hd
            simp only [Option.some.injEq, Prod.mk.injEq] at hr
            obtain ⟨rfl, rfl⟩ := hr
            have hy := symbFun_sound ht hlen hd
            exact ⟨hk.callable, fun_sound (cp := cpJ prog n) (ci := ciJ prog n) ihp ihi hk hi hG hv.open' hy⟩
          · simp at hr
        · simp at hr
      · cases hr
def hintJ (slots fns : List (Nat × Nat)) (pts : List Nat := []) : Hint := { slot := fun n => (slots.lookup n).getD 0, fn := fun n => (fns.lookup n).getD 0, pt := fun t => pts.contains t }
def JOk (P : Program) (Gl : List (Nat × Value)) : Nat × JFun → Prop
  | (f, .body np t) => KnowsJ P f np t
  | (f, .prim sem) => PureOk P Gl f sem
def AllJ (P : Program) (Gl : List (Nat × Value)) : List (Nat × JFun) → Prop
  | [] => True
  | p :: ps => JOk P Gl p ∧ AllJ P Gl ps
def progJ (t : List (Nat × JFun)) : Nat → Option JFun := fun f => t.lookup f
theorem AllJ.get {P : Program} {Gl : List (Nat × Value)} : ∀ {t : List (Nat × JFun)}, AllJ P Gl t → ∀ {f : Nat} {x : JFun}, t.lookup f = some x → JOk P Gl (f, x)
  | [], _, f, x, h => by simp at h
  | p :: ps, ha, f, x, h => by
    obtain ⟨q, y⟩ := p
    simp only [AllJ] at ha
    rw [List.lookup_cons] at h
    split at h
    · rename_i e
      simp only [Option.some.injEq] at h
      subst h
      have : f = q := by simpa using e
      subst this
      exact ha.1
    · exact ha.2.get h
theorem allJ_sound {P : Program} {Gl : List (Nat × Value)} {t : List (Nat × JFun)} (h : AllJ P Gl t) (n : Nat) : (∀ f, PureOk P Gl f (cpJ (progJ t) n f)) ∧ ∀ f, ImpOk P Gl f (ciJ (progJ t) n f) :=
  evJ_sound (fun f np t hF => h.get hF) (fun f sem hF => h.get hF) n
end Go.Proofs.Ytdibpeknpmhknaa
namespace Go.Proofs.Ytdibpeknpmhknaa
set_option linter.unusedVariables false
set_option maxRecDepth 100000
open Go
instance vEx (n : Nat) : OfNat Ex n := ⟨.v n⟩
abbrev q (o : POp) (xs : List Ex) (k : T) : T := .p (.p o) xs none k
abbrev qt (o : POp) (xs : List Ex) (g : Nat) (k : T) : T := .p (.p o) xs (some (g, true)) k
abbrev qf (o : POp) (xs : List Ex) (g : Nat) (k : T) : T := .p (.p o) xs (some (g, false)) k
def T3 : T :=
(q (.call 4) []
(.p (.wr 0 17) [.k (.agg [.nils, .nils, .nils, .nils, .nils, .nils, .nils, .nils, .nils, .nils, .nils, .nils, .nils, .nils, .nils, .nils, .nils]), 1] none
(q (.bslice false 1) [.k (.str [99, 48]), .k (.str [99, 49]), .k (.str [99, 50]), .k (.str [99, 51]), .k (.str [99, 52]), .k (.str [99, 53]), .k (.str [99, 54]), .k (.str [99, 55]), .k (.str [99, 56]), .k (.str [99, 57])]
(.p (.wr 7 1) [2, 3] none
(q (.fld 0 (some 17)) [4]
(.s (.callI 5) [5] none
(q (.isnil 1 false) [6]
(.ite (.v 7) (.ret [.k (.bool false)])
(q (.call 6) []
(.p (.wr 0 7) [.k (.agg [(.int .i64 0), (.int .i64 0), (.int .i64 0), (.int .i64 0), (.int .u64 0), (.int .i64 0), (.int .u64 0)]), 8] none
(.loop 0 [.k (.int .i64 1), .k (.bool false), 9] (q (.bin .lss) [10, .k (.int .i64 1024)]
(.ite (.v 13) (q (.conv .u64) [10]
(q (.build [(.int .i64 0), (.int .u64 0)] [(1, 1)]) [14]
(.p (.wr 0 2) [.k (.agg [(.int .i64 0), (.int .u64 0)]), 15] none
(q (.fld 0 (some 2)) [16]
(q (.fld 0 (some 2)) [16]
(q (.build [(.int .i64 0), (.int .u64 0), (.int .i64 0), (.int .u64 0)] [(0, 2), (2, 2)]) [17, 18]
(.p (.wr 3 4) [12, 19] none
(q (.fld 0 (some 7)) [20]
(.s (.callI 7) [6, 21] none
(q (.ext 0) [22]
(q (.ext 1) [22]
(q (.bin .add) [10, .k (.int .i64 3)]
(q (.bin .leq) [25, .k (.int .i64 1024)]
(qt (.mv) [23] 26
(qt (.mv) [10] 26
(qt (.bin .add) [28, .k (.int .i64 3)] 26
(qt (.bin .neq) [27, 29] 26
(qt (.mv) [30] 26
(qf (.mv) [24] 31
(qf (.bin .neq) [32, .k (.int .i64 0)] 31
(qt (.pick) [31, .k (.bool true), 33] 26
(q (.pick) [26, 34, .k (.bool false)]
(qf (.mv) [10] 35
(qf (.bin .add) [36, .k (.int .i64 3)] 35
(qf (.bin .gtr) [37, .k (.int .i64 1024)] 35
(qf (.mv) [38] 35
(qt (.mv) [23] 39
(qt (.bin .neq) [40, .k (.int .i64 0)] 39
(qt (.mv) [41] 39
(qf (.mv) [24] 42
(qf (.bin .neq) [43, .k (.int .i64 25)] 42
(qt (.pick) [42, .k (.bool true), 44] 39
(qf (.pick) [39, 45, .k (.bool false)] 35
(q (.pick) [35, .k (.bool true), 46]
(.ite (.v 47) (.ret [.k (.bool false)])
(q (.bin .add) [10, .k (.int .i64 1)]
(.next 0 [48, 11, 20])))))))))))))))))))))))))))))))))))))
(q (.conv .u64) [0]
(q (.bin .rem) [14, .k (.int .u64 1000)]
(q (.bin .add) [.k (.int .u64 1), 15]
(q (.build [(.int .i64 0), (.int .u64 0)] [(1, 1)]) [16]
(.p (.wr 0 2) [.k (.agg [(.int .i64 0), (.int .u64 0)]), 17] none
(q (.fld 0 (some 2)) [18]
(q (.fld 0 (some 2)) [18]
(q (.build [(.int .i64 0), (.int .u64 0), (.int .i64 0), (.int .u64 0)] [(0, 2), (2, 2)]) [19, 20]
(.p (.wr 3 4) [12, 21] none
(q (.fld 0 (some 7)) [22]
(.s (.callI 7) [6, 23] none
(q (.ext 0) [24]
(q (.ext 1) [24]
(q (.conv .i64) [0]
(q (.bin .rem) [27, .k (.int .i64 1000)]
(q (.bin .add) [.k (.int .i64 4), 28]
(q (.bin .eql) [25, 29]
(qt (.mv) [26] 30
(qt (.bin .eql) [31, .k (.int .i64 0)] 30
(q (.pick) [30, 32, .k (.bool false)]
(qt (.mv) [6] 33
(.s (.callI 8) [34] (some (33, true))
(qt (.bin .eql) [35, .k (.int .i64 1024)] 33
(q (.pick) [33, 36, .k (.bool false)]
(qt (.call 9) [] 37
(q (.pick) [37, 38, .k (.bool false)]
(.ret [39]))))))))))))))))))))))))))))))))))))))))
def H3 : List (Nat × Nat) := [(72, 7), (10, 12), (31, 7), (7, 9), (5, 7), (15, 5), (3, 5)]
def T4 : T :=
(q (.bslice false 1) [.k (.str [114, 101, 97, 100]), .k (.str [119, 114, 105, 116, 101]), .k (.str [99, 114, 101, 97, 116, 101]), .k (.str [117, 110, 108, 105, 110, 107]), .k (.str [101, 120, 101, 99, 117, 116, 101]), .k (.str [101, 110, 116, 114, 121, 112, 111, 105, 110, 116]), .k (.str [114, 101, 108, 97, 98, 101, 108, 102, 114, 111, 109]), .k (.str [114, 101, 108, 97, 98, 101, 108, 116, 111])]
(q (.bslice false 1) [.k (.str [114, 101, 97, 100]), .k (.str [119, 114, 105, 116, 101]), .k (.str [99, 114, 101, 97, 116, 101]), .k (.str [117, 110, 108, 105, 110, 107]), .k (.str [97, 100, 100]), .k (.str [114, 101, 109, 111, 118, 101]), .k (.str [114, 101, 108, 97, 98, 101, 108, 102, 114, 111, 109]), .k (.str [114, 101, 108, 97, 98, 101, 108, 116, 111])]
(q (.bslice false 1) [.k (.str [102, 111, 114, 107]), .k (.str [116, 114, 97, 110, 115, 105, 116, 105, 111, 110]), .k (.str [100, 121, 110, 116, 114, 97, 110, 115, 105, 116, 105, 111, 110]), .k (.str [115, 101, 110, 100])]
(q (.build [(.str []), .nils] [(0, 1), (1, 1)]) [.k (.str [112, 114, 111, 99, 101, 115, 115]), 2]
(q (.build [(.str []), .nils] [(0, 1), (1, 1)]) [.k (.str [102, 105, 108, 101]), 0]
(q (.build [(.str []), .nils] [(0, 1), (1, 1)]) [.k (.str [100, 105, 114]), 1]
(q (.bslice false 2) [3, 4, 5]
(q (.build [(.str []), .nils, (.bool false)] [(0, 1)]) [.k (.str [105, 110, 105, 116, 95, 116])]
(q (.build [(.str []), .nils, (.bool false)] [(0, 1)]) [.k (.str [117, 115, 101, 114, 95, 116])]
(q (.build [(.str []), .nils, (.bool false)] [(0, 1)]) [.k (.str [102, 105, 108, 101, 95, 116])]
(q (.build [(.str []), .nils, (.bool false)] [(0, 1)]) [.k (.str [115, 104, 101, 108, 108, 95, 116])]
(q (.bslice false 3) [7, 8, 9, 10]
(q (.bslice false 1) [.k (.int .i64 0), .k (.int .i64 1)]
(q (.call 10) [12]
(q (.build [(.str []), (.int .u64 0), (.int .u64 0), (.int .u64 0), (.int .u64 0)] [(0, 1), (1, 4)]) [.k (.str [100, 111, 109, 97, 105, 110]), 13]
(q (.bslice false 5) [14]
(q (.build [(.str []), (.int .u64 0), (.int .u64 0), (.int .u64 0), (.int .u64 0), (.int .u64 0), (.int .u64 0), (.int .u64 0), (.int .u64 0)] [(0, 1)]) [.k (.str [111, 98, 106, 101, 99, 116, 95, 114])]
(q (.bslice false 1) [.k (.int .i64 0), .k (.int .i64 1)]
(q (.call 10) [17]
(q (.build [(.str []), (.int .u64 0), (.int .u64 0), (.int .u64 0), (.int .u64 0), (.int .u64 0), (.int .u64 0), (.int .u64 0), (.int .u64 0)] [(0, 1), (1, 4)]) [.k (.str [115, 121, 115, 116, 101, 109]), 18]
(q (.bslice false 9) [16, 19]
(q (.bslice false 1) [.k (.int .i64 1)]
(q (.call 10) [21]
(q (.build [(.str []), (.int .u64 0), (.int .u64 0), (.int .u64 0), (.int .u64 0), (.int .i64 0), (.int .u64 0), (.int .i64 0), (.int .u64 0), (.int .i64 0), (.int .u64 0)] [(0, 1), (1, 4)]) [.k (.str [114, 111, 111, 116]), 22]
(q (.bslice false 11) [23]
(q (.build [(.str []), (.bool false)] [(0, 1)]) [.k (.str [115, 104, 97, 114, 101])]
(q (.bslice false 2) [25]
(q (.bslice false 1) [.k (.str [115, 48])]
(q (.build [(.int .i64 0), (.int .i64 0), (.int .i64 0), (.int .i64 0), .nils, (.int .u64 0), (.int .u64 0), (.int .u64 0), (.int .u64 0), .nils] [(0, 1)]) [.k (.int .i64 1)]
(q (.bslice false 10) [28]
(q (.bslice false 1) [.k (.int .i64 0), .k (.int .i64 1)]
(q (.call 10) [30]
(q (.build [(.int .i64 0), (.int .u64 0), (.int .u64 0), (.int .u64 0), (.int .u64 0), (.int .u64 0), (.int .u64 0), (.int .u64 0), (.int .u64 0), (.bool false), (.int .i64 0), (.int .u32 0), (.int .i64 0)] [(0, 1), (1, 4), (9, 1), (10, 1), (11, 1)]) [.k (.int .i64 1), 31, .k (.bool true), .k (.int .i64 0), .k (.int .u32 9)]
(q (.bslice false 1) [.k (.int .i64 0)]
(q (.call 10) [33]
(q (.bslice false 1) [.k (.int .i64 2), .k (.int .i64 3)]
(q (.call 10) [35]
(q (.build [(.int .i64 0), (.int .u64 0), (.int .u64 0), (.int .u64 0), (.int .u64 0), (.int .u64 0), (.int .u64 0), (.int .u64 0), (.int .u64 0), (.bool false), (.int .i64 0), (.int .u32 0), (.int .i64 0)] [(0, 1), (1, 4), (5, 4), (10, 1), (11, 1)]) [.k (.int .i64 1), 34, 36, .k (.int .i64 1), .k (.int .u32 17)]
(q (.bslice false 1) [.k (.int .i64 0)]
(q (.call 10) [38]
(q (.bslice false 1) [.k (.int .i64 1)]
(q (.call 10) [40]
(q (.build [(.int .i64 0), (.int .u64 0), (.int .u64 0), (.int .u64 0), (.int .u64 0), (.int .u64 0), (.int .u64 0), (.int .u64 0), (.int .u64 0), (.bool false), (.int .i64 0), (.int .u32 0), (.int .i64 0)] [(0, 1), (1, 4), (5, 4), (10, 1), (11, 1)]) [.k (.int .i64 1), 39, 41, .k (.int .i64 0), .k (.int .u32 2)]
(q (.bslice false 1) [.k (.int .i64 1)]
(q (.call 10) [43]
(q (.bslice false 1) [.k (.int .i64 3)]
(q (.call 10) [45]
(q (.build [(.int .i64 0), (.int .u64 0), (.int .u64 0), (.int .u64 0), (.int .u64 0), (.int .u64 0), (.int .u64 0), (.int .u64 0), (.int .u64 0), (.bool false), (.int .i64 0), (.int .u32 0), (.int .i64 0)] [(0, 1), (1, 4), (5, 4), (10, 1), (11, 1)]) [.k (.int .i64 1), 44, 46, .k (.int .i64 1), .k (.int .u32 32)]
(q (.bslice false 1) [.k (.int .i64 1)]
(q (.call 10) [48]
(q (.bslice false 1) [.k (.int .i64 2)]
(q (.call 10) [50]
(q (.build [(.int .i64 0), (.int .u64 0), (.int .u64 0), (.int .u64 0), (.int .u64 0), (.int .u64 0), (.int .u64 0), (.int .u64 0), (.int .u64 0), (.bool false), (.int .i64 0), (.int .u32 0), (.int .i64 0)] [(0, 1), (1, 4), (5, 4), (10, 1), (11, 1), (12, 1)]) [.k (.int .i64 1), 49, 51, .k (.int .i64 1), .k (.int .u32 1), .k (.int .i64 1)]
(q (.bslice false 13) [32, 37, 42, 47, 52]
(q (.bslice false 1) [.k (.int .i64 0)]
(q (.call 10) [54]
(q (.bslice false 1) [.k (.int .i64 3)]
(q (.call 10) [56]
(q (.build [(.int .i64 0), (.int .u64 0), (.int .u64 0), (.int .u64 0), (.int .u64 0), (.int .u64 0), (.int .u64 0), (.int .u64 0), (.int .u64 0), (.int .i64 0), (.str []), (.int .i64 0), (.int .i64 0)] [(0, 1), (1, 4), (5, 4), (9, 1), (11, 1)]) [.k (.int .i64 1), 55, 57, .k (.int .i64 0), .k (.int .i64 1)]
(q (.bslice false 13) [58]
(q (.call 11) []
(q (.build [(.str []), (.int .i64 0), (.int .i64 0), (.int .i64 0), (.int .i64 0), (.int .u64 0), (.int .i64 0), (.int .u64 0)] [(0, 1), (1, 7)]) [.k (.str [107, 101, 114, 110, 101, 108]), 60]
(q (.call 6) []
(q (.build [(.str []), (.int .i64 0), (.int .i64 0), (.int .i64 0), (.int .i64 0), (.int .u64 0), (.int .i64 0), (.int .u64 0)] [(0, 1), (1, 7)]) [.k (.str [114, 111, 111, 116]), 62]
(q (.call 6) []
(q (.build [(.str []), (.int .i64 0), (.int .i64 0), (.int .i64 0), (.int .i64 0), (.int .u64 0), (.int .i64 0), (.int .u64 0)] [(0, 1), (1, 7)]) [.k (.str [117, 110, 108, 97, 98, 101, 108, 101, 100]), 64]
(q (.bslice false 8) [61, 63, 65]
(q (.build [.nils, .nils, .nils, .nils, .nils, .nils, .nils, .nils, .nils, .nils, .nils, .nils, .nils, .nils, .nils, .nils, .nils] [(0, 1), (1, 1), (2, 1), (3, 1), (4, 1), (5, 1), (6, 1), (8, 1), (9, 1), (10, 1), (14, 1)]) [6, 11, 15, 20, 24, 26, 27, 29, 53, 59, 66]
(.p (.wr 0 17) [.k (.agg [.nils, .nils, .nils, .nils, .nils, .nils, .nils, .nils, .nils, .nils, .nils, .nils, .nils, .nils, .nils, .nils, .nils]), 67] none
(q (.fld 0 (some 17)) [68]
(.ret [69])))))))))))))))))))))))))))))))))))))))))))))))))))))))))))))))))))))))
def H4 : List (Nat × Nat) := [(0, 2)]
def T5 : T :=
(.p .box [0] none
(q (.fld 0 (some 17)) [1]
(q (.call 12) [2]
(q (.un .not) [3]
(.ite (.v 4) (.ret [.k .nilp])
(q (.fld 0 (some 17)) [1]
(.s (.callI 13) [5] none
(q (.fld 14 none) [1]
(q (.lenSl) [7]
(.loop 0 [.k (.int .i64 0)] (q (.bin .lss) [9, 8]
(.ite (.v 10) (q (.idxS 8) [7, 9]
(q (.ldE (some 8)) [11]
(.p (.wr 0 8) [.k (.agg [(.str []), (.int .i64 0), (.int .i64 0), (.int .i64 0), (.int .i64 0), (.int .u64 0), (.int .i64 0), (.int .u64 0)]), 12] none
(q (.fld 0 none) [13]
(q (.fld 1 (some 7)) [13]
(.s (.callI 14) [6, 14, 15] none
(q (.bin .add) [9, .k (.int .i64 1)]
(.next 0 [17]))))))))
(.ret [6])))))))))))))
def H5 : List (Nat × Nat) := [(21, 7), (19, 7), (5, 7), (16, 1), (11, 3), (1, 3)]
def T6 : T :=
(q (.build [(.int .i64 0), (.int .i64 0), (.int .i64 0), (.int .i64 0), (.int .u64 0), (.int .i64 0), (.int .u64 0)] [(2, 1)]) [.k (.int .i64 2)]
(.p (.wr 0 7) [.k (.agg [(.int .i64 0), (.int .i64 0), (.int .i64 0), (.int .i64 0), (.int .u64 0), (.int .i64 0), (.int .u64 0)]), 0] none
(q (.fld 0 (some 7)) [1]
(.ret [2]))))
def H6 : List (Nat × Nat) := [(0, 2)]
def T7 : T :=
(.p .box [1] none
(.s (.callI 15) [0] none
(q (.un .not) [3]
(.ite (.v 4) (.ret [.k (.int .i64 0), .k (.int .i64 1)])
(q (.nilchk) [0]
(q (.off 0) [5]
(.s (.ld none) [6] none
(q (.nilchk) [7]
(.s (.ld (some 17)) [8] none
(q (.fld 0 (some 7)) [2]
(q (.call 16) [9, 10]
(q (.bin .neq) [11, .k (.int .i64 0)]
(.ite (.v 12) (.ret [.k (.int .i64 0), 11])
(q (.nilchk) [0]
(q (.off 2) [13]
(.s (.ld none) [14] none
(q (.fld 0 (some 7)) [2]
(.s (.look true [.i .i64, .i .i64, .i .i64, .i .i64, .i .u64, .i .i64, .i .u64] (.int .i64 0) true) [15, 16] none
(q (.ext 0) [17]
(q (.ext 1) [17]
(.ite (.v 19) (.ret [18, .k (.int .i64 0)])
(q (.nilchk) [0]
(q (.off 1) [20]
(.s (.ld none) [21] none
(q (.lenSl) [22]
(q (.bin .geq) [23, .k (.int .i64 1024)]
(.ite (.v 24) (.ret [.k (.int .i64 0), .k (.int .i64 25)])
(q (.fld 0 (some 7)) [2]
(.s (.callI 14) [0, .k (.str []), 25] none
(q (.nilchk) [0]
(q (.off 1) [27]
(.s (.ld none) [28] none
(q (.lenSl) [29]
(.ret [30, .k (.int .i64 0)]))))))))))))))))))))))))))))))))))
def H7 : List (Nat × Nat) := [(3, 5)]
def T8 : T :=
(.s (.callI 15) [0] none
(q (.un .not) [1]
(.ite (.v 2) (.ret [.k (.int .i64 0)])
(q (.nilchk) [0]
(q (.off 1) [3]
(.s (.ld none) [4] none
(q (.lenSl) [5]
(.ret [6]))))))))
def H8 : List (Nat × Nat) := []
def T9 : T :=
(q (.call 4) []
(.p (.wr 0 17) [.k (.agg [.nils, .nils, .nils, .nils, .nils, .nils, .nils, .nils, .nils, .nils, .nils, .nils, .nils, .nils, .nils, .nils, .nils]), 0] none
(q (.fld 0 (some 17)) [1]
(.s (.callI 5) [2] none
(q (.isnil 1 false) [3]
(.ite (.v 4) (.ret [.k (.bool false)])
(q (.call 17) []
(.s (.callI 7) [3, 5] none
(q (.ext 0) [6]
(q (.ext 1) [6]
(q (.call 6) []
(.s (.callI 7) [3, 9] none
(q (.ext 0) [10]
(q (.ext 1) [10]
(q (.fld 0 (some 17)) [1]
(.p (.wr 0 17) [.k (.agg [.nils, .nils, .nils, .nils, .nils, .nils, .nils, .nils, .nils, .nils, .nils, .nils, .nils, .nils, .nils, .nils, .nils]), 13] none
(q (.bslice false 9) []
(q (.fld 3 none) [1]
(.s (.appM 9) [15, 16] none
(.p (.wr 3 1) [14, 17] none
(q (.fld 3 none) [18]
(q (.build [(.int .u64 0), (.int .u64 0), (.int .u64 0), (.int .u64 0)] [(0, 1)]) [.k (.int .u64 1)]
(q (.idxS 9) [19, .k (.int .i64 1)]
(q (.off 1) [21]
(.s (.st 4) [22, 20] none
(q (.fld 0 (some 17)) [1]
(q (.fld 0 (some 17)) [18]
(.s (.callI 18) [3, 24, 25] none
(q (.ext 0) [26]
(q (.ext 1) [26]
(q (.ext 2) [26]
(q (.bin .neq) [29, .k (.int .i64 0)]
(qf (.mv) [27] 30
(qf (.isnil 1 false) [31] 30
(q (.pick) [30, .k (.bool true), 32]
(.ite (.v 33) (.ret [.k (.bool false)])
(.s (.callI 19) [27, .k (.int .i64 4)] none
(q (.ext 0) [34]
(q (.ext 1) [34]
(.s (.callI 20) [27, .k (.int .i64 2)] none
(q (.ext 0) [37]
(q (.ext 1) [37]
(q (.fld 0 (some 17)) [18]
(q (.fld 0 (some 17)) [1]
(.s (.callI 18) [27, 40, 41] none
(q (.ext 0) [42]
(q (.ext 1) [42]
(q (.ext 2) [42]
(q (.bin .eql) [7, .k (.int .i64 4)]
(qt (.mv) [8] 46
(qt (.bin .eql) [47, .k (.int .i64 0)] 46
(q (.pick) [46, 48, .k (.bool false)]
(qt (.mv) [11] 49
(qt (.bin .eql) [50, .k (.int .i64 2)] 49
(q (.pick) [49, 51, .k (.bool false)]
(qt (.mv) [12] 52
(qt (.bin .eql) [53, .k (.int .i64 0)] 52
(q (.pick) [52, 54, .k (.bool false)]
(qt (.mv) [28] 55
(qt (.bin .eql) [56, .k (.int .i64 1)] 55
(q (.pick) [55, 57, .k (.bool false)]
(qt (.mv) [27] 58
(.s (.callI 21) [59, .k (.int .i64 4)] (some (58, true))
(qt (.un .not) [60] 58
(q (.pick) [58, 61, .k (.bool false)]
(qt (.mv) [35] 62
(qt (.bin .eql) [63, .k (.str [114, 111, 111, 116, 58, 115, 121, 115, 116, 101, 109, 58, 117, 115, 101, 114, 95, 116, 58, 115, 48])] 62
(q (.pick) [62, 64, .k (.bool false)]
(qt (.mv) [36] 65
(q (.pick) [65, 66, .k (.bool false)]
(qt (.mv) [38] 67
(qt (.bin .eql) [68, .k (.str [114, 111, 111, 116])] 67
(q (.pick) [67, 69, .k (.bool false)]
(qt (.mv) [39] 70
(q (.pick) [70, 71, .k (.bool false)]
(qt (.mv) [45] 72
(qt (.bin .eql) [73, .k (.int .i64 0)] 72
(q (.pick) [72, 74, .k (.bool false)]
(qt (.mv) [44] 75
(qt (.bin .eql) [76, .k (.int .i64 0)] 75
(q (.pick) [75, 77, .k (.bool false)]
(qt (.mv) [43] 78
(qt (.isnil 1 true) [79] 78
(q (.pick) [78, 80, .k (.bool false)]
(qt (.mv) [43] 81
(.s (.callI 21) [82, .k (.int .i64 4)] (some (81, true))
(q (.pick) [81, 83, .k (.bool false)]
(.ret [84]))))))))))))))))))))))))))))))))))))))))))))))))))))))))))))))))))))))))))))))))))))))))
def H9 : List (Nat × Nat) := [(39, 999999), (41, 9), (40, 9), (37, 3), (7, 9), (1, 3)]
def T10 : T :=
(.s (.alloc [(.int .u64 0), (.int .u64 0), (.int .u64 0), (.int .u64 0)]) [] none
(.loop 0 [.k (.int .i64 0)] (q (.lenSl) [0]
(q (.bin .lss) [2, 3]
(.ite (.v 4) (q (.idxS 1) [0, 2]
(q (.ldE none) [5]
(q (.bin .quo) [6, .k (.int .i64 64)]
(q (.idxS 1) [0, 2]
(q (.ldE none) [8]
(q (.bin .quo) [9, .k (.int .i64 64)]
(q (.idxA 4 1) [1, 10]
(.s (.ld none) [11] none
(q (.idxS 1) [0, 2]
(q (.ldE none) [13]
(q (.bin .rem) [14, .k (.int .i64 64)]
(q (.bin .shl) [.k (.int .u64 1), 15]
(q (.bin .or) [12, 16]
(q (.idxA 4 1) [1, 7]
(.s (.st 1) [18, 17] none
(q (.bin .add) [2, .k (.int .i64 1)]
(.next 0 [20])))))))))))))))))
(.s (.ld (some 4)) [1] none
(.p (.wr 0 4) [.k (.agg [(.int .u64 0), (.int .u64 0), (.int .u64 0), (.int .u64 0)]), 5] none
(q (.fld 0 (some 4)) [6]
(.ret [7])))))))))
def H10 : List (Nat × Nat) := [(25, 1), (18, 1), (13, 1), (2, 4)]
def T11 : T :=
(q (.build [(.int .i64 0), (.int .i64 0), (.int .i64 0), (.int .i64 0), (.int .u64 0), (.int .i64 0), (.int .u64 0)] [(1, 1), (2, 1)]) [.k (.int .i64 1), .k (.int .i64 0)]
(.p (.wr 0 7) [.k (.agg [(.int .i64 0), (.int .i64 0), (.int .i64 0), (.int .i64 0), (.int .u64 0), (.int .i64 0), (.int .u64 0)]), 0] none
(q (.fld 0 (some 7)) [1]
(.ret [2]))))
def H11 : List (Nat × Nat) := [(0, 2)]
def T12 : T :=
(.s (.box) [0] none
(q (.off 14) [1]
(.s (.ld none) [2] none
(q (.mkfunc 23) [1]
(.s (.callI 22) [3, 4] none
(q (.un .not) [5]
(qt (.off 14) [1] 6
(.s (.ld none) [7] (some (6, true))
(qt (.lenSl) [8] 6
(qt (.bin .leq) [9, .k (.int .i64 1024)] 6
(q (.pick) [6, 10, .k (.bool false)]
(.ret [11]))))))))))))
def H12 : List (Nat × Nat) := []
def T13 : T :=
(.p .box [0] none
(q (.fld 0 (some 17)) [1]
(.s (.callI 24) [2] none
(.s (.mkmap) [] none
(q (.build [.nilp, .nils, .nilm] [(0, 1), (2, 1)]) [3, 4]
(.s (.box) [5] none
(.ret [6])))))))
def H13 : List (Nat × Nat) := [(1, 3)]
def T14 : T :=
(.p .box [2] none
(q (.nilchk) [0]
(q (.off 0) [4]
(.s (.ld none) [5] none
(q (.fld 0 (some 7)) [3]
(q (.build [(.str []), .nilp, (.int .i64 0), (.int .i64 0), (.int .i64 0), (.int .i64 0), (.int .u64 0), (.int .i64 0), (.int .u64 0), (.bool false)] [(0, 1), (1, 1), (2, 7), (9, 1)]) [1, 6, 7, .k (.bool true)]
(.s (.callI 25) [0, 8] none
(.ret []))))))))
def H14 : List (Nat × Nat) := [(5, 7)]
def T15 : T :=
(q (.isnil 1 true) [0]
(qt (.mv) [0] 1
(qt (.nilchk) [2] 1
(qt (.off 0) [3] 1
(.s (.ld none) [4] (some (1, true))
(qt (.isnil 1 true) [5] 1
(q (.pick) [1, 6, .k (.bool false)]
(.ret [7]))))))))
def H15 : List (Nat × Nat) := []
def T16 : T :=
(.p .box [0] none
(.p .box [1] none
(q (.fld 0 none) [3]
(q (.fld 4 none) [2]
(q (.lenSl) [5]
(q (.call 26) [4, 6]
(q (.un .not) [7]
(qf (.fld 1 none) [3] 8
(qf (.fld 3 none) [2] 8
(qf (.lenSl) [10] 8
(qf (.call 26) [9, 11] 8
(qf (.un .not) [12] 8
(q (.pick) [8, .k (.bool true), 13]
(qf (.fld 2 none) [3] 14
(qf (.fld 1 none) [2] 14
(qf (.lenSl) [16] 14
(qf (.call 26) [15, 17] 14
(qf (.un .not) [18] 14
(q (.pick) [14, .k (.bool true), 19]
(.ite (.v 20) (.ret [.k (.int .i64 3)])
(q (.fld 3 (some 4)) [3]
(q (.fld 6 none) [2]
(q (.lenSl) [22]
(q (.fld 7 none) [2]
(q (.lenSl) [24]
(q (.call 27) [21, 23, 25]
(q (.un .not) [26]
(.ite (.v 27) (.ret [.k (.int .i64 18)])
(q (.fld 0 (some 7)) [3]
(q (.call 28) [28]
(.ite (.v 29) (.ret [.k (.int .i64 0)])
(q (.fld 4 none) [2]
(q (.fld 0 none) [3]
(q (.idxS 11) [30, 31]
(q (.ldE (some 11)) [32]
(.p (.wr 0 11) [.k (.agg [(.str []), (.int .u64 0), (.int .u64 0), (.int .u64 0), (.int .u64 0), (.int .i64 0), (.int .u64 0), (.int .i64 0), (.int .u64 0), (.int .i64 0), (.int .u64 0)]), 33] none
(q (.fld 1 (some 4)) [34]
(q (.fld 1 none) [3]
(q (.call 29) [35, 36]
(q (.un .not) [37]
(qf (.fld 3 none) [2] 38
(qf (.fld 1 none) [3] 38
(qf (.idxS 9) [39, 40] 38
(qf (.off 1) [41] 38
(qf (.ldE (some 4)) [42] 38
(qf (.fld 2 none) [3] 38
(qf (.call 29) [43, 44] 38
(qf (.un .not) [45] 38
(q (.pick) [38, .k (.bool true), 46]
(qf (.fld 7 (some 4)) [34] 47
(qf (.fld 3 (some 4)) [3] 47
(qf (.call 30) [48, 49] 47
(qf (.un .not) [50] 47
(q (.pick) [47, .k (.bool true), 51]
(.ite (.v 52) (.ret [.k (.int .i64 19)])
(.ret [.k (.int .i64 0)]))))))))))))))))))))))))))))))))))))))))))))))))))))))))
def H16 : List (Nat × Nat) := [(74, 5), (72, 7), (66, 5), (64, 1), (63, 1), (61, 5), (59, 4), (54, 5), (52, 7), (5, 7), (50, 1), (48, 5), (46, 4), (38, 4), (35, 4), (33, 5), (26, 4), (24, 5), (17, 4), (15, 5), (9, 4), (7, 5), (3, 5), (2, 4)]
def T17 : T :=
(q (.build [(.int .i64 0), (.int .i64 0), (.int .i64 0), (.int .i64 0), (.int .u64 0), (.int .i64 0), (.int .u64 0)] [(1, 1), (2, 1)]) [.k (.int .i64 1), .k (.int .i64 1)]
(.p (.wr 0 7) [.k (.agg [(.int .i64 0), (.int .i64 0), (.int .i64 0), (.int .i64 0), (.int .u64 0), (.int .i64 0), (.int .u64 0)]), 0] none
(q (.fld 0 (some 7)) [1]
(.ret [2]))))
def H17 : List (Nat × Nat) := [(0, 2)]
def T18 : T :=
(.p .box [1] none
(.p .box [2] none
(.s (.callI 15) [0] none
(q (.un .not) [5]
(.ite (.v 6) (.ret [.k .nilp, .k (.int .i64 0), .k (.int .i64 1)])
(q (.fld 0 (some 17)) [4]
(.s (.callS 12) [7] none
(q (.un .not) [8]
(.ite (.v 9) (.ret [.k .nilp, .k (.int .i64 0), .k (.int .i64 19)])
(q (.fld 0 (some 17)) [4]
(.s (.callI 13) [10] none
(.s (.mkmap) [] none
(q (.nilchk) [0]
(q (.off 1) [13]
(.s (.ld none) [14] none
(q (.lenSl) [15]
(.loop 0 [.k (.int .i64 0), .k (.int .i64 0)] (q (.bin .lss) [17, 16]
(.ite (.v 19) (q (.idxS 10) [15, 17]
(q (.ldE (some 10)) [20]
(.p (.wr 0 10) [.k (.agg [(.str []), .nilp, (.int .i64 0), (.int .i64 0), (.int .i64 0), (.int .i64 0), (.int .u64 0), (.int .i64 0), (.int .u64 0), (.bool false)]), 21] none
(q (.fld 0 none) [22]
(.s (.mupd false [.s]) [12, 23, .k (.bool true)] none
(q (.fld 0 (some 10)) [22]
(q (.fld 0 (some 17)) [4]
(.s (.callI 31) [25, 26, 11] none
(.p (.wr 0 10) [.k (.agg [(.str []), .nilp, (.int .i64 0), (.int .i64 0), (.int .i64 0), (.int .i64 0), (.int .u64 0), (.int .i64 0), (.int .u64 0), (.bool false)]), 27] none
(q (.fld 9 none) [28]
(q (.un .not) [29]
(.join 1 1 (.ite (.v 30) (q (.bin .add) [18, .k (.int .i64 1)]
(.next 1 [31]))
(.next 1 [18]))
(q (.fld 0 (some 10)) [28]
(.s (.callI 25) [11, 32] none
(q (.bin .add) [17, .k (.int .i64 1)]
(.next 0 [34, 31]))))))))))))))))
(q (.fld 14 none) [4]
(q (.lenSl) [20]
(.loop 1 [.k (.int .i64 0)] (q (.bin .lss) [22, 21]
(.ite (.v 23) (q (.idxS 8) [20, 22]
(q (.ldE (some 8)) [24]
(.p (.wr 0 8) [.k (.agg [(.str []), (.int .i64 0), (.int .i64 0), (.int .i64 0), (.int .i64 0), (.int .u64 0), (.int .i64 0), (.int .u64 0)]), 25] none
(q (.fld 0 none) [26]
(.s (.look false [.s] (.bool false) false) [12, 27] none
(q (.un .not) [28]
(.ite (.v 29) (q (.fld 0 none) [26]
(q (.fld 1 (some 7)) [26]
(.s (.callI 14) [11, 30, 31] none
(q (.bin .add) [22, .k (.int .i64 1)]
(.next 1 [33])))))
(q (.bin .add) [22, .k (.int .i64 1)]
(.next 1 [30])))))))))
(q (.nilchk) [11]
(q (.off 1) [24]
(.s (.ld none) [25] none
(q (.lenSl) [26]
(q (.bin .gtr) [27, .k (.int .i64 1024)]
(.ite (.v 28) (.ret [.k .nilp, .k (.int .i64 0), .k (.int .i64 25)])
(.ret [11, 18, .k (.int .i64 0)])))))))))))))))))))))))))))))))
def H18 : List (Nat × Nat) := [(23, 999998), (68, 18), (66, 18), (61, 18), (16, 18), (58, 1), (53, 7), (44, 16), (14, 16), (38, 15), (13, 15), (35, 1), (5, 7), (4, 6)]
def T19 : T :=
(.s (.callI 32) [0, 1] none
(q (.ext 0) [2]
(q (.ext 1) [2]
(.p (.wr 0 10) [.k (.agg [(.str []), .nilp, (.int .i64 0), (.int .i64 0), (.int .i64 0), (.int .i64 0), (.int .u64 0), (.int .i64 0), (.int .u64 0), (.bool false)]), 3] none
(q (.un .not) [4]
(.ite (.v 6) (.ret [.k (.str []), .k (.bool false)])
(q (.fld 1 none) [5]
(q (.nilchk) [7]
(.s (.ld (some 17)) [8] none
(q (.fld 2 (some 7)) [5]
(q (.call 33) [9, 10]
(q (.ext 0) [11]
(q (.ext 1) [11]
(.ret [12, .k (.bool true)]))))))))))))))
def H19 : List (Nat × Nat) := [(23, 8), (19, 8), (6, 8)]
def T20 : T :=
(.s (.callI 32) [0, 1] none
(q (.ext 0) [2]
(q (.ext 1) [2]
(.p (.wr 0 10) [.k (.agg [(.str []), .nilp, (.int .i64 0), (.int .i64 0), (.int .i64 0), (.int .i64 0), (.int .u64 0), (.int .i64 0), (.int .u64 0), (.bool false)]), 3] none
(q (.fld 0 none) [5]
(qt (.fld 0 none) [5] 4
(qt (.bin .neq) [7, .k (.str [])] 4
(q (.pick) [4, 8, .k (.bool false)]
(.ret [6, 9])))))))))
def H20 : List (Nat × Nat) := [(18, 8), (14, 8), (6, 8)]
def T21 : T :=
(.s (.callI 32) [0, 1] none
(q (.ext 0) [2]
(q (.ext 1) [2]
(.p (.wr 0 10) [.k (.agg [(.str []), .nilp, (.int .i64 0), (.int .i64 0), (.int .i64 0), (.int .i64 0), (.int .u64 0), (.int .i64 0), (.int .u64 0), (.bool false)]), 3] none
(qt (.fld 9 none) [5] 4
(q (.pick) [4, 6, .k (.bool false)]
(.ret [7])))))))
def H21 : List (Nat × Nat) := [(15, 7), (5, 7)]
def T22 : T :=
(.s (.callI 34) [0, 1] none
(q (.bin .geq) [2, .k (.int .i64 0)]
(.ret [3])))
def H22 : List (Nat × Nat) := []
def T23 : T :=
(.p .box [0] none
(.s (.ld (some 17)) [1] none
(q (.fld 1 (some 7)) [2]
(q (.call 16) [3, 4]
(q (.bin .neq) [5, .k (.int .i64 0)]
(.ret [6]))))))
def H23 : List (Nat × Nat) := [(5, 4), (2, 4)]
def T24 : T :=
(.p .box [0] none
(q (.fld 3 none) [1]
(.s (.callS 35) [2] none
(q (.fld 4 none) [1]
(q (.call 36) [4]
(q (.fld 6 none) [1]
(q (.call 37) [6]
(q (.fld 7 none) [1]
(q (.call 37) [8]
(q (.build [.nils, .nils, .nils, .nils, .nils, .nils, .nils, .nils, .nils, .nils, .nils, .nils, .nils, .nils, .nils, .nils, .nils] [(3, 1), (4, 1), (6, 1), (7, 1)]) [3, 5, 7, 9]
(.s (.box) [10] none
(q (.fld 1 none) [1]
(q (.lenSl) [12]
(.loop 0 [.k (.int .i64 0)] (q (.bin .lss) [14, 13]
(.ite (.v 15) (q (.idxS 3) [12, 14]
(q (.ldE (some 3)) [16]
(.p (.wr 0 3) [.k (.agg [(.str []), .nils, (.bool false)]), 17] none
(q (.fld 1 none) [18]
(q (.call 37) [19]
(.p (.wr 1 1) [18, 20] none
(q (.nilchk) [11]
(q (.off 1) [22]
(.s (.ld none) [23] none
(q (.fld 0 (some 3)) [21]
(q (.bslice false 3) [25]
(.s (.app false 3) [24, 26] none
(q (.nilchk) [11]
(q (.off 1) [28]
(.s (.st 1) [29, 27] none
(q (.bin .add) [14, .k (.int .i64 1)]
(.next 0 [31])))))))))))))))))
(.ret [11])))))))))))))))))
def H24 : List (Nat × Nat) := [(8, 999998), (30, 7), (27, 7), (5, 7), (25, 1), (20, 3), (15, 3), (12, 3), (9, 3), (6, 3), (1, 3)]
def T25 : T :=
(.p .box [1] none
(q (.nilchk) [0]
(q (.off 1) [3]
(.s (.ld none) [4] none
(q (.fld 0 (some 10)) [2]
(q (.bslice true 10) [6]
(.s (.app true 10) [5, 7] none
(q (.nilchk) [0]
(q (.off 1) [9]
(.s (.st 1) [10, 8] none
(q (.nilchk) [0]
(q (.off 2) [12]
(.s (.ld none) [13] none
(q (.fld 2 (some 7)) [2]
(.s (.look true [.i .i64, .i .i64, .i .i64, .i .i64, .i .u64, .i .i64, .i .u64] (.int .i64 0) true) [14, 15] none
(q (.ext 0) [16]
(q (.ext 1) [16]
(q (.fld 9 none) [2]
(qt (.mv) [18] 19
(qt (.un .not) [20] 19
(q (.pick) [19, 21, .k (.bool false)]
(.ite (.v 22) (q (.nilchk) [0]
(q (.off 2) [23]
(.s (.ld none) [24] none
(q (.fld 2 (some 7)) [2]
(q (.nilchk) [0]
(q (.off 1) [27]
(.s (.ld none) [28] none
(q (.lenSl) [29]
(.s (.mupd true [.i .i64, .i .i64, .i .i64, .i .i64, .i .u64, .i .i64, .i .u64]) [25, 26, 30] none
(.ret []))))))))))
(.ret [])))))))))))))))))))))))
def H25 : List (Nat × Nat) := [(36, 5), (26, 5), (21, 5), (3, 5)]
def T26 : T :=
(q (.bin .geq) [0, .k (.int .i64 0)]
(qt (.mv) [0] 2
(qt (.mv) [1] 2
(qt (.bin .lss) [3, 4] 2
(q (.pick) [2, 5, .k (.bool false)]
(.ret [6]))))))
def H26 : List (Nat × Nat) := []
def T27 : T :=
(.p .box [0] none
(q (.fld 0 (some 2)) [3]
(q (.call 38) [4, 1, 2]
(qt (.fld 2 (some 2)) [3] 5
(qt (.mv) [1] 5
(qt (.mv) [2] 5
(qt (.call 38) [6, 7, 8] 5
(q (.pick) [5, 9, .k (.bool false)]
(qt (.fld 2 (some 2)) [3] 10
(qt (.fld 0 (some 2)) [3] 10
(qt (.call 39) [11, 12] 10
(q (.pick) [10, 13, .k (.bool false)]
(.ret [14])))))))))))))
def H27 : List (Nat × Nat) := [(22, 5), (20, 5), (13, 5), (7, 5), (3, 5)]
def T28 : T :=
(.p .box [0] none
(q (.fld 1 none) [1]
(q (.bin .eql) [2, .k (.int .i64 0)]
(.ret [3]))))
def H28 : List (Nat × Nat) := [(3, 3), (1, 3)]
def T29 : T :=
(.s (.box) [0] none
(q (.call 40) [1]
(qt (.mv) [1] 3
(qt (.bin .quo) [4, .k (.int .i64 64)] 3
(qt (.idxA 4 1) [2, 5] 3
(.s (.ld none) [6] (some (3, true))
(qt (.mv) [1] 3
(qt (.bin .rem) [8, .k (.int .i64 64)] 3
(qt (.bin .shr) [7, 9] 3
(qt (.bin .and) [10, .k (.int .u64 1)] 3
(qt (.bin .eql) [11, .k (.int .u64 1)] 3
(q (.pick) [3, 12, .k (.bool false)]
(.ret [13])))))))))))))
def H29 : List (Nat × Nat) := []
def T30 : T :=
(.p .box [0] none
(.p .box [1] none
(q (.fld 0 (some 2)) [3]
(q (.fld 0 (some 2)) [2]
(q (.call 39) [4, 5]
(qt (.fld 2 (some 2)) [2] 6
(qt (.fld 2 (some 2)) [3] 6
(qt (.call 39) [7, 8] 6
(q (.pick) [6, 9, .k (.bool false)]
(.ret [10]))))))))))
def H30 : List (Nat × Nat) := [(13, 5), (11, 4), (7, 4), (5, 5), (3, 5), (2, 4)]
def T31 : T :=
(.p .box [0] none
(.p .box [1] none
(q (.fld 0 (some 17)) [4]
(q (.fld 0 none) [3]
(.s (.callS 41) [5, 6] none
(q (.ext 0) [7]
(q (.ext 1) [7]
(.p (.wr 0 7) [.k (.agg [(.int .i64 0), (.int .i64 0), (.int .i64 0), (.int .i64 0), (.int .u64 0), (.int .i64 0), (.int .u64 0)]), 8] none
(q (.un .not) [9]
(.join 0 3 (.ite (.v 11) (q (.fld 1 none) [3]
(q (.nilchk) [12]
(.s (.ld (some 17)) [13] none
(q (.fld 0 (some 17)) [4]
(q (.fld 2 (some 7)) [3]
(.s (.callS 42) [14, 15, 16] none
(q (.ext 0) [17]
(q (.ext 1) [17]
(.p (.wr 0 7) [.k (.agg [(.int .i64 0), (.int .i64 0), (.int .i64 0), (.int .i64 0), (.int .u64 0), (.int .i64 0), (.int .u64 0)]), 18] none
(q (.bin .neq) [19, .k (.int .i64 0)]
(.ite (.v 21) (.p (.wr 9 1) [3, .k (.bool false)] none
(q (.fld 0 (some 10)) [22]
(.p (.wr 0 10) [.k (.agg [(.str []), .nilp, (.int .i64 0), (.int .i64 0), (.int .i64 0), (.int .i64 0), (.int .u64 0), (.int .i64 0), (.int .u64 0), (.bool false)]), 23] none
(q (.fld 0 (some 10)) [24]
(.ret [25])))))
(q (.fld 0 (some 7)) [20]
(.p (.wr 0 7) [10, 22] none
(.next 0 [23, .k (.agg [(.str []), .nilp, (.int .i64 0), (.int .i64 0), (.int .i64 0), (.int .i64 0), (.int .u64 0), (.int .i64 0), (.int .u64 0), (.bool false)]), 3]))))))))))))))
(.next 0 [10, .k (.agg [(.str []), .nilp, (.int .i64 0), (.int .i64 0), (.int .i64 0), (.int .i64 0), (.int .u64 0), (.int .i64 0), (.int .u64 0), (.bool false)]), 3]))
(q (.fld 0 none) [14]
(q (.nilchk) [2]
(q (.off 0) [16]
(.s (.ld none) [17] none
(q (.fld 0 (some 7)) [12]
(q (.build [(.str []), .nilp, (.int .i64 0), (.int .i64 0), (.int .i64 0), (.int .i64 0), (.int .u64 0), (.int .i64 0), (.int .u64 0), (.bool false)] [(0, 1), (1, 1), (2, 7), (9, 1)]) [15, 18, 19, .k (.bool true)]
(.p (.wr 0 10) [13, 20] none
(q (.fld 0 (some 10)) [21]
(.ret [22])))))))))))))))))))
def H31 : List (Nat × Nat) := [(15, 999998), (28, 999998), (36, 5), (33, 5), (9, 11), (26, 5), (21, 5), (7, 9), (13, 5), (6, 8), (4, 6), (3, 5)]
def T32 : T :=
(.s (.callI 15) [0] none
(q (.un .not) [2]
(qf (.mv) [1] 3
(qf (.bin .lss) [4, .k (.int .i64 1)] 3
(q (.pick) [3, .k (.bool true), 5]
(qf (.mv) [1] 6
(qf (.mv) [0] 6
(qf (.nilchk) [8] 6
(qf (.off 1) [9] 6
(.s (.ld none) [10] (some (6, false))
(qf (.lenSl) [11] 6
(qf (.bin .gtr) [7, 12] 6
(q (.pick) [6, .k (.bool true), 13]
(.ite (.v 14) (q (.build [(.str []), .nilp, (.int .i64 0), (.int .i64 0), (.int .i64 0), (.int .i64 0), (.int .u64 0), (.int .i64 0), (.int .u64 0), (.bool false)] []) []
(.p (.wr 0 10) [.k (.agg [(.str []), .nilp, (.int .i64 0), (.int .i64 0), (.int .i64 0), (.int .i64 0), (.int .u64 0), (.int .i64 0), (.int .u64 0), (.bool false)]), 15] none
(q (.fld 0 (some 10)) [16]
(.ret [17, .k (.bool false)]))))
(q (.nilchk) [0]
(q (.off 1) [15]
(.s (.ld none) [16] none
(q (.bin .sub) [1, .k (.int .i64 1)]
(q (.idxS 10) [17, 18]
(q (.ldE (some 10)) [19]
(.p (.wr 0 10) [.k (.agg [(.str []), .nilp, (.int .i64 0), (.int .i64 0), (.int .i64 0), (.int .i64 0), (.int .u64 0), (.int .i64 0), (.int .u64 0), (.bool false)]), 20] none
(q (.fld 0 (some 10)) [21]
(.ret [22, .k (.bool true)])))))))))))))))))))))))
def H32 : List (Nat × Nat) := [(29, 1), (4, 6)]
def T33 : T :=
(.p .box [0] none
(.p .box [1] none
(q (.fld 0 (some 17)) [2]
(q (.fld 0 (some 7)) [3]
(q (.call 16) [4, 5]
(q (.bin .neq) [6, .k (.int .i64 0)]
(.ite (.v 7) (.ret [.k (.str []), 6])
(q (.fld 3 (some 4)) [3]
(q (.fld 6 none) [2]
(q (.fld 7 none) [2]
(q (.call 43) [8, 9, 10]
(q (.ext 0) [11]
(q (.ext 1) [11]
(q (.bin .neq) [13, .k (.int .i64 0)]
(.ite (.v 14) (.ret [.k (.str []), 13])
(q (.fld 4 none) [2]
(q (.fld 0 none) [3]
(q (.idxS 11) [15, 16]
(q (.off 0) [17]
(q (.ldE none) [18]
(q (.bin .add) [19, .k (.str [58])]
(q (.fld 3 none) [2]
(q (.fld 1 none) [3]
(q (.idxS 9) [21, 22]
(q (.off 0) [23]
(q (.ldE none) [24]
(q (.bin .add) [20, 25]
(q (.bin .add) [26, .k (.str [58])]
(q (.fld 1 none) [2]
(q (.fld 2 none) [3]
(q (.idxS 3) [28, 29]
(q (.off 0) [30]
(q (.ldE none) [31]
(q (.bin .add) [27, 32]
(q (.bin .add) [33, .k (.str [58])]
(q (.bin .add) [34, 12]
(.ret [35, .k (.int .i64 0)])))))))))))))))))))))))))))))))))))))
def H33 : List (Nat × Nat) := [(50, 1), (49, 1), (47, 5), (45, 4), (41, 1), (40, 1), (38, 5), (36, 4), (33, 1), (32, 1), (30, 5), (28, 4), (20, 4), (18, 4), (16, 5), (3, 5), (2, 4)]
def T34 : T :=
(q (.lenSl) [0]
(.loop 0 [.k (.int .i64 0), .k (.int .i64 0)] (q (.bin .lss) [3, 2]
(.ite (.v 5) (q (.idxS 8) [0, 3]
(q (.ldE (some 8)) [6]
(.s (.callV) [1, 7] none
(.ite (.v 8) (.ret [3])
(q (.bin .add) [3, .k (.int .i64 1)]
(.next 0 [9, 4]))))))
(.ret [.k (.int .i64 (-1))])))))
def H34 : List (Nat × Nat) := [(14, 1)]
def T35 : T :=
(q (.isnil 0 false) [0]
(.ite (.v 1) (.ret [.k .nils])
(q (.bslice false 9) []
(.s (.app false 9) [2, 0] none
(.ret [3])))))
def H35 : List (Nat × Nat) := []
def T36 : T :=
(q (.isnil 0 false) [0]
(.ite (.v 1) (.ret [.k .nils])
(q (.bslice false 11) []
(.s (.app false 11) [2, 0] none
(.ret [3])))))
def H36 : List (Nat × Nat) := []
def T37 : T :=
(q (.isnil 0 false) [0]
(.ite (.v 1) (.ret [.k .nils])
(q (.bslice false 1) []
(.s (.app false 1) [2, 0] none
(.ret [3])))))
def H37 : List (Nat × Nat) := []
def T38 : T :=
(.p .box [0] none
(q (.fld 0 none) [3]
(q (.bin .lss) [4, .k (.int .i64 0)]
(qf (.fld 0 none) [3] 5
(qf (.mv) [1] 5
(qf (.bin .geq) [6, 7] 5
(q (.pick) [5, .k (.bool true), 8]
(.ite (.v 9) (.ret [.k (.bool false)])
(q (.bin .geq) [2, .k (.int .i64 64)]
(.ite (.v 10) (.ret [.k (.bool true)])
(q (.fld 1 none) [3]
(q (.mx) [2, .k (.int .i64 0)]
(q (.bin .shr) [11, 12]
(q (.bin .eql) [13, .k (.int .u64 0)]
(.ret [14])))))))))))))))
def H38 : List (Nat × Nat) := [(18, 5), (11, 5), (7, 5), (3, 5)]
def T39 : T :=
(.p .box [0] none
(.p .box [1] none
(q (.fld 0 none) [2]
(q (.fld 0 none) [3]
(q (.bin .geq) [4, 5]
(qt (.fld 1 none) [2] 6
(qt (.fld 1 none) [3] 6
(qt (.bin .and) [7, 8] 6
(qt (.fld 1 none) [3] 6
(qt (.bin .eql) [9, 10] 6
(q (.pick) [6, 11, .k (.bool false)]
(.ret [12]))))))))))))
def H39 : List (Nat × Nat) := [(16, 5), (13, 5), (11, 4), (7, 5), (5, 4), (3, 5), (2, 4)]
def T40 : T :=
(q (.bin .geq) [0, .k (.int .i64 0)]
(qt (.mv) [0] 1
(qt (.bin .lss) [2, .k (.int .i64 256)] 1
(q (.pick) [1, 3, .k (.bool false)]
(.ret [4])))))
def H40 : List (Nat × Nat) := []
def T41 : T :=
(.p .box [0] none
(q (.bin .eql) [1, .k (.str [])]
(.ite (.v 3) (q (.build [(.int .i64 0), (.int .i64 0), (.int .i64 0), (.int .i64 0), (.int .u64 0), (.int .i64 0), (.int .u64 0)] []) []
(.p (.wr 0 7) [.k (.agg [(.int .i64 0), (.int .i64 0), (.int .i64 0), (.int .i64 0), (.int .u64 0), (.int .i64 0), (.int .u64 0)]), 4] none
(q (.fld 0 (some 7)) [5]
(.ret [6, .k (.bool false)]))))
(q (.fld 0 (some 17)) [2]
(q (.call 44) [4, 1]
(q (.ext 0) [5]
(q (.ext 1) [5]
(.p (.wr 0 7) [.k (.agg [(.int .i64 0), (.int .i64 0), (.int .i64 0), (.int .i64 0), (.int .u64 0), (.int .i64 0), (.int .u64 0)]), 6] none
(q (.fld 0 (some 7)) [8]
(.ret [9, 7]))))))))))
def H41 : List (Nat × Nat) := [(4, 6), (2, 4)]
def T42 : T :=
(.p .box [0] none
(.p .box [1] none
(.p .box [2] none
(q (.fld 0 (some 17)) [3]
(q (.fld 0 (some 7)) [5]
(q (.call 16) [6, 7]
(q (.bin .neq) [8, .k (.int .i64 0)]
(.ite (.v 9) (q (.build [(.int .i64 0), (.int .i64 0), (.int .i64 0), (.int .i64 0), (.int .u64 0), (.int .i64 0), (.int .u64 0)] []) []
(.p (.wr 0 7) [.k (.agg [(.int .i64 0), (.int .i64 0), (.int .i64 0), (.int .i64 0), (.int .u64 0), (.int .i64 0), (.int .u64 0)]), 10] none
(q (.fld 0 (some 7)) [11]
(.ret [12, 8]))))
(q (.fld 0 (some 17)) [4]
(q (.fld 4 none) [3]
(q (.fld 0 none) [5]
(q (.idxS 11) [11, 12]
(q (.off 0) [13]
(q (.ldE none) [14]
(q (.call 45) [10, 15]
(q (.fld 0 (some 17)) [4]
(q (.fld 3 none) [3]
(q (.fld 1 none) [5]
(q (.idxS 9) [18, 19]
(q (.off 0) [20]
(q (.ldE none) [21]
(q (.call 46) [17, 22]
(q (.fld 0 (some 17)) [4]
(q (.fld 1 none) [3]
(q (.fld 2 none) [5]
(q (.idxS 3) [25, 26]
(q (.off 0) [27]
(q (.ldE none) [28]
(q (.call 47) [24, 29]
(q (.build [(.int .i64 0), (.int .i64 0), (.int .i64 0), (.int .i64 0), (.int .u64 0), (.int .i64 0), (.int .u64 0)] [(0, 1), (1, 1), (2, 1)]) [16, 23, 30]
(.p (.wr 0 7) [.k (.agg [(.int .i64 0), (.int .i64 0), (.int .i64 0), (.int .i64 0), (.int .u64 0), (.int .i64 0), (.int .u64 0)]), 31] none
(q (.fld 0 (some 17)) [3]
(q (.fld 0 (some 17)) [4]
(q (.fld 3 (some 2)) [5]
(q (.call 48) [33, 34, 35]
(q (.ext 0) [36]
(q (.ext 1) [36]
(.p (.wr 0 2) [.k (.agg [(.int .i64 0), (.int .u64 0)]), 37] none
(q (.fld 0 (some 17)) [3]
(q (.fld 0 (some 17)) [4]
(q (.fld 5 (some 2)) [5]
(q (.call 48) [40, 41, 42]
(q (.ext 0) [43]
(q (.ext 1) [43]
(.p (.wr 0 2) [.k (.agg [(.int .i64 0), (.int .u64 0)]), 44] none
(q (.fld 0 (some 2)) [39]
(q (.fld 0 (some 2)) [46]
(q (.build [(.int .i64 0), (.int .u64 0), (.int .i64 0), (.int .u64 0)] [(0, 2), (2, 2)]) [47, 48]
(.p (.wr 3 4) [32, 49] none
(q (.un .not) [38]
(qf (.mv) [45] 51
(qf (.un .not) [52] 51
(q (.pick) [51, .k (.bool true), 53]
(qf (.fld 0 (some 17)) [4] 54
(qf (.fld 0 (some 7)) [50] 54
(qf (.call 16) [55, 56] 54
(qf (.bin .neq) [57, .k (.int .i64 0)] 54
(q (.pick) [54, .k (.bool true), 58]
(.ite (.v 59) (q (.build [(.int .i64 0), (.int .i64 0), (.int .i64 0), (.int .i64 0), (.int .u64 0), (.int .i64 0), (.int .u64 0)] []) []
(.p (.wr 0 7) [.k (.agg [(.int .i64 0), (.int .i64 0), (.int .i64 0), (.int .i64 0), (.int .u64 0), (.int .i64 0), (.int .u64 0)]), 60] none
(q (.fld 0 (some 7)) [61]
(.ret [62, .k (.int .i64 19)]))))
(q (.fld 0 (some 7)) [50]
(.p (.wr 0 7) [.k (.agg [(.int .i64 0), (.int .i64 0), (.int .i64 0), (.int .i64 0), (.int .u64 0), (.int .i64 0), (.int .u64 0)]), 60] none
(q (.fld 0 (some 7)) [61]
(.ret [62, .k (.int .i64 0)])))))))))))))))))))))))))))))))))))))))))))))))))))))))))))))))
def H42 : List (Nat × Nat) := [(70, 11), (12, 14), (62, 7), (61, 7), (10, 12), (53, 7), (52, 7), (9, 11), (45, 1), (44, 1), (42, 7), (40, 5), (36, 1), (35, 1), (33, 7), (31, 5), (27, 1), (26, 1), (24, 7), (22, 5), (6, 8), (5, 7), (4, 6), (3, 5)]
def T43 : T :=
(.p .box [0] none
(q (.fld 0 (some 4)) [3]
(q (.call 49) [4, 1, 2]
(q (.bin .neq) [5, .k (.int .i64 0)]
(.ite (.v 6) (.ret [.k (.str []), 5])
(q (.fld 0 (some 2)) [3]
(q (.call 50) [7, 1, 2]
(q (.fld 0 (some 2)) [3]
(q (.fld 2 (some 2)) [3]
(q (.eqa false [.i .i64, .i .u64]) [9, 10]
(.ite (.v 11) (.ret [8, .k (.int .i64 0)])
(q (.bin .add) [8, .k (.str [45])]
(q (.fld 2 (some 2)) [3]
(q (.call 50) [13, 1, 2]
(q (.bin .add) [12, 14]
(.ret [15, .k (.int .i64 0)]))))))))))))))))
def H43 : List (Nat × Nat) := [(30, 5), (24, 5), (22, 5), (17, 5), (3, 5)]
def T44 : T :=
(.p .box [0] none
(q (.fld 14 none) [2]
(q (.lenSl) [3]
(.loop 0 [.k (.int .i64 0), .k (.bool false), .k (.agg [(.int .i64 0), (.int .i64 0), (.int .i64 0), (.int .i64 0), (.int .u64 0), (.int .i64 0), (.int .u64 0)])] (q (.bin .lss) [5, 4]
(.ite (.v 8) (q (.idxS 8) [3, 5]
(q (.ldE (some 8)) [9]
(.p (.wr 0 8) [.k (.agg [(.str []), (.int .i64 0), (.int .i64 0), (.int .i64 0), (.int .i64 0), (.int .u64 0), (.int .i64 0), (.int .u64 0)]), 10] none
(q (.fld 0 none) [11]
(q (.bin .eql) [12, 1]
(.ite (.v 13) (q (.fld 1 (some 7)) [11]
(.p (.wr 0 7) [7, 14] none
(q (.fld 0 (some 7)) [15]
(.ret [16, .k (.bool true)]))))
(q (.bin .add) [5, .k (.int .i64 1)]
(.next 0 [14, 6, 7]))))))))
(q (.build [(.int .i64 0), (.int .i64 0), (.int .i64 0), (.int .i64 0), (.int .u64 0), (.int .i64 0), (.int .u64 0)] []) []
(.p (.wr 0 7) [7, 9] none
(q (.fld 0 (some 7)) [10]
(.ret [11, .k (.bool false)]))))))))))
def H44 : List (Nat × Nat) := [(19, 9), (15, 9), (7, 9), (13, 1), (8, 4), (4, 6), (2, 4)]
def T45 : T :=
(.p .box [0] none
(.s (.box) [1] none
(q (.fld 4 none) [2]
(q (.mkfunc 52) [3]
(.s (.callI 51) [4, 5] none
(.ret [6]))))))
def H45 : List (Nat × Nat) := [(5, 4), (2, 4)]
def T46 : T :=
(.p .box [0] none
(.s (.box) [1] none
(q (.fld 3 none) [2]
(q (.mkfunc 54) [3]
(.s (.callI 53) [4, 5] none
(.ret [6]))))))
def H46 : List (Nat × Nat) := [(5, 4), (2, 4)]
def T47 : T :=
(.p .box [0] none
(.s (.box) [1] none
(q (.fld 1 none) [2]
(q (.mkfunc 56) [3]
(.s (.callI 55) [4, 5] none
(.ret [6]))))))
def H47 : List (Nat × Nat) := [(5, 4), (2, 4)]
def T48 : T :=
(.p .box [0] none
(.p .box [1] none
(.p .box [2] none
(q (.fld 6 none) [4]
(q (.fld 6 none) [3]
(q (.fld 0 none) [5]
(q (.idxS 1) [7, 8]
(q (.ldE none) [9]
(q (.call 58) [6, 10]
(q (.build [(.int .i64 0), (.int .u64 0)] [(0, 1)]) [11]
(.p (.wr 0 2) [.k (.agg [(.int .i64 0), (.int .u64 0)]), 12] none
(q (.fld 0 none) [13]
(q (.bin .geq) [14, .k (.int .i64 0)]
(q (.fld 7 none) [3]
(q (.lenSl) [16]
(.loop 0 [.k (.int .i64 0), 15, 13] (q (.bin .lss) [18, 17]
(.ite (.v 21) (q (.idxS 1) [16, 18]
(q (.ldE none) [22]
(q (.fld 1 none) [5]
(q (.bin .shr) [24, 18]
(q (.bin .and) [25, .k (.int .u64 1)]
(q (.bin .eql) [26, .k (.int .u64 0)]
(.ite (.v 27) (q (.bin .add) [18, .k (.int .i64 1)]
(.next 0 [28, 19, 20]))
(q (.fld 7 none) [4]
(q (.call 58) [28, 23]
(qt (.mv) [29] 19
(qt (.bin .geq) [30, .k (.int .i64 0)] 19
(q (.pick) [19, 31, .k (.bool false)]
(q (.bin .geq) [29, .k (.int .i64 0)]
(.ite (.v 33) (q (.fld 1 none) [20]
(q (.bin .shl) [.k (.int .u64 1), 29]
(q (.bin .or) [34, 35]
(.p (.wr 1 1) [20, 36] none
(q (.bin .add) [18, .k (.int .i64 1)]
(.next 0 [38, 32, 37]))))))
(q (.bin .add) [18, .k (.int .i64 1)]
(.next 0 [34, 32, 20]))))))))))))))))
(q (.fld 0 (some 2)) [20]
(.p (.wr 0 2) [.k (.agg [(.int .i64 0), (.int .u64 0)]), 22] none
(q (.fld 0 (some 2)) [23]
(.ret [24, 19]))))))))))))))))))))))
def H48 : List (Nat × Nat) := [(56, 10), (51, 10), (40, 6), (34, 7), (32, 1), (26, 5), (23, 10), (8, 10), (19, 1), (17, 7), (15, 5), (13, 6), (6, 8), (5, 7), (4, 6), (3, 5)]
def T49 : T :=
(.p .box [0] none
(q (.call 59) [1, 2]
(q (.un .not) [4]
(.ite (.v 5) (.ret [.k (.int .i64 2)])
(q (.fld 0 (some 4)) [3]
(q (.lenSl) [1]
(q (.lenSl) [2]
(q (.call 27) [6, 7, 8]
(q (.un .not) [9]
(.ite (.v 10) (.ret [.k (.int .i64 18)])
(.ret [.k (.int .i64 0)])))))))))))
def H49 : List (Nat × Nat) := [(3, 5)]
def T50 : T :=
(.p .box [0] none
(q (.fld 1 none) [3]
(q (.call 60) [4]
(q (.lenSl) [5]
(.loop 0 [.k (.int .i64 0), .k .nils] (q (.bin .lss) [7, 6]
(.ite (.v 9) (q (.idxS 2) [5, 7]
(q (.ldE (some 2)) [10]
(.p (.wr 0 2) [.k (.agg [(.int .i64 0), (.int .i64 0)]), 11] none
(q (.fld 0 none) [12]
(q (.fld 1 none) [12]
(q (.bin .eql) [13, 14]
(.ite (.v 15) (q (.fld 0 none) [12]
(q (.idxS 1) [2, 16]
(q (.ldE none) [17]
(q (.bslice false 1) [18]
(.s (.app false 1) [8, 19] none
(q (.bin .add) [7, .k (.int .i64 1)]
(.next 0 [21, 20])))))))
(q (.fld 0 none) [12]
(q (.idxS 1) [2, 16]
(q (.ldE none) [17]
(q (.bin .add) [18, .k (.str [46])]
(q (.fld 1 none) [12]
(q (.idxS 1) [2, 20]
(q (.ldE none) [21]
(q (.bin .add) [19, 22]
(q (.bslice false 1) [23]
(.s (.app false 1) [8, 24] none
(q (.bin .add) [7, .k (.int .i64 1)]
(.next 0 [26, 25])))))))))))))))))))
(q (.lenSl) [8]
(q (.bin .eql) [10, .k (.int .i64 0)]
(.ite (.v 11) (q (.fld 0 none) [3]
(q (.idxS 1) [1, 12]
(q (.ldE none) [13]
(.ret [14]))))
(q (.fld 0 none) [3]
(q (.idxS 1) [1, 12]
(q (.ldE none) [13]
(q (.bin .add) [14, .k (.str [58])]
(q (.call 61) [8, .k (.str [44])]
(q (.bin .add) [15, 16]
(.ret [17])))))))))))))))))
def H50 : List (Nat × Nat) := [(58, 1), (56, 5), (53, 1), (51, 5), (41, 1), (39, 11), (35, 1), (33, 11), (27, 1), (25, 11), (20, 11), (18, 11), (9, 11), (16, 1), (10, 5), (3, 5)]
def T51 : T :=
(q (.lenSl) [0]
(.loop 0 [.k (.int .i64 0), .k (.int .i64 0)] (q (.bin .lss) [3, 2]
(.ite (.v 5) (q (.idxS 11) [0, 3]
(q (.ldE (some 11)) [6]
(.s (.callV) [1, 7] none
(.ite (.v 8) (.ret [3])
(q (.bin .add) [3, .k (.int .i64 1)]
(.next 0 [9, 4]))))))
(.ret [.k (.int .i64 (-1))])))))
def H51 : List (Nat × Nat) := [(14, 1)]
def T52 : T :=
(.p .box [0] none
(q (.fld 0 none) [2]
(.s (.ld none) [1] none
(q (.bin .eql) [3, 4]
(.ret [5])))))
def H52 : List (Nat × Nat) := [(4, 4), (2, 4)]
def T53 : T :=
(q (.lenSl) [0]
(.loop 0 [.k (.int .i64 0), .k (.int .i64 0)] (q (.bin .lss) [3, 2]
(.ite (.v 5) (q (.idxS 9) [0, 3]
(q (.ldE (some 9)) [6]
(.s (.callV) [1, 7] none
(.ite (.v 8) (.ret [3])
(q (.bin .add) [3, .k (.int .i64 1)]
(.next 0 [9, 4]))))))
(.ret [.k (.int .i64 (-1))])))))
def H53 : List (Nat × Nat) := [(14, 1)]
def T54 : T :=
(.p .box [0] none
(q (.fld 0 none) [2]
(.s (.ld none) [1] none
(q (.bin .eql) [3, 4]
(.ret [5])))))
def H54 : List (Nat × Nat) := [(4, 4), (2, 4)]
def T55 : T :=
(q (.lenSl) [0]
(.loop 0 [.k (.int .i64 0), .k (.int .i64 0)] (q (.bin .lss) [3, 2]
(.ite (.v 5) (q (.idxS 3) [0, 3]
(q (.ldE (some 3)) [6]
(.s (.callV) [1, 7] none
(.ite (.v 8) (.ret [3])
(q (.bin .add) [3, .k (.int .i64 1)]
(.next 0 [9, 4]))))))
(.ret [.k (.int .i64 (-1))])))))
def H55 : List (Nat × Nat) := [(14, 1)]
def T56 : T :=
(.p .box [0] none
(q (.fld 0 none) [2]
(.s (.ld none) [1] none
(q (.bin .eql) [3, 4]
(qf (.fld 1 none) [2] 5
(.s (.ld none) [1] (some (5, false))
(qf (.call 57) [6, 7] 5
(q (.pick) [5, .k (.bool true), 8]
(.ret [9])))))))))
def H56 : List (Nat × Nat) := [(9, 4), (4, 4), (2, 4)]
def T57 : T :=
(q (.call 58) [0, 1]
(q (.bin .geq) [2, .k (.int .i64 0)]
(.ret [3])))
def H57 : List (Nat × Nat) := []
def T58 : T :=
(q (.lenSl) [0]
(.loop 0 [.k (.int .i64 0), .k (.int .i64 0)] (q (.bin .lss) [3, 2]
(.ite (.v 5) (q (.idxS 1) [0, 3]
(q (.ldE none) [6]
(q (.bin .eql) [1, 7]
(.ite (.v 8) (.ret [3])
(q (.bin .add) [3, .k (.int .i64 1)]
(.next 0 [9, 4]))))))
(.ret [.k (.int .i64 (-1))])))))
def H58 : List (Nat × Nat) := [(14, 1)]
def T59 : T :=
(q (.call 62) [0, .k (.int .i64 16)]
(qt (.mv) [1] 2
(qt (.call 62) [3, .k (.int .i64 64)] 2
(q (.pick) [2, 4, .k (.bool false)]
(.ret [5])))))
def H59 : List (Nat × Nat) := []
def T60 : T :=
(.loop 0 [.k (.int .i64 0), .k .nils] (q (.bin .lss) [1, .k (.int .i64 64)]
(.ite (.v 3) (q (.bin .shr) [0, 1]
(q (.bin .and) [4, .k (.int .u64 1)]
(q (.bin .eql) [5, .k (.int .u64 0)]
(.ite (.v 6) (q (.bin .add) [1, .k (.int .i64 1)]
(.next 0 [7, 2]))
(q (.build [(.int .i64 0), (.int .i64 0)] [(0, 1), (1, 1)]) [1, 1]
(.p (.wr 0 2) [.k (.agg [(.int .i64 0), (.int .i64 0)]), 7] none
(.loop 1 [8] (q (.fld 1 none) [9]
(q (.bin .add) [10, .k (.int .i64 1)]
(q (.bin .lss) [11, .k (.int .i64 64)]
(qt (.mv) [0] 12
(qt (.fld 1 none) [9] 12
(qt (.bin .add) [14, .k (.int .i64 1)] 12
(qt (.bin .shr) [13, 15] 12
(qt (.bin .and) [16, .k (.int .u64 1)] 12
(qt (.bin .eql) [17, .k (.int .u64 1)] 12
(q (.pick) [12, 18, .k (.bool false)]
(.ite (.v 19) (q (.fld 1 none) [9]
(q (.bin .add) [20, .k (.int .i64 1)]
(.p (.wr 1 1) [9, 21] none
(.next 1 [22]))))
(q (.fld 0 (some 2)) [9]
(q (.bslice false 2) [20]
(.s (.app false 2) [2, 21] none
(q (.fld 1 none) [9]
(q (.bin .add) [23, .k (.int .i64 1)]
(.next 0 [24, 22]))))))))))))))))))))))))
(.ret [2]))))
def H60 : List (Nat × Nat) := [(39, 7), (34, 7), (31, 7), (24, 7), (18, 7), (5, 7)]
def T62 : T :=
(q (.lenSl) [0]
(q (.bin .gtr) [2, 1]
(.ite (.v 3) (.ret [.k (.bool false)])
(q (.lenSl) [0]
(.loop 0 [.k (.int .i64 0), .k (.bool false)] (q (.bin .lss) [5, 4]
(.ite (.v 7) (q (.idxS 1) [0, 5]
(q (.ldE none) [8]
(q (.lenStr) [9]
(q (.bin .gtr) [10, .k (.int .i64 32)]
(qf (.mv) [9] 11
(qf (.call 66) [12] 11
(qf (.un .not) [13] 11
(q (.pick) [11, .k (.bool true), 14]
(qf (.mv) [0] 15
(qf (.mv) [5] 15
(qf (.slcV 1 false true false) [16, 17] 15
(qf (.mv) [9] 15
(qf (.call 57) [18, 19] 15
(q (.pick) [15, .k (.bool true), 20]
(.ite (.v 21) (.ret [.k (.bool false)])
(q (.bin .add) [5, .k (.int .i64 1)]
(.next 0 [22, 6])))))))))))))))))
(.ret [.k (.bool true)]))))))))
def H62 : List (Nat × Nat) := [(16, 1)]
def T66 : T :=
(q (.lenStr) [0]
(.loop 0 [.k (.int .i64 0), .k (.bool false)] (q (.bin .lss) [2, 1]
(.ite (.v 4) (q (.idxStr) [0, 2]
(q (.call 69) [5]
(q (.un .not) [6]
(.ite (.v 7) (.ret [.k (.bool false)])
(q (.bin .add) [2, .k (.int .i64 1)]
(.next 0 [8, 3]))))))
(q (.bin .neq) [0, .k (.str [])]
(.ret [5]))))))
def H66 : List (Nat × Nat) := []
def T69 : T :=
(q (.bin .geq) [0, .k (.int .u8 97)]
(qt (.mv) [0] 1
(qt (.bin .leq) [2, .k (.int .u8 122)] 1
(q (.pick) [1, 3, .k (.bool false)]
(qf (.mv) [0] 4
(qf (.bin .geq) [5, .k (.int .u8 65)] 4
(qf (.mv) [6] 4
(qt (.mv) [0] 7
(qt (.bin .leq) [8, .k (.int .u8 90)] 7
(qf (.pick) [7, 9, .k (.bool false)] 4
(q (.pick) [4, .k (.bool true), 10]
(qf (.mv) [0] 11
(qf (.bin .geq) [12, .k (.int .u8 48)] 11
(qf (.mv) [13] 11
(qt (.mv) [0] 14
(qt (.bin .leq) [15, .k (.int .u8 57)] 14
(qf (.pick) [14, 16, .k (.bool false)] 11
(q (.pick) [11, .k (.bool true), 17]
(qf (.mv) [0] 18
(qf (.bin .eql) [19, .k (.int .u8 95)] 18
(q (.pick) [18, .k (.bool true), 20]
(.ret [21]))))))))))))))))))))))
def H69 : List (Nat × Nat) := []
end Go.Proofs.Ytdibpeknpmhknaa
namespace Go.Proofs.Ytdibpeknpmhknaa
set_option linter.unusedVariables false
set_option linter.unusedSimpArgs false
open Go
abbrev CallP := Nat → List DVal → Option DVal
abbrev CallI := Nat → List DVal → Sto → Option (DVal × Sto)
def wantP (x : DVal) (b : Bool) (o : Option DVal) : Option DVal := if x.isB b then o else some .undef
def wantS (x : DVal) (b : Bool) (σ : Sto) (o : Option (DVal × Sto)) : Option (DVal × Sto) := if x.isB b then o else some (.undef, σ)
def callPS (C : CallP) (f : Nat) (xs : List DVal) : Option DVal := (sealVals xs).bind fun ys => (C f ys).map DVal.stale
def callFS (C : CallP) (f : Nat) (σ : Sto) (xs : List DVal) : Option (DVal × Sto) := (sealVals xs).bind fun ys => (C f ys).map (importVal σ)
def callIS (I : CallI) (f : Nat) (σ : Sto) (xs : List DVal) : Option (DVal × Sto) := if xs.all DVal.okVal then I f xs σ else none
class Kt (α : Type) where
  f : α
def bnd (x : Option DVal) [k : Kt (DVal → Option Out)] : Option Out := bndP x k.f
def bns (x : Option (DVal × Sto)) [k : Kt (DVal → Sto → Option Out)] : Option Out := bndS x k.f
def itK (c : DVal) [a : Kt (Option Out)] [b : Kt (Option Out)] : Option Out := iteJ c a.f b.f
def wnP (x : DVal) (b : Bool) [o : Kt (Option DVal)] : Option DVal := wantP x b o.f
def wnS (x : DVal) (b : Bool) (σ : Sto) [o : Kt (Option (DVal × Sto))] : Option (DVal × Sto) := wantS x b σ o.f
def finP (o : Option Out) : Option DVal :=
  (match o with
  | some (.done v σ) => (v.handBack σ).map fun u => (u, emptySto)
  | _ => none).map Prod.fst
def finI (o : Option Out) : Option (DVal × Sto) :=
  match o with
  | some (.done v σ') => some (v, σ')
  | _ => none
@[simp] theorem finP_done (v : DVal) (σ : Sto) : finP (some (.done v σ)) = v.handBack σ := by simp [finP, Function.comp_def]
@[simp] theorem finI_done (v : DVal) (σ : Sto) : finI (some (.done v σ)) = some (v, σ) := rfl
@[simp] theorem bnd_some (v : DVal) (k : Kt (DVal → Option Out)) : @bnd (some v) k = k.f v := rfl
@[simp] theorem bns_some (v : DVal) (σ : Sto) (k : Kt (DVal → Sto → Option Out)) : @bns (some (v, σ)) k = k.f v σ := rfl
noncomputable def iteQ {α : Type} (p : Prop) (a b : α) : α := @ite α p (Classical.propDecidable p) a b
@[simp] theorem iteQ_true {α : Type} (a b : α) : iteQ True a b = a := by simp [iteQ]
@[simp] theorem iteQ_false {α : Type} (a b : α) : iteQ False a b = b := by simp [iteQ]
theorem iteQ_pos {α : Type} {p : Prop} {a b : α} (h : p) : iteQ p a b = a := by simp [iteQ, h]
theorem iteQ_neg {α : Type} {p : Prop} {a b : α} (h : ¬ p) : iteQ p a b = b := by simp [iteQ, h]
@[simp] theorem iteQ_same {α : Type} (p : Prop) (a : α) : iteQ p a a = a := by simp [iteQ]
theorem iteQ_eq {α : Type} (p : Prop) [Decidable p] (a b : α) : iteQ p a b = if p then a else b := by by_cases h : p <;> simp [iteQ, h]
theorem iteQ_apply {α β : Type} (f : α → β) (p : Prop) (a b : α) : f (iteQ p a b) = iteQ p (f a) (f b) := by by_cases h : p <;> simp [iteQ, h]
@[congr] theorem iteQ_congr {α : Type} {p p' n' : Prop} {a a' b b' : α} (hp : p = p') (hn : (¬ p) = n') (ha : p' → a = a') (hb : n' → b = b') : iteQ p a b = iteQ p' a' b' := by
  subst hp
  by_cases h : p
  · rw [iteQ_pos h, iteQ_pos h, ha h]
  · rw [iteQ_neg h, iteQ_neg h, hb (by rw [← hn]; exact h)]
@[simp] theorem itK_bool (c : Bool) (a b : Kt (Option Out)) : @itK (.bool c) a b = iteQ (c = true) a.f b.f := by cases c <;> simp [itK, iteJ]
@[simp] theorem retJ_some (v : DVal) (σ : Sto) : retJ (some v) σ = some (.done v σ) := rfl
@[simp] theorem joinJ_next (l : Nat) (k : List DVal → Sto → Option Out) (vs : List DVal) (σ : Sto) : joinJ l k (some (.next l vs σ)) = k vs σ := by simp [joinJ]
@[simp] theorem joinJ_done (l : Nat) (k : List DVal → Sto → Option Out) (v : DVal) (σ : Sto) : joinJ l k (some (.done v σ)) = some (.done v σ) := rfl
theorem iterJ_succ (l : Nat) (f : List DVal → Sto → Option Out) (m : Nat) (vs : List DVal) (σ : Sto) : iterJ l f (m + 1) vs σ = match f vs σ with
    | some (.next i vs' σ') => if i = l then iterJ l f m vs' σ' else some (.next i vs' σ')
    | r => r := rfl
theorem iterJ_next' {l : Nat} {f : List DVal → Sto → Option Out} {m : Nat} {vs vs' : List DVal} {σ σ' : Sto} (h : f vs σ = some (.next l vs' σ')) : iterJ l f (m + 1) vs σ = iterJ l f m vs' σ' := by
  rw [iterJ_succ, h]; simp
theorem iterJ_done {l : Nat} {f : List DVal → Sto → Option Out} {m : Nat} {vs : List DVal} {σ σ' : Sto} {v : DVal} (h : f vs σ = some (.done v σ')) : iterJ l f (m + 1) vs σ = some (.done v σ') := by
  rw [iterJ_succ, h]
theorem iterJ_out {l i : Nat} {f : List DVal → Sto → Option Out} {m : Nat} {vs vs' : List DVal} {σ σ' : Sto} (h : f vs σ = some (.next i vs' σ')) (hi : i ≠ l) : iterJ l f (m + 1) vs σ = some (.next i vs' σ') := by
  rw [iterJ_succ, h]; simp [hi]
noncomputable def gv (p : Prop) (v : DVal) : DVal := iteQ p v .undef
@[simp] theorem gv_true (v : DVal) : gv True v = v := by simp [gv]
@[simp] theorem gv_false (v : DVal) : gv False v = .undef := by simp [gv]
noncomputable def wantQ (p : Prop) (o : Option DVal) : Option DVal := iteQ p o (some .undef)
@[simp] theorem wantQ_true (o : Option DVal) : wantQ True o = o := by simp [wantQ]
@[simp] theorem wantQ_false (o : Option DVal) : wantQ False o = some .undef := by simp [wantQ]
@[simp] theorem wantQ_some (p : Prop) (v : DVal) : wantQ p (some v) = some (gv p v) := by by_cases h : p <;> simp [h]
@[congr] theorem wantQ_congr {p p' : Prop} {o o' : Option DVal} (hp : p = p') (ho : p' → o = o') : wantQ p o = wantQ p' o' := by
  subst hp
  by_cases h : p
  · rw [ho h]
  · simp [h]
@[simp] theorem wnP_t (c : Bool) (o : Kt (Option DVal)) : @wnP (.bool c) true o = wantQ (c = true) o.f := by cases c <;> simp [wnP, wantP, DVal.isB]
@[simp] theorem wnP_f (c : Bool) (o : Kt (Option DVal)) : @wnP (.bool c) false o = wantQ (c = false) o.f := by cases c <;> simp [wnP, wantP, DVal.isB]
@[simp] theorem wnS_t (c : Bool) (σ : Sto) (o : Kt (Option (DVal × Sto))) : @wnS (.bool c) true σ o = iteQ (c = true) o.f (some (.undef, σ)) := by cases c <;> simp [wnS, wantS, DVal.isB]
@[simp] theorem wnS_f (c : Bool) (σ : Sto) (o : Kt (Option (DVal × Sto))) : @wnS (.bool c) false σ o = iteQ (c = false) o.f (some (.undef, σ)) := by cases c <;> simp [wnS, wantS, DVal.isB]
@[simp] theorem wnP_gt (q : Prop) (c : Bool) (o : Kt (Option DVal)) : @wnP (gv q (.bool c)) true o = wantQ (q ∧ c = true) o.f := by
  by_cases h : q <;> cases c <;> simp [h, wnP, wantP, DVal.isB]
@[simp] theorem wnP_gf (q : Prop) (c : Bool) (o : Kt (Option DVal)) : @wnP (gv q (.bool c)) false o = wantQ (q ∧ c = false) o.f := by
  by_cases h : q <;> cases c <;> simp [h, wnP, wantP, DVal.isB]
@[simp] theorem pick_true (a b : DVal) : pickSem [.bool true, a, b] = some a := rfl
@[simp] theorem pick_false (a b : DVal) : pickSem [.bool false, a, b] = some b := rfl
@[simp] theorem pick_and {c a : Bool} {p : Prop} (h : (c = true) ↔ p) : pickSem [.bool c, gv p (.bool a), .bool false] = some (.bool (c && a)) := by
  cases c
  · rfl
  · have : p := h.1 rfl
    simp [this]
@[simp] theorem pick_or {c a : Bool} {p : Prop} (h : (c = false) ↔ p) : pickSem [.bool c, .bool true, gv p (.bool a)] = some (.bool (c || a)) := by
  cases c
  · have : p := h.1 rfl
    simp [this]
  · rfl
@[simp] theorem joinJ_ite (l : Nat) (k : List DVal → Sto → Option Out) (p : Prop) (a b : Option Out) : joinJ l k (iteQ p a b) = iteQ p (joinJ l k a) (joinJ l k b) := iteQ_apply _ _ _ _
@[simp] theorem finP_ite (p : Prop) (a b : Option Out) : finP (iteQ p a b) = iteQ p (finP a) (finP b) := iteQ_apply _ _ _ _
@[simp] theorem finI_ite (p : Prop) (a b : Option Out) : finI (iteQ p a b) = iteQ p (finI a) (finI b) := iteQ_apply _ _ _ _
@[simp] theorem bns_ite (p : Prop) (a b : Option (DVal × Sto)) (k : Kt (DVal → Sto → Option Out)) : @bns (iteQ p a b) k = iteQ p (@bns a k) (@bns b k) := iteQ_apply (fun x => @bns x k) _ _ _
theorem upd_apply' {α : Type} (f : Nat → α) (a b : Nat) (v : α) : upd f a v b = if b = a then v else f b := rfl
@[simp] theorem upd_upd {α : Type} (f : Nat → α) (a : Nat) (v u : α) : upd (upd f a v) a u = upd f a u := by funext b; simp only [upd]; split <;> rfl
attribute [simp] jboxSem.eq_1 jwrSem.eq_1 jrngSem.eq_1 jnxSem.eq_1 resEx.eq_1 resEx.eq_2 POp.sem.eq_1 POp.sem.eq_2 POp.sem.eq_3 POp.sem.eq_4 POp.sem.eq_5 POp.sem.eq_6 POp.sem.eq_7 POp.sem.eq_8 POp.sem.eq_9 POp.sem.eq_10 POp.sem.eq_11 POp.sem.eq_12 POp.sem.eq_13 POp.sem.eq_14 POp.sem.eq_15 POp.sem.eq_16 POp.sem.eq_17 POp.sem.eq_18 POp.sem.eq_19 POp.sem.eq_20 POp.sem.eq_21 POp.sem.eq_22 POp.sem.eq_23 POp.sem.eq_24 POp.sem.eq_25 POp.sem.eq_26 POp.sem.eq_27 POp.sem.eq_28 POp.sem.eq_29 POp.sem.eq_30 POp.sem.eq_31 POp.sem.eq_32 DVal.cells.eq_1 DVal.cells.eq_2 DVal.okCell.eq_1 DVal.okCell.eq_2 DVal.okCell.eq_3 DVal.okCell.eq_4 DVal.okCell.eq_5 DVal.okCell.eq_6 DVal.okCell.eq_7 DVal.okCell.eq_8 readCells.eq_1 readCells.eq_2 writeCells.eq_1 offSem.eq_1 DVal.shift.eq_1 DVal.shift.eq_2 DVal.shift.eq_3 mvSem.eq_1 bin2Sem.eq_1 binSem.eq_1 binSem.eq_2 binSem.eq_3 binSem.eq_4 binInt.eq_1 binInt.eq_2 binInt.eq_3 binInt.eq_4 binInt.eq_5 binInt.eq_6 binInt.eq_7 binInt.eq_8 binInt.eq_9 binInt.eq_10 binInt.eq_11 binInt.eq_12 binInt.eq_13 binInt.eq_14 binInt.eq_15 binStr.eq_1 binStr.eq_2 binStr.eq_3 binStr.eq_4 binStr.eq_5 binStr.eq_6 binStr.eq_7 convSem.eq_1 convSSem.eq_1 eqbSem.eq_1 eqaSem.eq_1 cellsEq.eq_1 cellsEq.eq_2 cellEq.eq_1 cellEq.eq_2 cellEq.eq_3 isnilSem.eq_1 DVal.isNil.eq_1 DVal.isNil.eq_2 DVal.isNil.eq_3 DVal.isNil.eq_4 DVal.isNil.eq_5 DVal.isNil.eq_6 DVal.isNil.eq_7 DVal.isNil.eq_8 DVal.isNil.eq_9 DVal.isNil.eq_10 DVal.isNil.eq_11 DVal.isNil.eq_12 DVal.isNil.eq_13 DVal.isNil.eq_14 unSem.eq_1 unSem.eq_2 unSem.eq_3 unSem.eq_4 unSem.eq_5 DVal.okVal.eq_1 DVal.okVal.eq_2 DVal.handBack.eq_1 DVal.handBack.eq_2 DVal.handBack.eq_3 DVal.sealVal.eq_1 DVal.sealVal.eq_2 DVal.sealCell.eq_1 DVal.sealCell.eq_2 DVal.sealCell.eq_3 DVal.sealCell.eq_4 DVal.sealCell.eq_5 DVal.sealCell.eq_6 DVal.sealCell.eq_7 DVal.sealCell.eq_8 DVal.sealCell.eq_9 DVal.sealCell.eq_10 DVal.sealCell.eq_11 sealVals.eq_1 sealVals.eq_2 sealCells.eq_1 sealCells.eq_2 DVal.stale.eq_1 DVal.stale.eq_2 mxSem.eq_1 mnSem.eq_1 idxSSem.eq_1 idxSSem.eq_2 idxASem.eq_1 idxStrSem.eq_1 fldSem.eq_1 ldESem.eq_1 extSem.eq_1 fillCells.eq_1 fillCells.eq_2 sealElems.eq_1 sealElems.eq_2 slcSSem.eq_1 slcVSem.eq_1 slcVSem.eq_2 slcVSem.eq_3 lenStrSem.eq_1 lenSlSem.eq_1 lenSlSem.eq_2 lenSlSem.eq_3 lenSlSem.eq_4 nilchkSem.eq_1 nilchkSem.eq_2 nilchkSem.eq_3 nilchkSem.eq_4 nilchkSem.eq_5 importVal.eq_1 importVal.eq_2 ldOSem.eq_2 callVSem.eq_1 bounds.eq_1 bounds.eq_2 bounds.eq_3 bounds.eq_4 bounds.eq_5 bounds.eq_6 goI.eq_1 callPS.eq_1 callFS.eq_1 callIS.eq_1 upd_apply' mkISem.eq_1 tyASem.eq_1 tyASem.eq_2 callMSem.eq_1 DVal.plain.eq_1 DVal.plain.eq_2 DVal.plainCell.eq_1 DVal.plainCell.eq_2 DVal.plainCell.eq_3
end Go.Proofs.Ytdibpeknpmhknaa
namespace Go.Proofs.Ytdibpeknpmhknaa
set_option linter.unusedVariables false
set_option maxRecDepth 100000
open Go
def B3_0 (C : CallP) (I : CallI) (n : Nat) (x0 x6 : DVal) (x10 x11 x12 : DVal) (σ : Sto) : Option Out :=
  @bnd (bin2Sem .lss [x10, (.int .i64 1024)]) ⟨fun x13 =>
  @itK x13 ⟨@bnd (convSem .u64 [x10]) ⟨fun x14 =>
  @bnd (POp.sem C [x14] (.build [(.int .i64 0), (.int .u64 0)] [(1, 1)])) ⟨fun x15 =>
  @bnd (jwrSem 0 2 [(.agg [(.int .i64 0), (.int .u64 0)]), x15]) ⟨fun x16 =>
  @bnd (fldSem 0 (some 2) [x16]) ⟨fun x17 =>
  @bnd (fldSem 0 (some 2) [x16]) ⟨fun x18 =>
  @bnd (POp.sem C [x17, x18] (.build [(.int .i64 0), (.int .u64 0), (.int .i64 0), (.int .u64 0)] [(0, 2), (2, 2)])) ⟨fun x19 =>
  @bnd (jwrSem 3 4 [x12, x19]) ⟨fun x20 =>
  @bnd (fldSem 0 (some 7) [x20]) ⟨fun x21 =>
  @bns (callIS I 7 σ [x6, x21]) ⟨fun x22 σ =>
  @bnd (extSem 0 [x22]) ⟨fun x23 =>
  @bnd (extSem 1 [x22]) ⟨fun x24 =>
  @bnd (bin2Sem .add [x10, (.int .i64 3)]) ⟨fun x25 =>
  @bnd (bin2Sem .leq [x25, (.int .i64 1024)]) ⟨fun x26 =>
  @bnd (@wnP x26 true ⟨mvSem [x23]⟩) ⟨fun x27 =>
  @bnd (@wnP x26 true ⟨mvSem [x10]⟩) ⟨fun x28 =>
  @bnd (@wnP x26 true ⟨bin2Sem .add [x28, (.int .i64 3)]⟩) ⟨fun x29 =>
  @bnd (@wnP x26 true ⟨bin2Sem .neq [x27, x29]⟩) ⟨fun x30 =>
  @bnd (@wnP x26 true ⟨mvSem [x30]⟩) ⟨fun x31 =>
  @bnd (@wnP x31 false ⟨mvSem [x24]⟩) ⟨fun x32 =>
  @bnd (@wnP x31 false ⟨bin2Sem .neq [x32, (.int .i64 0)]⟩) ⟨fun x33 =>
  @bnd (@wnP x26 true ⟨pickSem [x31, (.bool true), x33]⟩) ⟨fun x34 =>
  @bnd (pickSem [x26, x34, (.bool false)]) ⟨fun x35 =>
  @bnd (@wnP x35 false ⟨mvSem [x10]⟩) ⟨fun x36 =>
  @bnd (@wnP x35 false ⟨bin2Sem .add [x36, (.int .i64 3)]⟩) ⟨fun x37 =>
  @bnd (@wnP x35 false ⟨bin2Sem .gtr [x37, (.int .i64 1024)]⟩) ⟨fun x38 =>
  @bnd (@wnP x35 false ⟨mvSem [x38]⟩) ⟨fun x39 =>
  @bnd (@wnP x39 true ⟨mvSem [x23]⟩) ⟨fun x40 =>
  @bnd (@wnP x39 true ⟨bin2Sem .neq [x40, (.int .i64 0)]⟩) ⟨fun x41 =>
  @bnd (@wnP x39 true ⟨mvSem [x41]⟩) ⟨fun x42 =>
  @bnd (@wnP x42 false ⟨mvSem [x24]⟩) ⟨fun x43 =>
  @bnd (@wnP x42 false ⟨bin2Sem .neq [x43, (.int .i64 25)]⟩) ⟨fun x44 =>
  @bnd (@wnP x39 true ⟨pickSem [x42, (.bool true), x44]⟩) ⟨fun x45 =>
  @bnd (@wnP x35 false ⟨pickSem [x39, x45, (.bool false)]⟩) ⟨fun x46 =>
  @bnd (pickSem [x35, (.bool true), x46]) ⟨fun x47 =>
  @itK x47 ⟨retJ (resEx [(.bool false)]) σ⟩ ⟨@bnd (bin2Sem .add [x10, (.int .i64 1)]) ⟨fun x48 =>
  some (.next 0 [x48, x11, x20] σ)⟩⟩⟩⟩⟩⟩⟩⟩⟩⟩⟩⟩⟩⟩⟩⟩⟩⟩⟩⟩⟩⟩⟩⟩⟩⟩⟩⟩⟩⟩⟩⟩⟩⟩⟩⟩⟩ ⟨@bnd (convSem .u64 [x0]) ⟨fun x14 =>
  @bnd (bin2Sem .rem [x14, (.int .u64 1000)]) ⟨fun x15 =>
  @bnd (bin2Sem .add [(.int .u64 1), x15]) ⟨fun x16 =>
  @bnd (POp.sem C [x16] (.build [(.int .i64 0), (.int .u64 0)] [(1, 1)])) ⟨fun x17 =>
  @bnd (jwrSem 0 2 [(.agg [(.int .i64 0), (.int .u64 0)]), x17]) ⟨fun x18 =>
  @bnd (fldSem 0 (some 2) [x18]) ⟨fun x19 =>
  @bnd (fldSem 0 (some 2) [x18]) ⟨fun x20 =>
  @bnd (POp.sem C [x19, x20] (.build [(.int .i64 0), (.int .u64 0), (.int .i64 0), (.int .u64 0)] [(0, 2), (2, 2)])) ⟨fun x21 =>
  @bnd (jwrSem 3 4 [x12, x21]) ⟨fun x22 =>
  @bnd (fldSem 0 (some 7) [x22]) ⟨fun x23 =>
  @bns (callIS I 7 σ [x6, x23]) ⟨fun x24 σ =>
  @bnd (extSem 0 [x24]) ⟨fun x25 =>
  @bnd (extSem 1 [x24]) ⟨fun x26 =>
  @bnd (convSem .i64 [x0]) ⟨fun x27 =>
  @bnd (bin2Sem .rem [x27, (.int .i64 1000)]) ⟨fun x28 =>
  @bnd (bin2Sem .add [(.int .i64 4), x28]) ⟨fun x29 =>
  @bnd (bin2Sem .eql [x25, x29]) ⟨fun x30 =>
  @bnd (@wnP x30 true ⟨mvSem [x26]⟩) ⟨fun x31 =>
  @bnd (@wnP x30 true ⟨bin2Sem .eql [x31, (.int .i64 0)]⟩) ⟨fun x32 =>
  @bnd (pickSem [x30, x32, (.bool false)]) ⟨fun x33 =>
  @bnd (@wnP x33 true ⟨mvSem [x6]⟩) ⟨fun x34 =>
  @bns (@wnS x33 true σ ⟨callIS I 8 σ [x34]⟩) ⟨fun x35 σ =>
  @bnd (@wnP x33 true ⟨bin2Sem .eql [x35, (.int .i64 1024)]⟩) ⟨fun x36 =>
  @bnd (pickSem [x33, x36, (.bool false)]) ⟨fun x37 =>
  @bnd (@wnP x37 true ⟨callPS C 9 []⟩) ⟨fun x38 =>
  @bnd (pickSem [x37, x38, (.bool false)]) ⟨fun x39 =>
  retJ (resEx [x39]) σ⟩⟩⟩⟩⟩⟩⟩⟩⟩⟩⟩⟩⟩⟩⟩⟩⟩⟩⟩⟩⟩⟩⟩⟩⟩⟩⟩⟩
def L3_0 (C : CallP) (I : CallI) (n : Nat) (x0 x6 : DVal) (vs : List DVal) (σ : Sto) : Option Out := B3_0 C I n x0 x6 (vs.getD 0 .undef) (vs.getD 1 .undef) (vs.getD 2 .undef) σ
def D3 (C : CallP) (I : CallI) (n : Nat) (x0 : DVal) (σ : Sto) : Option Out :=
  @bnd (callPS C 4 []) ⟨fun x1 =>
  @bnd (jwrSem 0 17 [(.agg [.nils, .nils, .nils, .nils, .nils, .nils, .nils, .nils, .nils, .nils, .nils, .nils, .nils, .nils, .nils, .nils, .nils]), x1]) ⟨fun x2 =>
  @bnd (POp.sem C [(.str [99, 48]), (.str [99, 49]), (.str [99, 50]), (.str [99, 51]), (.str [99, 52]), (.str [99, 53]), (.str [99, 54]), (.str [99, 55]), (.str [99, 56]), (.str [99, 57])] (.bslice false 1)) ⟨fun x3 =>
  @bnd (jwrSem 7 1 [x2, x3]) ⟨fun x4 =>
  @bnd (fldSem 0 (some 17) [x4]) ⟨fun x5 =>
  @bns (callIS I 5 σ [x5]) ⟨fun x6 σ =>
  @bnd (isnilSem 1 false [x6]) ⟨fun x7 =>
  @itK x7 ⟨retJ (resEx [(.bool false)]) σ⟩ ⟨@bnd (callPS C 6 []) ⟨fun x8 =>
  @bnd (jwrSem 0 7 [(.agg [(.int .i64 0), (.int .i64 0), (.int .i64 0), (.int .i64 0), (.int .u64 0), (.int .i64 0), (.int .u64 0)]), x8]) ⟨fun x9 =>
  iterJ 0 (L3_0 C I n x0 x6) n [(.int .i64 1), (.bool false), x9] σ⟩⟩⟩⟩⟩⟩⟩⟩⟩⟩
def D4 (C : CallP) (I : CallI) (n : Nat) (σ : Sto) : Option Out :=
  @bnd (POp.sem C [(.str [114, 101, 97, 100]), (.str [119, 114, 105, 116, 101]), (.str [99, 114, 101, 97, 116, 101]), (.str [117, 110, 108, 105, 110, 107]), (.str [101, 120, 101, 99, 117, 116, 101]), (.str [101, 110, 116, 114, 121, 112, 111, 105, 110, 116]), (.str [114, 101, 108, 97, 98, 101, 108, 102, 114, 111, 109]), (.str [114, 101, 108, 97, 98, 101, 108, 116, 111])] (.bslice false 1)) ⟨fun x0 =>
  @bnd (POp.sem C [(.str [114, 101, 97, 100]), (.str [119, 114, 105, 116, 101]), (.str [99, 114, 101, 97, 116, 101]), (.str [117, 110, 108, 105, 110, 107]), (.str [97, 100, 100]), (.str [114, 101, 109, 111, 118, 101]), (.str [114, 101, 108, 97, 98, 101, 108, 102, 114, 111, 109]), (.str [114, 101, 108, 97, 98, 101, 108, 116, 111])] (.bslice false 1)) ⟨fun x1 =>
  @bnd (POp.sem C [(.str [102, 111, 114, 107]), (.str [116, 114, 97, 110, 115, 105, 116, 105, 111, 110]), (.str [100, 121, 110, 116, 114, 97, 110, 115, 105, 116, 105, 111, 110]), (.str [115, 101, 110, 100])] (.bslice false 1)) ⟨fun x2 =>
  @bnd (POp.sem C [(.str [112, 114, 111, 99, 101, 115, 115]), x2] (.build [(.str []), .nils] [(0, 1), (1, 1)])) ⟨fun x3 =>
  @bnd (POp.sem C [(.str [102, 105, 108, 101]), x0] (.build [(.str []), .nils] [(0, 1), (1, 1)])) ⟨fun x4 =>
  @bnd (POp.sem C [(.str [100, 105, 114]), x1] (.build [(.str []), .nils] [(0, 1), (1, 1)])) ⟨fun x5 =>
  @bnd (POp.sem C [x3, x4, x5] (.bslice false 2)) ⟨fun x6 =>
  @bnd (POp.sem C [(.str [105, 110, 105, 116, 95, 116])] (.build [(.str []), .nils, (.bool false)] [(0, 1)])) ⟨fun x7 =>
  @bnd (POp.sem C [(.str [117, 115, 101, 114, 95, 116])] (.build [(.str []), .nils, (.bool false)] [(0, 1)])) ⟨fun x8 =>
  @bnd (POp.sem C [(.str [102, 105, 108, 101, 95, 116])] (.build [(.str []), .nils, (.bool false)] [(0, 1)])) ⟨fun x9 =>
  @bnd (POp.sem C [(.str [115, 104, 101, 108, 108, 95, 116])] (.build [(.str []), .nils, (.bool false)] [(0, 1)])) ⟨fun x10 =>
  @bnd (POp.sem C [x7, x8, x9, x10] (.bslice false 3)) ⟨fun x11 =>
  @bnd (POp.sem C [(.int .i64 0), (.int .i64 1)] (.bslice false 1)) ⟨fun x12 =>
  @bnd (callPS C 10 [x12]) ⟨fun x13 =>
  @bnd (POp.sem C [(.str [100, 111, 109, 97, 105, 110]), x13] (.build [(.str []), (.int .u64 0), (.int .u64 0), (.int .u64 0), (.int .u64 0)] [(0, 1), (1, 4)])) ⟨fun x14 =>
  @bnd (POp.sem C [x14] (.bslice false 5)) ⟨fun x15 =>
  @bnd (POp.sem C [(.str [111, 98, 106, 101, 99, 116, 95, 114])] (.build [(.str []), (.int .u64 0), (.int .u64 0), (.int .u64 0), (.int .u64 0), (.int .u64 0), (.int .u64 0), (.int .u64 0), (.int .u64 0)] [(0, 1)])) ⟨fun x16 =>
  @bnd (POp.sem C [(.int .i64 0), (.int .i64 1)] (.bslice false 1)) ⟨fun x17 =>
  @bnd (callPS C 10 [x17]) ⟨fun x18 =>
  @bnd (POp.sem C [(.str [115, 121, 115, 116, 101, 109]), x18] (.build [(.str []), (.int .u64 0), (.int .u64 0), (.int .u64 0), (.int .u64 0), (.int .u64 0), (.int .u64 0), (.int .u64 0), (.int .u64 0)] [(0, 1), (1, 4)])) ⟨fun x19 =>
  @bnd (POp.sem C [x16, x19] (.bslice false 9)) ⟨fun x20 =>
  @bnd (POp.sem C [(.int .i64 1)] (.bslice false 1)) ⟨fun x21 =>
  @bnd (callPS C 10 [x21]) ⟨fun x22 =>
  @bnd (POp.sem C [(.str [114, 111, 111, 116]), x22] (.build [(.str []), (.int .u64 0), (.int .u64 0), (.int .u64 0), (.int .u64 0), (.int .i64 0), (.int .u64 0), (.int .i64 0), (.int .u64 0), (.int .i64 0), (.int .u64 0)] [(0, 1), (1, 4)])) ⟨fun x23 =>
  @bnd (POp.sem C [x23] (.bslice false 11)) ⟨fun x24 =>
  @bnd (POp.sem C [(.str [115, 104, 97, 114, 101])] (.build [(.str []), (.bool false)] [(0, 1)])) ⟨fun x25 =>
  @bnd (POp.sem C [x25] (.bslice false 2)) ⟨fun x26 =>
  @bnd (POp.sem C [(.str [115, 48])] (.bslice false 1)) ⟨fun x27 =>
  @bnd (POp.sem C [(.int .i64 1)] (.build [(.int .i64 0), (.int .i64 0), (.int .i64 0), (.int .i64 0), .nils, (.int .u64 0), (.int .u64 0), (.int .u64 0), (.int .u64 0), .nils] [(0, 1)])) ⟨fun x28 =>
  @bnd (POp.sem C [x28] (.bslice false 10)) ⟨fun x29 =>
  @bnd (POp.sem C [(.int .i64 0), (.int .i64 1)] (.bslice false 1)) ⟨fun x30 =>
  @bnd (callPS C 10 [x30]) ⟨fun x31 =>
  @bnd (POp.sem C [(.int .i64 1), x31, (.bool true), (.int .i64 0), (.int .u32 9)] (.build [(.int .i64 0), (.int .u64 0), (.int .u64 0), (.int .u64 0), (.int .u64 0), (.int .u64 0), (.int .u64 0), (.int .u64 0), (.int .u64 0), (.bool false), (.int .i64 0), (.int .u32 0), (.int .i64 0)] [(0, 1), (1, 4), (9, 1), (10, 1), (11, 1)])) ⟨fun x32 =>
  @bnd (POp.sem C [(.int .i64 0)] (.bslice false 1)) ⟨fun x33 =>
  @bnd (callPS C 10 [x33]) ⟨fun x34 =>
  @bnd (POp.sem C [(.int .i64 2), (.int .i64 3)] (.bslice false 1)) ⟨fun x35 =>
  @bnd (callPS C 10 [x35]) ⟨fun x36 =>
  @bnd (POp.sem C [(.int .i64 1), x34, x36, (.int .i64 1), (.int .u32 17)] (.build [(.int .i64 0), (.int .u64 0), (.int .u64 0), (.int .u64 0), (.int .u64 0), (.int .u64 0), (.int .u64 0), (.int .u64 0), (.int .u64 0), (.bool false), (.int .i64 0), (.int .u32 0), (.int .i64 0)] [(0, 1), (1, 4), (5, 4), (10, 1), (11, 1)])) ⟨fun x37 =>
  @bnd (POp.sem C [(.int .i64 0)] (.bslice false 1)) ⟨fun x38 =>
  @bnd (callPS C 10 [x38]) ⟨fun x39 =>
  @bnd (POp.sem C [(.int .i64 1)] (.bslice false 1)) ⟨fun x40 =>
  @bnd (callPS C 10 [x40]) ⟨fun x41 =>
  @bnd (POp.sem C [(.int .i64 1), x39, x41, (.int .i64 0), (.int .u32 2)] (.build [(.int .i64 0), (.int .u64 0), (.int .u64 0), (.int .u64 0), (.int .u64 0), (.int .u64 0), (.int .u64 0), (.int .u64 0), (.int .u64 0), (.bool false), (.int .i64 0), (.int .u32 0), (.int .i64 0)] [(0, 1), (1, 4), (5, 4), (10, 1), (11, 1)])) ⟨fun x42 =>
  @bnd (POp.sem C [(.int .i64 1)] (.bslice false 1)) ⟨fun x43 =>
  @bnd (callPS C 10 [x43]) ⟨fun x44 =>
  @bnd (POp.sem C [(.int .i64 3)] (.bslice false 1)) ⟨fun x45 =>
  @bnd (callPS C 10 [x45]) ⟨fun x46 =>
  @bnd (POp.sem C [(.int .i64 1), x44, x46, (.int .i64 1), (.int .u32 32)] (.build [(.int .i64 0), (.int .u64 0), (.int .u64 0), (.int .u64 0), (.int .u64 0), (.int .u64 0), (.int .u64 0), (.int .u64 0), (.int .u64 0), (.bool false), (.int .i64 0), (.int .u32 0), (.int .i64 0)] [(0, 1), (1, 4), (5, 4), (10, 1), (11, 1)])) ⟨fun x47 =>
  @bnd (POp.sem C [(.int .i64 1)] (.bslice false 1)) ⟨fun x48 =>
  @bnd (callPS C 10 [x48]) ⟨fun x49 =>
  @bnd (POp.sem C [(.int .i64 2)] (.bslice false 1)) ⟨fun x50 =>
  @bnd (callPS C 10 [x50]) ⟨fun x51 =>
  @bnd (POp.sem C [(.int .i64 1), x49, x51, (.int .i64 1), (.int .u32 1), (.int .i64 1)] (.build [(.int .i64 0), (.int .u64 0), (.int .u64 0), (.int .u64 0), (.int .u64 0), (.int .u64 0), (.int .u64 0), (.int .u64 0), (.int .u64 0), (.bool false), (.int .i64 0), (.int .u32 0), (.int .i64 0)] [(0, 1), (1, 4), (5, 4), (10, 1), (11, 1), (12, 1)])) ⟨fun x52 =>
  @bnd (POp.sem C [x32, x37, x42, x47, x52] (.bslice false 13)) ⟨fun x53 =>
  @bnd (POp.sem C [(.int .i64 0)] (.bslice false 1)) ⟨fun x54 =>
  @bnd (callPS C 10 [x54]) ⟨fun x55 =>
  @bnd (POp.sem C [(.int .i64 3)] (.bslice false 1)) ⟨fun x56 =>
  @bnd (callPS C 10 [x56]) ⟨fun x57 =>
  @bnd (POp.sem C [(.int .i64 1), x55, x57, (.int .i64 0), (.int .i64 1)] (.build [(.int .i64 0), (.int .u64 0), (.int .u64 0), (.int .u64 0), (.int .u64 0), (.int .u64 0), (.int .u64 0), (.int .u64 0), (.int .u64 0), (.int .i64 0), (.str []), (.int .i64 0), (.int .i64 0)] [(0, 1), (1, 4), (5, 4), (9, 1), (11, 1)])) ⟨fun x58 =>
  @bnd (POp.sem C [x58] (.bslice false 13)) ⟨fun x59 =>
  @bnd (callPS C 11 []) ⟨fun x60 =>
  @bnd (POp.sem C [(.str [107, 101, 114, 110, 101, 108]), x60] (.build [(.str []), (.int .i64 0), (.int .i64 0), (.int .i64 0), (.int .i64 0), (.int .u64 0), (.int .i64 0), (.int .u64 0)] [(0, 1), (1, 7)])) ⟨fun x61 =>
  @bnd (callPS C 6 []) ⟨fun x62 =>
  @bnd (POp.sem C [(.str [114, 111, 111, 116]), x62] (.build [(.str []), (.int .i64 0), (.int .i64 0), (.int .i64 0), (.int .i64 0), (.int .u64 0), (.int .i64 0), (.int .u64 0)] [(0, 1), (1, 7)])) ⟨fun x63 =>
  @bnd (callPS C 6 []) ⟨fun x64 =>
  @bnd (POp.sem C [(.str [117, 110, 108, 97, 98, 101, 108, 101, 100]), x64] (.build [(.str []), (.int .i64 0), (.int .i64 0), (.int .i64 0), (.int .i64 0), (.int .u64 0), (.int .i64 0), (.int .u64 0)] [(0, 1), (1, 7)])) ⟨fun x65 =>
  @bnd (POp.sem C [x61, x63, x65] (.bslice false 8)) ⟨fun x66 =>
  @bnd (POp.sem C [x6, x11, x15, x20, x24, x26, x27, x29, x53, x59, x66] (.build [.nils, .nils, .nils, .nils, .nils, .nils, .nils, .nils, .nils, .nils, .nils, .nils, .nils, .nils, .nils, .nils, .nils] [(0, 1), (1, 1), (2, 1), (3, 1), (4, 1), (5, 1), (6, 1), (8, 1), (9, 1), (10, 1), (14, 1)])) ⟨fun x67 =>
  @bnd (jwrSem 0 17 [(.agg [.nils, .nils, .nils, .nils, .nils, .nils, .nils, .nils, .nils, .nils, .nils, .nils, .nils, .nils, .nils, .nils, .nils]), x67]) ⟨fun x68 =>
  @bnd (fldSem 0 (some 17) [x68]) ⟨fun x69 =>
  retJ (resEx [x69]) σ⟩⟩⟩⟩⟩⟩⟩⟩⟩⟩⟩⟩⟩⟩⟩⟩⟩⟩⟩⟩⟩⟩⟩⟩⟩⟩⟩⟩⟩⟩⟩⟩⟩⟩⟩⟩⟩⟩⟩⟩⟩⟩⟩⟩⟩⟩⟩⟩⟩⟩⟩⟩⟩⟩⟩⟩⟩⟩⟩⟩⟩⟩⟩⟩⟩⟩⟩⟩⟩⟩
def B5_0 (C : CallP) (I : CallI) (n : Nat) (x6 x7 x8 : DVal) (x9 : DVal) (σ : Sto) : Option Out :=
  @bnd (bin2Sem .lss [x9, x8]) ⟨fun x10 =>
  @itK x10 ⟨@bnd (idxSSem 8 [x7, x9]) ⟨fun x11 =>
  @bnd (ldESem (some 8) [x11]) ⟨fun x12 =>
  @bnd (jwrSem 0 8 [(.agg [(.str []), (.int .i64 0), (.int .i64 0), (.int .i64 0), (.int .i64 0), (.int .u64 0), (.int .i64 0), (.int .u64 0)]), x12]) ⟨fun x13 =>
  @bnd (fldSem 0 none [x13]) ⟨fun x14 =>
  @bnd (fldSem 1 (some 7) [x13]) ⟨fun x15 =>
  @bns (callIS I 14 σ [x6, x14, x15]) ⟨fun x16 σ =>
  @bnd (bin2Sem .add [x9, (.int .i64 1)]) ⟨fun x17 =>
  some (.next 0 [x17] σ)⟩⟩⟩⟩⟩⟩⟩⟩ ⟨retJ (resEx [x6]) σ⟩⟩
def L5_0 (C : CallP) (I : CallI) (n : Nat) (x6 x7 x8 : DVal) (vs : List DVal) (σ : Sto) : Option Out := B5_0 C I n x6 x7 x8 (vs.getD 0 .undef) σ
def D5 (C : CallP) (I : CallI) (n : Nat) (x0 : DVal) (σ : Sto) : Option Out :=
  @bnd (jboxSem [x0]) ⟨fun x1 =>
  @bnd (fldSem 0 (some 17) [x1]) ⟨fun x2 =>
  @bnd (callPS C 12 [x2]) ⟨fun x3 =>
  @bnd (unSem .not [x3]) ⟨fun x4 =>
  @itK x4 ⟨retJ (resEx [.nilp]) σ⟩ ⟨@bnd (fldSem 0 (some 17) [x1]) ⟨fun x5 =>
  @bns (callIS I 13 σ [x5]) ⟨fun x6 σ =>
  @bnd (fldSem 14 none [x1]) ⟨fun x7 =>
  @bnd (lenSlSem [x7]) ⟨fun x8 =>
  iterJ 0 (L5_0 C I n x6 x7 x8) n [(.int .i64 0)] σ⟩⟩⟩⟩⟩⟩⟩⟩⟩
def D6 (C : CallP) (I : CallI) (n : Nat) (σ : Sto) : Option Out :=
  @bnd (POp.sem C [(.int .i64 2)] (.build [(.int .i64 0), (.int .i64 0), (.int .i64 0), (.int .i64 0), (.int .u64 0), (.int .i64 0), (.int .u64 0)] [(2, 1)])) ⟨fun x0 =>
  @bnd (jwrSem 0 7 [(.agg [(.int .i64 0), (.int .i64 0), (.int .i64 0), (.int .i64 0), (.int .u64 0), (.int .i64 0), (.int .u64 0)]), x0]) ⟨fun x1 =>
  @bnd (fldSem 0 (some 7) [x1]) ⟨fun x2 =>
  retJ (resEx [x2]) σ⟩⟩⟩
def D7 (C : CallP) (I : CallI) (n : Nat) (x0 x1 : DVal) (σ : Sto) : Option Out :=
  @bnd (jboxSem [x1]) ⟨fun x2 =>
  @bns (callIS I 15 σ [x0]) ⟨fun x3 σ =>
  @bnd (unSem .not [x3]) ⟨fun x4 =>
  @itK x4 ⟨retJ (resEx [(.int .i64 0), (.int .i64 1)]) σ⟩ ⟨@bnd (nilchkSem [x0]) ⟨fun x5 =>
  @bnd (offSem 0 [x5]) ⟨fun x6 =>
  @bns (ldOSem σ none [x6]) ⟨fun x7 σ =>
  @bnd (nilchkSem [x7]) ⟨fun x8 =>
  @bns (ldOSem σ (some 17) [x8]) ⟨fun x9 σ =>
  @bnd (fldSem 0 (some 7) [x2]) ⟨fun x10 =>
  @bnd (callPS C 16 [x9, x10]) ⟨fun x11 =>
  @bnd (bin2Sem .neq [x11, (.int .i64 0)]) ⟨fun x12 =>
  @itK x12 ⟨retJ (resEx [(.int .i64 0), x11]) σ⟩ ⟨@bnd (nilchkSem [x0]) ⟨fun x13 =>
  @bnd (offSem 2 [x13]) ⟨fun x14 =>
  @bns (ldOSem σ none [x14]) ⟨fun x15 σ =>
  @bnd (fldSem 0 (some 7) [x2]) ⟨fun x16 =>
  @bns (lookSem true [.i .i64, .i .i64, .i .i64, .i .i64, .i .u64, .i .i64, .i .u64] (.int .i64 0) true σ [x15, x16]) ⟨fun x17 σ =>
  @bnd (extSem 0 [x17]) ⟨fun x18 =>
  @bnd (extSem 1 [x17]) ⟨fun x19 =>
  @itK x19 ⟨retJ (resEx [x18, (.int .i64 0)]) σ⟩ ⟨@bnd (nilchkSem [x0]) ⟨fun x20 =>
  @bnd (offSem 1 [x20]) ⟨fun x21 =>
  @bns (ldOSem σ none [x21]) ⟨fun x22 σ =>
  @bnd (lenSlSem [x22]) ⟨fun x23 =>
  @bnd (bin2Sem .geq [x23, (.int .i64 1024)]) ⟨fun x24 =>
  @itK x24 ⟨retJ (resEx [(.int .i64 0), (.int .i64 25)]) σ⟩ ⟨@bnd (fldSem 0 (some 7) [x2]) ⟨fun x25 =>
  @bns (callIS I 14 σ [x0, (.str []), x25]) ⟨fun x26 σ =>
  @bnd (nilchkSem [x0]) ⟨fun x27 =>
  @bnd (offSem 1 [x27]) ⟨fun x28 =>
  @bns (ldOSem σ none [x28]) ⟨fun x29 σ =>
  @bnd (lenSlSem [x29]) ⟨fun x30 =>
  retJ (resEx [x30, (.int .i64 0)]) σ⟩⟩⟩⟩⟩⟩⟩⟩⟩⟩⟩⟩⟩⟩⟩⟩⟩⟩⟩⟩⟩⟩⟩⟩⟩⟩⟩⟩⟩⟩⟩⟩⟩
def D8 (C : CallP) (I : CallI) (n : Nat) (x0 : DVal) (σ : Sto) : Option Out :=
  @bns (callIS I 15 σ [x0]) ⟨fun x1 σ =>
  @bnd (unSem .not [x1]) ⟨fun x2 =>
  @itK x2 ⟨retJ (resEx [(.int .i64 0)]) σ⟩ ⟨@bnd (nilchkSem [x0]) ⟨fun x3 =>
  @bnd (offSem 1 [x3]) ⟨fun x4 =>
  @bns (ldOSem σ none [x4]) ⟨fun x5 σ =>
  @bnd (lenSlSem [x5]) ⟨fun x6 =>
  retJ (resEx [x6]) σ⟩⟩⟩⟩⟩⟩⟩
def D9 (C : CallP) (I : CallI) (n : Nat) (σ : Sto) : Option Out :=
  @bnd (callPS C 4 []) ⟨fun x0 =>
  @bnd (jwrSem 0 17 [(.agg [.nils, .nils, .nils, .nils, .nils, .nils, .nils, .nils, .nils, .nils, .nils, .nils, .nils, .nils, .nils, .nils, .nils]), x0]) ⟨fun x1 =>
  @bnd (fldSem 0 (some 17) [x1]) ⟨fun x2 =>
  @bns (callIS I 5 σ [x2]) ⟨fun x3 σ =>
  @bnd (isnilSem 1 false [x3]) ⟨fun x4 =>
  @itK x4 ⟨retJ (resEx [(.bool false)]) σ⟩ ⟨@bnd (callPS C 17 []) ⟨fun x5 =>
  @bns (callIS I 7 σ [x3, x5]) ⟨fun x6 σ =>
  @bnd (extSem 0 [x6]) ⟨fun x7 =>
  @bnd (extSem 1 [x6]) ⟨fun x8 =>
  @bnd (callPS C 6 []) ⟨fun x9 =>
  @bns (callIS I 7 σ [x3, x9]) ⟨fun x10 σ =>
  @bnd (extSem 0 [x10]) ⟨fun x11 =>
  @bnd (extSem 1 [x10]) ⟨fun x12 =>
  @bnd (fldSem 0 (some 17) [x1]) ⟨fun x13 =>
  @bnd (jwrSem 0 17 [(.agg [.nils, .nils, .nils, .nils, .nils, .nils, .nils, .nils, .nils, .nils, .nils, .nils, .nils, .nils, .nils, .nils, .nils]), x13]) ⟨fun x14 =>
  @bnd (POp.sem C [] (.bslice false 9)) ⟨fun x15 =>
  @bnd (fldSem 3 none [x1]) ⟨fun x16 =>
  @bns (appMSem 9 σ [x15, x16]) ⟨fun x17 σ =>
  @bnd (jwrSem 3 1 [x14, x17]) ⟨fun x18 =>
  @bnd (fldSem 3 none [x18]) ⟨fun x19 =>
  @bnd (POp.sem C [(.int .u64 1)] (.build [(.int .u64 0), (.int .u64 0), (.int .u64 0), (.int .u64 0)] [(0, 1)])) ⟨fun x20 =>
  @bnd (idxSSem 9 [x19, (.int .i64 1)]) ⟨fun x21 =>
  @bnd (offSem 1 [x21]) ⟨fun x22 =>
  @bns (stOSem σ 4 [x22, x20]) ⟨fun x23 σ =>
  @bnd (fldSem 0 (some 17) [x1]) ⟨fun x24 =>
  @bnd (fldSem 0 (some 17) [x18]) ⟨fun x25 =>
  @bns (callIS I 18 σ [x3, x24, x25]) ⟨fun x26 σ =>
  @bnd (extSem 0 [x26]) ⟨fun x27 =>
  @bnd (extSem 1 [x26]) ⟨fun x28 =>
  @bnd (extSem 2 [x26]) ⟨fun x29 =>
  @bnd (bin2Sem .neq [x29, (.int .i64 0)]) ⟨fun x30 =>
  @bnd (@wnP x30 false ⟨mvSem [x27]⟩) ⟨fun x31 =>
  @bnd (@wnP x30 false ⟨isnilSem 1 false [x31]⟩) ⟨fun x32 =>
  @bnd (pickSem [x30, (.bool true), x32]) ⟨fun x33 =>
  @itK x33 ⟨retJ (resEx [(.bool false)]) σ⟩ ⟨@bns (callIS I 19 σ [x27, (.int .i64 4)]) ⟨fun x34 σ =>
  @bnd (extSem 0 [x34]) ⟨fun x35 =>
  @bnd (extSem 1 [x34]) ⟨fun x36 =>
  @bns (callIS I 20 σ [x27, (.int .i64 2)]) ⟨fun x37 σ =>
  @bnd (extSem 0 [x37]) ⟨fun x38 =>
  @bnd (extSem 1 [x37]) ⟨fun x39 =>
  @bnd (fldSem 0 (some 17) [x18]) ⟨fun x40 =>
  @bnd (fldSem 0 (some 17) [x1]) ⟨fun x41 =>
  @bns (callIS I 18 σ [x27, x40, x41]) ⟨fun x42 σ =>
  @bnd (extSem 0 [x42]) ⟨fun x43 =>
  @bnd (extSem 1 [x42]) ⟨fun x44 =>
  @bnd (extSem 2 [x42]) ⟨fun x45 =>
  @bnd (bin2Sem .eql [x7, (.int .i64 4)]) ⟨fun x46 =>
  @bnd (@wnP x46 true ⟨mvSem [x8]⟩) ⟨fun x47 =>
  @bnd (@wnP x46 true ⟨bin2Sem .eql [x47, (.int .i64 0)]⟩) ⟨fun x48 =>
  @bnd (pickSem [x46, x48, (.bool false)]) ⟨fun x49 =>
  @bnd (@wnP x49 true ⟨mvSem [x11]⟩) ⟨fun x50 =>
  @bnd (@wnP x49 true ⟨bin2Sem .eql [x50, (.int .i64 2)]⟩) ⟨fun x51 =>
  @bnd (pickSem [x49, x51, (.bool false)]) ⟨fun x52 =>
  @bnd (@wnP x52 true ⟨mvSem [x12]⟩) ⟨fun x53 =>
  @bnd (@wnP x52 true ⟨bin2Sem .eql [x53, (.int .i64 0)]⟩) ⟨fun x54 =>
  @bnd (pickSem [x52, x54, (.bool false)]) ⟨fun x55 =>
  @bnd (@wnP x55 true ⟨mvSem [x28]⟩) ⟨fun x56 =>
  @bnd (@wnP x55 true ⟨bin2Sem .eql [x56, (.int .i64 1)]⟩) ⟨fun x57 =>
  @bnd (pickSem [x55, x57, (.bool false)]) ⟨fun x58 =>
  @bnd (@wnP x58 true ⟨mvSem [x27]⟩) ⟨fun x59 =>
  @bns (@wnS x58 true σ ⟨callIS I 21 σ [x59, (.int .i64 4)]⟩) ⟨fun x60 σ =>
  @bnd (@wnP x58 true ⟨unSem .not [x60]⟩) ⟨fun x61 =>
  @bnd (pickSem [x58, x61, (.bool false)]) ⟨fun x62 =>
  @bnd (@wnP x62 true ⟨mvSem [x35]⟩) ⟨fun x63 =>
  @bnd (@wnP x62 true ⟨bin2Sem .eql [x63, (.str [114, 111, 111, 116, 58, 115, 121, 115, 116, 101, 109, 58, 117, 115, 101, 114, 95, 116, 58, 115, 48])]⟩) ⟨fun x64 =>
  @bnd (pickSem [x62, x64, (.bool false)]) ⟨fun x65 =>
  @bnd (@wnP x65 true ⟨mvSem [x36]⟩) ⟨fun x66 =>
  @bnd (pickSem [x65, x66, (.bool false)]) ⟨fun x67 =>
  @bnd (@wnP x67 true ⟨mvSem [x38]⟩) ⟨fun x68 =>
  @bnd (@wnP x67 true ⟨bin2Sem .eql [x68, (.str [114, 111, 111, 116])]⟩) ⟨fun x69 =>
  @bnd (pickSem [x67, x69, (.bool false)]) ⟨fun x70 =>
  @bnd (@wnP x70 true ⟨mvSem [x39]⟩) ⟨fun x71 =>
  @bnd (pickSem [x70, x71, (.bool false)]) ⟨fun x72 =>
  @bnd (@wnP x72 true ⟨mvSem [x45]⟩) ⟨fun x73 =>
  @bnd (@wnP x72 true ⟨bin2Sem .eql [x73, (.int .i64 0)]⟩) ⟨fun x74 =>
  @bnd (pickSem [x72, x74, (.bool false)]) ⟨fun x75 =>
  @bnd (@wnP x75 true ⟨mvSem [x44]⟩) ⟨fun x76 =>
  @bnd (@wnP x75 true ⟨bin2Sem .eql [x76, (.int .i64 0)]⟩) ⟨fun x77 =>
  @bnd (pickSem [x75, x77, (.bool false)]) ⟨fun x78 =>
  @bnd (@wnP x78 true ⟨mvSem [x43]⟩) ⟨fun x79 =>
  @bnd (@wnP x78 true ⟨isnilSem 1 true [x79]⟩) ⟨fun x80 =>
  @bnd (pickSem [x78, x80, (.bool false)]) ⟨fun x81 =>
  @bnd (@wnP x81 true ⟨mvSem [x43]⟩) ⟨fun x82 =>
  @bns (@wnS x81 true σ ⟨callIS I 21 σ [x82, (.int .i64 4)]⟩) ⟨fun x83 σ =>
  @bnd (pickSem [x81, x83, (.bool false)]) ⟨fun x84 =>
  retJ (resEx [x84]) σ⟩⟩⟩⟩⟩⟩⟩⟩⟩⟩⟩⟩⟩⟩⟩⟩⟩⟩⟩⟩⟩⟩⟩⟩⟩⟩⟩⟩⟩⟩⟩⟩⟩⟩⟩⟩⟩⟩⟩⟩⟩⟩⟩⟩⟩⟩⟩⟩⟩⟩⟩⟩⟩⟩⟩⟩⟩⟩⟩⟩⟩⟩⟩⟩⟩⟩⟩⟩⟩⟩⟩⟩⟩⟩⟩⟩⟩⟩⟩⟩⟩⟩⟩⟩⟩⟩⟩
def B10_0 (C : CallP) (I : CallI) (n : Nat) (x0 x1 : DVal) (x2 : DVal) (σ : Sto) : Option Out :=
  @bnd (lenSlSem [x0]) ⟨fun x3 =>
  @bnd (bin2Sem .lss [x2, x3]) ⟨fun x4 =>
  @itK x4 ⟨@bnd (idxSSem 1 [x0, x2]) ⟨fun x5 =>
  @bnd (ldESem none [x5]) ⟨fun x6 =>
  @bnd (bin2Sem .quo [x6, (.int .i64 64)]) ⟨fun x7 =>
  @bnd (idxSSem 1 [x0, x2]) ⟨fun x8 =>
  @bnd (ldESem none [x8]) ⟨fun x9 =>
  @bnd (bin2Sem .quo [x9, (.int .i64 64)]) ⟨fun x10 =>
  @bnd (idxASem 4 1 [x1, x10]) ⟨fun x11 =>
  @bns (ldOSem σ none [x11]) ⟨fun x12 σ =>
  @bnd (idxSSem 1 [x0, x2]) ⟨fun x13 =>
  @bnd (ldESem none [x13]) ⟨fun x14 =>
  @bnd (bin2Sem .rem [x14, (.int .i64 64)]) ⟨fun x15 =>
  @bnd (bin2Sem .shl [(.int .u64 1), x15]) ⟨fun x16 =>
  @bnd (bin2Sem .or [x12, x16]) ⟨fun x17 =>
  @bnd (idxASem 4 1 [x1, x7]) ⟨fun x18 =>
  @bns (stOSem σ 1 [x18, x17]) ⟨fun x19 σ =>
  @bnd (bin2Sem .add [x2, (.int .i64 1)]) ⟨fun x20 =>
  some (.next 0 [x20] σ)⟩⟩⟩⟩⟩⟩⟩⟩⟩⟩⟩⟩⟩⟩⟩⟩⟩ ⟨@bns (ldOSem σ (some 4) [x1]) ⟨fun x5 σ =>
  @bnd (jwrSem 0 4 [(.agg [(.int .u64 0), (.int .u64 0), (.int .u64 0), (.int .u64 0)]), x5]) ⟨fun x6 =>
  @bnd (fldSem 0 (some 4) [x6]) ⟨fun x7 =>
  retJ (resEx [x7]) σ⟩⟩⟩⟩⟩⟩
def L10_0 (C : CallP) (I : CallI) (n : Nat) (x0 x1 : DVal) (vs : List DVal) (σ : Sto) : Option Out := B10_0 C I n x0 x1 (vs.getD 0 .undef) σ
def D10 (C : CallP) (I : CallI) (n : Nat) (x0 : DVal) (σ : Sto) : Option Out :=
  @bns (allocOSem σ [(.int .u64 0), (.int .u64 0), (.int .u64 0), (.int .u64 0)] []) ⟨fun x1 σ =>
  iterJ 0 (L10_0 C I n x0 x1) n [(.int .i64 0)] σ⟩
def D11 (C : CallP) (I : CallI) (n : Nat) (σ : Sto) : Option Out :=
  @bnd (POp.sem C [(.int .i64 1), (.int .i64 0)] (.build [(.int .i64 0), (.int .i64 0), (.int .i64 0), (.int .i64 0), (.int .u64 0), (.int .i64 0), (.int .u64 0)] [(1, 1), (2, 1)])) ⟨fun x0 =>
  @bnd (jwrSem 0 7 [(.agg [(.int .i64 0), (.int .i64 0), (.int .i64 0), (.int .i64 0), (.int .u64 0), (.int .i64 0), (.int .u64 0)]), x0]) ⟨fun x1 =>
  @bnd (fldSem 0 (some 7) [x1]) ⟨fun x2 =>
  retJ (resEx [x2]) σ⟩⟩⟩
def D12 (C : CallP) (I : CallI) (n : Nat) (x0 : DVal) (σ : Sto) : Option Out :=
  @bns (boxOSem σ [x0]) ⟨fun x1 σ =>
  @bnd (offSem 14 [x1]) ⟨fun x2 =>
  @bns (ldOSem σ none [x2]) ⟨fun x3 σ =>
  @bnd (POp.sem C [x1] (.mkfunc 23)) ⟨fun x4 =>
  @bns (callIS I 22 σ [x3, x4]) ⟨fun x5 σ =>
  @bnd (unSem .not [x5]) ⟨fun x6 =>
  @bnd (@wnP x6 true ⟨offSem 14 [x1]⟩) ⟨fun x7 =>
  @bns (@wnS x6 true σ ⟨ldOSem σ none [x7]⟩) ⟨fun x8 σ =>
  @bnd (@wnP x6 true ⟨lenSlSem [x8]⟩) ⟨fun x9 =>
  @bnd (@wnP x6 true ⟨bin2Sem .leq [x9, (.int .i64 1024)]⟩) ⟨fun x10 =>
  @bnd (pickSem [x6, x10, (.bool false)]) ⟨fun x11 =>
  retJ (resEx [x11]) σ⟩⟩⟩⟩⟩⟩⟩⟩⟩⟩⟩
def D13 (C : CallP) (I : CallI) (n : Nat) (x0 : DVal) (σ : Sto) : Option Out :=
  @bnd (jboxSem [x0]) ⟨fun x1 =>
  @bnd (fldSem 0 (some 17) [x1]) ⟨fun x2 =>
  @bns (callIS I 24 σ [x2]) ⟨fun x3 σ =>
  @bns (mkmapSem σ []) ⟨fun x4 σ =>
  @bnd (POp.sem C [x3, x4] (.build [.nilp, .nils, .nilm] [(0, 1), (2, 1)])) ⟨fun x5 =>
  @bns (boxOSem σ [x5]) ⟨fun x6 σ =>
  retJ (resEx [x6]) σ⟩⟩⟩⟩⟩⟩
def D14 (C : CallP) (I : CallI) (n : Nat) (x0 x1 x2 : DVal) (σ : Sto) : Option Out :=
  @bnd (jboxSem [x2]) ⟨fun x3 =>
  @bnd (nilchkSem [x0]) ⟨fun x4 =>
  @bnd (offSem 0 [x4]) ⟨fun x5 =>
  @bns (ldOSem σ none [x5]) ⟨fun x6 σ =>
  @bnd (fldSem 0 (some 7) [x3]) ⟨fun x7 =>
  @bnd (POp.sem C [x1, x6, x7, (.bool true)] (.build [(.str []), .nilp, (.int .i64 0), (.int .i64 0), (.int .i64 0), (.int .i64 0), (.int .u64 0), (.int .i64 0), (.int .u64 0), (.bool false)] [(0, 1), (1, 1), (2, 7), (9, 1)])) ⟨fun x8 =>
  @bns (callIS I 25 σ [x0, x8]) ⟨fun x9 σ =>
  retJ (resEx []) σ⟩⟩⟩⟩⟩⟩⟩
def D15 (C : CallP) (I : CallI) (n : Nat) (x0 : DVal) (σ : Sto) : Option Out :=
  @bnd (isnilSem 1 true [x0]) ⟨fun x1 =>
  @bnd (@wnP x1 true ⟨mvSem [x0]⟩) ⟨fun x2 =>
  @bnd (@wnP x1 true ⟨nilchkSem [x2]⟩) ⟨fun x3 =>
  @bnd (@wnP x1 true ⟨offSem 0 [x3]⟩) ⟨fun x4 =>
  @bns (@wnS x1 true σ ⟨ldOSem σ none [x4]⟩) ⟨fun x5 σ =>
  @bnd (@wnP x1 true ⟨isnilSem 1 true [x5]⟩) ⟨fun x6 =>
  @bnd (pickSem [x1, x6, (.bool false)]) ⟨fun x7 =>
  retJ (resEx [x7]) σ⟩⟩⟩⟩⟩⟩⟩
def D16 (C : CallP) (I : CallI) (n : Nat) (x0 x1 : DVal) (σ : Sto) : Option Out :=
  @bnd (jboxSem [x0]) ⟨fun x2 =>
  @bnd (jboxSem [x1]) ⟨fun x3 =>
  @bnd (fldSem 0 none [x3]) ⟨fun x4 =>
  @bnd (fldSem 4 none [x2]) ⟨fun x5 =>
  @bnd (lenSlSem [x5]) ⟨fun x6 =>
  @bnd (callPS C 26 [x4, x6]) ⟨fun x7 =>
  @bnd (unSem .not [x7]) ⟨fun x8 =>
  @bnd (@wnP x8 false ⟨fldSem 1 none [x3]⟩) ⟨fun x9 =>
  @bnd (@wnP x8 false ⟨fldSem 3 none [x2]⟩) ⟨fun x10 =>
  @bnd (@wnP x8 false ⟨lenSlSem [x10]⟩) ⟨fun x11 =>
  @bnd (@wnP x8 false ⟨callPS C 26 [x9, x11]⟩) ⟨fun x12 =>
  @bnd (@wnP x8 false ⟨unSem .not [x12]⟩) ⟨fun x13 =>
  @bnd (pickSem [x8, (.bool true), x13]) ⟨fun x14 =>
  @bnd (@wnP x14 false ⟨fldSem 2 none [x3]⟩) ⟨fun x15 =>
  @bnd (@wnP x14 false ⟨fldSem 1 none [x2]⟩) ⟨fun x16 =>
  @bnd (@wnP x14 false ⟨lenSlSem [x16]⟩) ⟨fun x17 =>
  @bnd (@wnP x14 false ⟨callPS C 26 [x15, x17]⟩) ⟨fun x18 =>
  @bnd (@wnP x14 false ⟨unSem .not [x18]⟩) ⟨fun x19 =>
  @bnd (pickSem [x14, (.bool true), x19]) ⟨fun x20 =>
  @itK x20 ⟨retJ (resEx [(.int .i64 3)]) σ⟩ ⟨@bnd (fldSem 3 (some 4) [x3]) ⟨fun x21 =>
  @bnd (fldSem 6 none [x2]) ⟨fun x22 =>
  @bnd (lenSlSem [x22]) ⟨fun x23 =>
  @bnd (fldSem 7 none [x2]) ⟨fun x24 =>
  @bnd (lenSlSem [x24]) ⟨fun x25 =>
  @bnd (callPS C 27 [x21, x23, x25]) ⟨fun x26 =>
  @bnd (unSem .not [x26]) ⟨fun x27 =>
  @itK x27 ⟨retJ (resEx [(.int .i64 18)]) σ⟩ ⟨@bnd (fldSem 0 (some 7) [x3]) ⟨fun x28 =>
  @bnd (callPS C 28 [x28]) ⟨fun x29 =>
  @itK x29 ⟨retJ (resEx [(.int .i64 0)]) σ⟩ ⟨@bnd (fldSem 4 none [x2]) ⟨fun x30 =>
  @bnd (fldSem 0 none [x3]) ⟨fun x31 =>
  @bnd (idxSSem 11 [x30, x31]) ⟨fun x32 =>
  @bnd (ldESem (some 11) [x32]) ⟨fun x33 =>
  @bnd (jwrSem 0 11 [(.agg [(.str []), (.int .u64 0), (.int .u64 0), (.int .u64 0), (.int .u64 0), (.int .i64 0), (.int .u64 0), (.int .i64 0), (.int .u64 0), (.int .i64 0), (.int .u64 0)]), x33]) ⟨fun x34 =>
  @bnd (fldSem 1 (some 4) [x34]) ⟨fun x35 =>
  @bnd (fldSem 1 none [x3]) ⟨fun x36 =>
  @bnd (callPS C 29 [x35, x36]) ⟨fun x37 =>
  @bnd (unSem .not [x37]) ⟨fun x38 =>
  @bnd (@wnP x38 false ⟨fldSem 3 none [x2]⟩) ⟨fun x39 =>
  @bnd (@wnP x38 false ⟨fldSem 1 none [x3]⟩) ⟨fun x40 =>
  @bnd (@wnP x38 false ⟨idxSSem 9 [x39, x40]⟩) ⟨fun x41 =>
  @bnd (@wnP x38 false ⟨offSem 1 [x41]⟩) ⟨fun x42 =>
  @bnd (@wnP x38 false ⟨ldESem (some 4) [x42]⟩) ⟨fun x43 =>
  @bnd (@wnP x38 false ⟨fldSem 2 none [x3]⟩) ⟨fun x44 =>
  @bnd (@wnP x38 false ⟨callPS C 29 [x43, x44]⟩) ⟨fun x45 =>
  @bnd (@wnP x38 false ⟨unSem .not [x45]⟩) ⟨fun x46 =>
  @bnd (pickSem [x38, (.bool true), x46]) ⟨fun x47 =>
  @bnd (@wnP x47 false ⟨fldSem 7 (some 4) [x34]⟩) ⟨fun x48 =>
  @bnd (@wnP x47 false ⟨fldSem 3 (some 4) [x3]⟩) ⟨fun x49 =>
  @bnd (@wnP x47 false ⟨callPS C 30 [x48, x49]⟩) ⟨fun x50 =>
  @bnd (@wnP x47 false ⟨unSem .not [x50]⟩) ⟨fun x51 =>
  @bnd (pickSem [x47, (.bool true), x51]) ⟨fun x52 =>
  @itK x52 ⟨retJ (resEx [(.int .i64 19)]) σ⟩ ⟨retJ (resEx [(.int .i64 0)]) σ⟩⟩⟩⟩⟩⟩⟩⟩⟩⟩⟩⟩⟩⟩⟩⟩⟩⟩⟩⟩⟩⟩⟩⟩⟩⟩⟩⟩⟩⟩⟩⟩⟩⟩⟩⟩⟩⟩⟩⟩⟩⟩⟩⟩⟩⟩⟩⟩⟩⟩⟩⟩⟩⟩⟩
def D17 (C : CallP) (I : CallI) (n : Nat) (σ : Sto) : Option Out :=
  @bnd (POp.sem C [(.int .i64 1), (.int .i64 1)] (.build [(.int .i64 0), (.int .i64 0), (.int .i64 0), (.int .i64 0), (.int .u64 0), (.int .i64 0), (.int .u64 0)] [(1, 1), (2, 1)])) ⟨fun x0 =>
  @bnd (jwrSem 0 7 [(.agg [(.int .i64 0), (.int .i64 0), (.int .i64 0), (.int .i64 0), (.int .u64 0), (.int .i64 0), (.int .u64 0)]), x0]) ⟨fun x1 =>
  @bnd (fldSem 0 (some 7) [x1]) ⟨fun x2 =>
  retJ (resEx [x2]) σ⟩⟩⟩
def J18_0 (C : CallP) (I : CallI) (n : Nat) (x11 x17 x28 : DVal) (x31 : DVal) (σ : Sto) : Option Out :=
  @bnd (fldSem 0 (some 10) [x28]) ⟨fun x32 =>
  @bns (callIS I 25 σ [x11, x32]) ⟨fun x33 σ =>
  @bnd (bin2Sem .add [x17, (.int .i64 1)]) ⟨fun x34 =>
  some (.next 0 [x34, x31] σ)⟩⟩⟩
def L18_0 (C : CallP) (I : CallI) (n : Nat) (x11 x17 x28 : DVal) (vs : List DVal) (σ : Sto) : Option Out := J18_0 C I n x11 x17 x28 (vs.getD 0 .undef) σ
def B18_1 (C : CallP) (I : CallI) (n : Nat) (x11 x12 x18 x20 x21 : DVal) (x22 : DVal) (σ : Sto) : Option Out :=
  @bnd (bin2Sem .lss [x22, x21]) ⟨fun x23 =>
  @itK x23 ⟨@bnd (idxSSem 8 [x20, x22]) ⟨fun x24 =>
  @bnd (ldESem (some 8) [x24]) ⟨fun x25 =>
  @bnd (jwrSem 0 8 [(.agg [(.str []), (.int .i64 0), (.int .i64 0), (.int .i64 0), (.int .i64 0), (.int .u64 0), (.int .i64 0), (.int .u64 0)]), x25]) ⟨fun x26 =>
  @bnd (fldSem 0 none [x26]) ⟨fun x27 =>
  @bns (lookSem false [.s] (.bool false) false σ [x12, x27]) ⟨fun x28 σ =>
  @bnd (unSem .not [x28]) ⟨fun x29 =>
  @itK x29 ⟨@bnd (fldSem 0 none [x26]) ⟨fun x30 =>
  @bnd (fldSem 1 (some 7) [x26]) ⟨fun x31 =>
  @bns (callIS I 14 σ [x11, x30, x31]) ⟨fun x32 σ =>
  @bnd (bin2Sem .add [x22, (.int .i64 1)]) ⟨fun x33 =>
  some (.next 1 [x33] σ)⟩⟩⟩⟩⟩ ⟨@bnd (bin2Sem .add [x22, (.int .i64 1)]) ⟨fun x30 =>
  some (.next 1 [x30] σ)⟩⟩⟩⟩⟩⟩⟩⟩⟩ ⟨@bnd (nilchkSem [x11]) ⟨fun x24 =>
  @bnd (offSem 1 [x24]) ⟨fun x25 =>
  @bns (ldOSem σ none [x25]) ⟨fun x26 σ =>
  @bnd (lenSlSem [x26]) ⟨fun x27 =>
  @bnd (bin2Sem .gtr [x27, (.int .i64 1024)]) ⟨fun x28 =>
  @itK x28 ⟨retJ (resEx [.nilp, (.int .i64 0), (.int .i64 25)]) σ⟩ ⟨retJ (resEx [x11, x18, (.int .i64 0)]) σ⟩⟩⟩⟩⟩⟩⟩⟩
def L18_1 (C : CallP) (I : CallI) (n : Nat) (x11 x12 x18 x20 x21 : DVal) (vs : List DVal) (σ : Sto) : Option Out := B18_1 C I n x11 x12 x18 x20 x21 (vs.getD 0 .undef) σ
def B18_2 (C : CallP) (I : CallI) (n : Nat) (x4 x11 x12 x15 x16 : DVal) (x17 x18 : DVal) (σ : Sto) : Option Out :=
  @bnd (bin2Sem .lss [x17, x16]) ⟨fun x19 =>
  @itK x19 ⟨@bnd (idxSSem 10 [x15, x17]) ⟨fun x20 =>
  @bnd (ldESem (some 10) [x20]) ⟨fun x21 =>
  @bnd (jwrSem 0 10 [(.agg [(.str []), .nilp, (.int .i64 0), (.int .i64 0), (.int .i64 0), (.int .i64 0), (.int .u64 0), (.int .i64 0), (.int .u64 0), (.bool false)]), x21]) ⟨fun x22 =>
  @bnd (fldSem 0 none [x22]) ⟨fun x23 =>
  @bns (mupdSem false [.s] σ [x12, x23, (.bool true)]) ⟨fun x24 σ =>
  @bnd (fldSem 0 (some 10) [x22]) ⟨fun x25 =>
  @bnd (fldSem 0 (some 17) [x4]) ⟨fun x26 =>
  @bns (callIS I 31 σ [x25, x26, x11]) ⟨fun x27 σ =>
  @bnd (jwrSem 0 10 [(.agg [(.str []), .nilp, (.int .i64 0), (.int .i64 0), (.int .i64 0), (.int .i64 0), (.int .u64 0), (.int .i64 0), (.int .u64 0), (.bool false)]), x27]) ⟨fun x28 =>
  @bnd (fldSem 9 none [x28]) ⟨fun x29 =>
  @bnd (unSem .not [x29]) ⟨fun x30 =>
  joinJ 1 (L18_0 C I n x11 x17 x28) (@itK x30 ⟨@bnd (bin2Sem .add [x18, (.int .i64 1)]) ⟨fun x31 =>
  some (.next 1 [x31] σ)⟩⟩ ⟨some (.next 1 [x18] σ)⟩)⟩⟩⟩⟩⟩⟩⟩⟩⟩⟩⟩⟩ ⟨@bnd (fldSem 14 none [x4]) ⟨fun x20 =>
  @bnd (lenSlSem [x20]) ⟨fun x21 =>
  iterJ 1 (L18_1 C I n x11 x12 x18 x20 x21) n [(.int .i64 0)] σ⟩⟩⟩⟩
def L18_2 (C : CallP) (I : CallI) (n : Nat) (x4 x11 x12 x15 x16 : DVal) (vs : List DVal) (σ : Sto) : Option Out := B18_2 C I n x4 x11 x12 x15 x16 (vs.getD 0 .undef) (vs.getD 1 .undef) σ
def D18 (C : CallP) (I : CallI) (n : Nat) (x0 x1 x2 : DVal) (σ : Sto) : Option Out :=
  @bnd (jboxSem [x1]) ⟨fun x3 =>
  @bnd (jboxSem [x2]) ⟨fun x4 =>
  @bns (callIS I 15 σ [x0]) ⟨fun x5 σ =>
  @bnd (unSem .not [x5]) ⟨fun x6 =>
  @itK x6 ⟨retJ (resEx [.nilp, (.int .i64 0), (.int .i64 1)]) σ⟩ ⟨@bnd (fldSem 0 (some 17) [x4]) ⟨fun x7 =>
  @bns (callSSem C 12 σ [x7]) ⟨fun x8 σ =>
  @bnd (unSem .not [x8]) ⟨fun x9 =>
  @itK x9 ⟨retJ (resEx [.nilp, (.int .i64 0), (.int .i64 19)]) σ⟩ ⟨@bnd (fldSem 0 (some 17) [x4]) ⟨fun x10 =>
  @bns (callIS I 13 σ [x10]) ⟨fun x11 σ =>
  @bns (mkmapSem σ []) ⟨fun x12 σ =>
  @bnd (nilchkSem [x0]) ⟨fun x13 =>
  @bnd (offSem 1 [x13]) ⟨fun x14 =>
  @bns (ldOSem σ none [x14]) ⟨fun x15 σ =>
  @bnd (lenSlSem [x15]) ⟨fun x16 =>
  iterJ 0 (L18_2 C I n x4 x11 x12 x15 x16) n [(.int .i64 0), (.int .i64 0)] σ⟩⟩⟩⟩⟩⟩⟩⟩⟩⟩⟩⟩⟩⟩⟩⟩
def D19 (C : CallP) (I : CallI) (n : Nat) (x0 x1 : DVal) (σ : Sto) : Option Out :=
  @bns (callIS I 32 σ [x0, x1]) ⟨fun x2 σ =>
  @bnd (extSem 0 [x2]) ⟨fun x3 =>
  @bnd (extSem 1 [x2]) ⟨fun x4 =>
  @bnd (jwrSem 0 10 [(.agg [(.str []), .nilp, (.int .i64 0), (.int .i64 0), (.int .i64 0), (.int .i64 0), (.int .u64 0), (.int .i64 0), (.int .u64 0), (.bool false)]), x3]) ⟨fun x5 =>
  @bnd (unSem .not [x4]) ⟨fun x6 =>
  @itK x6 ⟨retJ (resEx [(.str []), (.bool false)]) σ⟩ ⟨@bnd (fldSem 1 none [x5]) ⟨fun x7 =>
  @bnd (nilchkSem [x7]) ⟨fun x8 =>
  @bns (ldOSem σ (some 17) [x8]) ⟨fun x9 σ =>
  @bnd (fldSem 2 (some 7) [x5]) ⟨fun x10 =>
  @bnd (callPS C 33 [x9, x10]) ⟨fun x11 =>
  @bnd (extSem 0 [x11]) ⟨fun x12 =>
  @bnd (extSem 1 [x11]) ⟨fun x13 =>
  retJ (resEx [x12, (.bool true)]) σ⟩⟩⟩⟩⟩⟩⟩⟩⟩⟩⟩⟩⟩
def D20 (C : CallP) (I : CallI) (n : Nat) (x0 x1 : DVal) (σ : Sto) : Option Out :=
  @bns (callIS I 32 σ [x0, x1]) ⟨fun x2 σ =>
  @bnd (extSem 0 [x2]) ⟨fun x3 =>
  @bnd (extSem 1 [x2]) ⟨fun x4 =>
  @bnd (jwrSem 0 10 [(.agg [(.str []), .nilp, (.int .i64 0), (.int .i64 0), (.int .i64 0), (.int .i64 0), (.int .u64 0), (.int .i64 0), (.int .u64 0), (.bool false)]), x3]) ⟨fun x5 =>
  @bnd (fldSem 0 none [x5]) ⟨fun x6 =>
  @bnd (@wnP x4 true ⟨fldSem 0 none [x5]⟩) ⟨fun x7 =>
  @bnd (@wnP x4 true ⟨bin2Sem .neq [x7, (.str [])]⟩) ⟨fun x8 =>
  @bnd (pickSem [x4, x8, (.bool false)]) ⟨fun x9 =>
  retJ (resEx [x6, x9]) σ⟩⟩⟩⟩⟩⟩⟩⟩
def D21 (C : CallP) (I : CallI) (n : Nat) (x0 x1 : DVal) (σ : Sto) : Option Out :=
  @bns (callIS I 32 σ [x0, x1]) ⟨fun x2 σ =>
  @bnd (extSem 0 [x2]) ⟨fun x3 =>
  @bnd (extSem 1 [x2]) ⟨fun x4 =>
  @bnd (jwrSem 0 10 [(.agg [(.str []), .nilp, (.int .i64 0), (.int .i64 0), (.int .i64 0), (.int .i64 0), (.int .u64 0), (.int .i64 0), (.int .u64 0), (.bool false)]), x3]) ⟨fun x5 =>
  @bnd (@wnP x4 true ⟨fldSem 9 none [x5]⟩) ⟨fun x6 =>
  @bnd (pickSem [x4, x6, (.bool false)]) ⟨fun x7 =>
  retJ (resEx [x7]) σ⟩⟩⟩⟩⟩⟩
def D22 (C : CallP) (I : CallI) (n : Nat) (x0 x1 : DVal) (σ : Sto) : Option Out :=
  @bns (callIS I 34 σ [x0, x1]) ⟨fun x2 σ =>
  @bnd (bin2Sem .geq [x2, (.int .i64 0)]) ⟨fun x3 =>
  retJ (resEx [x3]) σ⟩⟩
def D23 (C : CallP) (I : CallI) (n : Nat) (x0 x1 : DVal) (σ : Sto) : Option Out :=
  @bnd (jboxSem [x0]) ⟨fun x2 =>
  @bns (ldOSem σ (some 17) [x1]) ⟨fun x3 σ =>
  @bnd (fldSem 1 (some 7) [x2]) ⟨fun x4 =>
  @bnd (callPS C 16 [x3, x4]) ⟨fun x5 =>
  @bnd (bin2Sem .neq [x5, (.int .i64 0)]) ⟨fun x6 =>
  retJ (resEx [x6]) σ⟩⟩⟩⟩⟩
def B24_0 (C : CallP) (I : CallI) (n : Nat) (x11 x12 x13 : DVal) (x14 : DVal) (σ : Sto) : Option Out :=
  @bnd (bin2Sem .lss [x14, x13]) ⟨fun x15 =>
  @itK x15 ⟨@bnd (idxSSem 3 [x12, x14]) ⟨fun x16 =>
  @bnd (ldESem (some 3) [x16]) ⟨fun x17 =>
  @bnd (jwrSem 0 3 [(.agg [(.str []), .nils, (.bool false)]), x17]) ⟨fun x18 =>
  @bnd (fldSem 1 none [x18]) ⟨fun x19 =>
  @bnd (callPS C 37 [x19]) ⟨fun x20 =>
  @bnd (jwrSem 1 1 [x18, x20]) ⟨fun x21 =>
  @bnd (nilchkSem [x11]) ⟨fun x22 =>
  @bnd (offSem 1 [x22]) ⟨fun x23 =>
  @bns (ldOSem σ none [x23]) ⟨fun x24 σ =>
  @bnd (fldSem 0 (some 3) [x21]) ⟨fun x25 =>
  @bnd (POp.sem C [x25] (.bslice false 3)) ⟨fun x26 =>
  @bns (app2Sem false 3 σ [x24, x26]) ⟨fun x27 σ =>
  @bnd (nilchkSem [x11]) ⟨fun x28 =>
  @bnd (offSem 1 [x28]) ⟨fun x29 =>
  @bns (stOSem σ 1 [x29, x27]) ⟨fun x30 σ =>
  @bnd (bin2Sem .add [x14, (.int .i64 1)]) ⟨fun x31 =>
  some (.next 0 [x31] σ)⟩⟩⟩⟩⟩⟩⟩⟩⟩⟩⟩⟩⟩⟩⟩⟩⟩ ⟨retJ (resEx [x11]) σ⟩⟩
def L24_0 (C : CallP) (I : CallI) (n : Nat) (x11 x12 x13 : DVal) (vs : List DVal) (σ : Sto) : Option Out := B24_0 C I n x11 x12 x13 (vs.getD 0 .undef) σ
def D24 (C : CallP) (I : CallI) (n : Nat) (x0 : DVal) (σ : Sto) : Option Out :=
  @bnd (jboxSem [x0]) ⟨fun x1 =>
  @bnd (fldSem 3 none [x1]) ⟨fun x2 =>
  @bns (callSSem C 35 σ [x2]) ⟨fun x3 σ =>
  @bnd (fldSem 4 none [x1]) ⟨fun x4 =>
  @bnd (callPS C 36 [x4]) ⟨fun x5 =>
  @bnd (fldSem 6 none [x1]) ⟨fun x6 =>
  @bnd (callPS C 37 [x6]) ⟨fun x7 =>
  @bnd (fldSem 7 none [x1]) ⟨fun x8 =>
  @bnd (callPS C 37 [x8]) ⟨fun x9 =>
  @bnd (POp.sem C [x3, x5, x7, x9] (.build [.nils, .nils, .nils, .nils, .nils, .nils, .nils, .nils, .nils, .nils, .nils, .nils, .nils, .nils, .nils, .nils, .nils] [(3, 1), (4, 1), (6, 1), (7, 1)])) ⟨fun x10 =>
  @bns (boxOSem σ [x10]) ⟨fun x11 σ =>
  @bnd (fldSem 1 none [x1]) ⟨fun x12 =>
  @bnd (lenSlSem [x12]) ⟨fun x13 =>
  iterJ 0 (L24_0 C I n x11 x12 x13) n [(.int .i64 0)] σ⟩⟩⟩⟩⟩⟩⟩⟩⟩⟩⟩⟩⟩
def D25 (C : CallP) (I : CallI) (n : Nat) (x0 x1 : DVal) (σ : Sto) : Option Out :=
  @bnd (jboxSem [x1]) ⟨fun x2 =>
  @bnd (nilchkSem [x0]) ⟨fun x3 =>
  @bnd (offSem 1 [x3]) ⟨fun x4 =>
  @bns (ldOSem σ none [x4]) ⟨fun x5 σ =>
  @bnd (fldSem 0 (some 10) [x2]) ⟨fun x6 =>
  @bnd (POp.sem C [x6] (.bslice true 10)) ⟨fun x7 =>
  @bns (app2Sem true 10 σ [x5, x7]) ⟨fun x8 σ =>
  @bnd (nilchkSem [x0]) ⟨fun x9 =>
  @bnd (offSem 1 [x9]) ⟨fun x10 =>
  @bns (stOSem σ 1 [x10, x8]) ⟨fun x11 σ =>
  @bnd (nilchkSem [x0]) ⟨fun x12 =>
  @bnd (offSem 2 [x12]) ⟨fun x13 =>
  @bns (ldOSem σ none [x13]) ⟨fun x14 σ =>
  @bnd (fldSem 2 (some 7) [x2]) ⟨fun x15 =>
  @bns (lookSem true [.i .i64, .i .i64, .i .i64, .i .i64, .i .u64, .i .i64, .i .u64] (.int .i64 0) true σ [x14, x15]) ⟨fun x16 σ =>
  @bnd (extSem 0 [x16]) ⟨fun x17 =>
  @bnd (extSem 1 [x16]) ⟨fun x18 =>
  @bnd (fldSem 9 none [x2]) ⟨fun x19 =>
  @bnd (@wnP x19 true ⟨mvSem [x18]⟩) ⟨fun x20 =>
  @bnd (@wnP x19 true ⟨unSem .not [x20]⟩) ⟨fun x21 =>
  @bnd (pickSem [x19, x21, (.bool false)]) ⟨fun x22 =>
  @itK x22 ⟨@bnd (nilchkSem [x0]) ⟨fun x23 =>
  @bnd (offSem 2 [x23]) ⟨fun x24 =>
  @bns (ldOSem σ none [x24]) ⟨fun x25 σ =>
  @bnd (fldSem 2 (some 7) [x2]) ⟨fun x26 =>
  @bnd (nilchkSem [x0]) ⟨fun x27 =>
  @bnd (offSem 1 [x27]) ⟨fun x28 =>
  @bns (ldOSem σ none [x28]) ⟨fun x29 σ =>
  @bnd (lenSlSem [x29]) ⟨fun x30 =>
  @bns (mupdSem true [.i .i64, .i .i64, .i .i64, .i .i64, .i .u64, .i .i64, .i .u64] σ [x25, x26, x30]) ⟨fun x31 σ =>
  retJ (resEx []) σ⟩⟩⟩⟩⟩⟩⟩⟩⟩⟩ ⟨retJ (resEx []) σ⟩⟩⟩⟩⟩⟩⟩⟩⟩⟩⟩⟩⟩⟩⟩⟩⟩⟩⟩⟩⟩⟩
def D26 (C : CallP) (I : CallI) (n : Nat) (x0 x1 : DVal) (σ : Sto) : Option Out :=
  @bnd (bin2Sem .geq [x0, (.int .i64 0)]) ⟨fun x2 =>
  @bnd (@wnP x2 true ⟨mvSem [x0]⟩) ⟨fun x3 =>
  @bnd (@wnP x2 true ⟨mvSem [x1]⟩) ⟨fun x4 =>
  @bnd (@wnP x2 true ⟨bin2Sem .lss [x3, x4]⟩) ⟨fun x5 =>
  @bnd (pickSem [x2, x5, (.bool false)]) ⟨fun x6 =>
  retJ (resEx [x6]) σ⟩⟩⟩⟩⟩
def D27 (C : CallP) (I : CallI) (n : Nat) (x0 x1 x2 : DVal) (σ : Sto) : Option Out :=
  @bnd (jboxSem [x0]) ⟨fun x3 =>
  @bnd (fldSem 0 (some 2) [x3]) ⟨fun x4 =>
  @bnd (callPS C 38 [x4, x1, x2]) ⟨fun x5 =>
  @bnd (@wnP x5 true ⟨fldSem 2 (some 2) [x3]⟩) ⟨fun x6 =>
  @bnd (@wnP x5 true ⟨mvSem [x1]⟩) ⟨fun x7 =>
  @bnd (@wnP x5 true ⟨mvSem [x2]⟩) ⟨fun x8 =>
  @bnd (@wnP x5 true ⟨callPS C 38 [x6, x7, x8]⟩) ⟨fun x9 =>
  @bnd (pickSem [x5, x9, (.bool false)]) ⟨fun x10 =>
  @bnd (@wnP x10 true ⟨fldSem 2 (some 2) [x3]⟩) ⟨fun x11 =>
  @bnd (@wnP x10 true ⟨fldSem 0 (some 2) [x3]⟩) ⟨fun x12 =>
  @bnd (@wnP x10 true ⟨callPS C 39 [x11, x12]⟩) ⟨fun x13 =>
  @bnd (pickSem [x10, x13, (.bool false)]) ⟨fun x14 =>
  retJ (resEx [x14]) σ⟩⟩⟩⟩⟩⟩⟩⟩⟩⟩⟩⟩
def D28 (C : CallP) (I : CallI) (n : Nat) (x0 : DVal) (σ : Sto) : Option Out :=
  @bnd (jboxSem [x0]) ⟨fun x1 =>
  @bnd (fldSem 1 none [x1]) ⟨fun x2 =>
  @bnd (bin2Sem .eql [x2, (.int .i64 0)]) ⟨fun x3 =>
  retJ (resEx [x3]) σ⟩⟩⟩
def D29 (C : CallP) (I : CallI) (n : Nat) (x0 x1 : DVal) (σ : Sto) : Option Out :=
  @bns (boxOSem σ [x0]) ⟨fun x2 σ =>
  @bnd (callPS C 40 [x1]) ⟨fun x3 =>
  @bnd (@wnP x3 true ⟨mvSem [x1]⟩) ⟨fun x4 =>
  @bnd (@wnP x3 true ⟨bin2Sem .quo [x4, (.int .i64 64)]⟩) ⟨fun x5 =>
  @bnd (@wnP x3 true ⟨idxASem 4 1 [x2, x5]⟩) ⟨fun x6 =>
  @bns (@wnS x3 true σ ⟨ldOSem σ none [x6]⟩) ⟨fun x7 σ =>
  @bnd (@wnP x3 true ⟨mvSem [x1]⟩) ⟨fun x8 =>
  @bnd (@wnP x3 true ⟨bin2Sem .rem [x8, (.int .i64 64)]⟩) ⟨fun x9 =>
  @bnd (@wnP x3 true ⟨bin2Sem .shr [x7, x9]⟩) ⟨fun x10 =>
  @bnd (@wnP x3 true ⟨bin2Sem .and [x10, (.int .u64 1)]⟩) ⟨fun x11 =>
  @bnd (@wnP x3 true ⟨bin2Sem .eql [x11, (.int .u64 1)]⟩) ⟨fun x12 =>
  @bnd (pickSem [x3, x12, (.bool false)]) ⟨fun x13 =>
  retJ (resEx [x13]) σ⟩⟩⟩⟩⟩⟩⟩⟩⟩⟩⟩⟩
def D30 (C : CallP) (I : CallI) (n : Nat) (x0 x1 : DVal) (σ : Sto) : Option Out :=
  @bnd (jboxSem [x0]) ⟨fun x2 =>
  @bnd (jboxSem [x1]) ⟨fun x3 =>
  @bnd (fldSem 0 (some 2) [x3]) ⟨fun x4 =>
  @bnd (fldSem 0 (some 2) [x2]) ⟨fun x5 =>
  @bnd (callPS C 39 [x4, x5]) ⟨fun x6 =>
  @bnd (@wnP x6 true ⟨fldSem 2 (some 2) [x2]⟩) ⟨fun x7 =>
  @bnd (@wnP x6 true ⟨fldSem 2 (some 2) [x3]⟩) ⟨fun x8 =>
  @bnd (@wnP x6 true ⟨callPS C 39 [x7, x8]⟩) ⟨fun x9 =>
  @bnd (pickSem [x6, x9, (.bool false)]) ⟨fun x10 =>
  retJ (resEx [x10]) σ⟩⟩⟩⟩⟩⟩⟩⟩⟩
def J31_0 (C : CallP) (I : CallI) (n : Nat) (x2 : DVal) (x12 x13 x14 : DVal) (σ : Sto) : Option Out :=
  @bnd (fldSem 0 none [x14]) ⟨fun x15 =>
  @bnd (nilchkSem [x2]) ⟨fun x16 =>
  @bnd (offSem 0 [x16]) ⟨fun x17 =>
  @bns (ldOSem σ none [x17]) ⟨fun x18 σ =>
  @bnd (fldSem 0 (some 7) [x12]) ⟨fun x19 =>
  @bnd (POp.sem C [x15, x18, x19, (.bool true)] (.build [(.str []), .nilp, (.int .i64 0), (.int .i64 0), (.int .i64 0), (.int .i64 0), (.int .u64 0), (.int .i64 0), (.int .u64 0), (.bool false)] [(0, 1), (1, 1), (2, 7), (9, 1)])) ⟨fun x20 =>
  @bnd (jwrSem 0 10 [x13, x20]) ⟨fun x21 =>
  @bnd (fldSem 0 (some 10) [x21]) ⟨fun x22 =>
  retJ (resEx [x22]) σ⟩⟩⟩⟩⟩⟩⟩⟩
def L31_0 (C : CallP) (I : CallI) (n : Nat) (x2 : DVal) (vs : List DVal) (σ : Sto) : Option Out := J31_0 C I n x2 (vs.getD 0 .undef) (vs.getD 1 .undef) (vs.getD 2 .undef) σ
def D31 (C : CallP) (I : CallI) (n : Nat) (x0 x1 x2 : DVal) (σ : Sto) : Option Out :=
  @bnd (jboxSem [x0]) ⟨fun x3 =>
  @bnd (jboxSem [x1]) ⟨fun x4 =>
  @bnd (fldSem 0 (some 17) [x4]) ⟨fun x5 =>
  @bnd (fldSem 0 none [x3]) ⟨fun x6 =>
  @bns (callSSem C 41 σ [x5, x6]) ⟨fun x7 σ =>
  @bnd (extSem 0 [x7]) ⟨fun x8 =>
  @bnd (extSem 1 [x7]) ⟨fun x9 =>
  @bnd (jwrSem 0 7 [(.agg [(.int .i64 0), (.int .i64 0), (.int .i64 0), (.int .i64 0), (.int .u64 0), (.int .i64 0), (.int .u64 0)]), x8]) ⟨fun x10 =>
  @bnd (unSem .not [x9]) ⟨fun x11 =>
  joinJ 0 (L31_0 C I n x2) (@itK x11 ⟨@bnd (fldSem 1 none [x3]) ⟨fun x12 =>
  @bnd (nilchkSem [x12]) ⟨fun x13 =>
  @bns (ldOSem σ (some 17) [x13]) ⟨fun x14 σ =>
  @bnd (fldSem 0 (some 17) [x4]) ⟨fun x15 =>
  @bnd (fldSem 2 (some 7) [x3]) ⟨fun x16 =>
  @bns (callSSem C 42 σ [x14, x15, x16]) ⟨fun x17 σ =>
  @bnd (extSem 0 [x17]) ⟨fun x18 =>
  @bnd (extSem 1 [x17]) ⟨fun x19 =>
  @bnd (jwrSem 0 7 [(.agg [(.int .i64 0), (.int .i64 0), (.int .i64 0), (.int .i64 0), (.int .u64 0), (.int .i64 0), (.int .u64 0)]), x18]) ⟨fun x20 =>
  @bnd (bin2Sem .neq [x19, (.int .i64 0)]) ⟨fun x21 =>
  @itK x21 ⟨@bnd (jwrSem 9 1 [x3, (.bool false)]) ⟨fun x22 =>
  @bnd (fldSem 0 (some 10) [x22]) ⟨fun x23 =>
  @bnd (jwrSem 0 10 [(.agg [(.str []), .nilp, (.int .i64 0), (.int .i64 0), (.int .i64 0), (.int .i64 0), (.int .u64 0), (.int .i64 0), (.int .u64 0), (.bool false)]), x23]) ⟨fun x24 =>
  @bnd (fldSem 0 (some 10) [x24]) ⟨fun x25 =>
  retJ (resEx [x25]) σ⟩⟩⟩⟩⟩ ⟨@bnd (fldSem 0 (some 7) [x20]) ⟨fun x22 =>
  @bnd (jwrSem 0 7 [x10, x22]) ⟨fun x23 =>
  some (.next 0 [x23, (.agg [(.str []), .nilp, (.int .i64 0), (.int .i64 0), (.int .i64 0), (.int .i64 0), (.int .u64 0), (.int .i64 0), (.int .u64 0), (.bool false)]), x3] σ)⟩⟩⟩⟩⟩⟩⟩⟩⟩⟩⟩⟩⟩⟩ ⟨some (.next 0 [x10, (.agg [(.str []), .nilp, (.int .i64 0), (.int .i64 0), (.int .i64 0), (.int .i64 0), (.int .u64 0), (.int .i64 0), (.int .u64 0), (.bool false)]), x3] σ)⟩)⟩⟩⟩⟩⟩⟩⟩⟩⟩
def D32 (C : CallP) (I : CallI) (n : Nat) (x0 x1 : DVal) (σ : Sto) : Option Out :=
  @bns (callIS I 15 σ [x0]) ⟨fun x2 σ =>
  @bnd (unSem .not [x2]) ⟨fun x3 =>
  @bnd (@wnP x3 false ⟨mvSem [x1]⟩) ⟨fun x4 =>
  @bnd (@wnP x3 false ⟨bin2Sem .lss [x4, (.int .i64 1)]⟩) ⟨fun x5 =>
  @bnd (pickSem [x3, (.bool true), x5]) ⟨fun x6 =>
  @bnd (@wnP x6 false ⟨mvSem [x1]⟩) ⟨fun x7 =>
  @bnd (@wnP x6 false ⟨mvSem [x0]⟩) ⟨fun x8 =>
  @bnd (@wnP x6 false ⟨nilchkSem [x8]⟩) ⟨fun x9 =>
  @bnd (@wnP x6 false ⟨offSem 1 [x9]⟩) ⟨fun x10 =>
  @bns (@wnS x6 false σ ⟨ldOSem σ none [x10]⟩) ⟨fun x11 σ =>
  @bnd (@wnP x6 false ⟨lenSlSem [x11]⟩) ⟨fun x12 =>
  @bnd (@wnP x6 false ⟨bin2Sem .gtr [x7, x12]⟩) ⟨fun x13 =>
  @bnd (pickSem [x6, (.bool true), x13]) ⟨fun x14 =>
  @itK x14 ⟨@bnd (POp.sem C [] (.build [(.str []), .nilp, (.int .i64 0), (.int .i64 0), (.int .i64 0), (.int .i64 0), (.int .u64 0), (.int .i64 0), (.int .u64 0), (.bool false)] [])) ⟨fun x15 =>
  @bnd (jwrSem 0 10 [(.agg [(.str []), .nilp, (.int .i64 0), (.int .i64 0), (.int .i64 0), (.int .i64 0), (.int .u64 0), (.int .i64 0), (.int .u64 0), (.bool false)]), x15]) ⟨fun x16 =>
  @bnd (fldSem 0 (some 10) [x16]) ⟨fun x17 =>
  retJ (resEx [x17, (.bool false)]) σ⟩⟩⟩⟩ ⟨@bnd (nilchkSem [x0]) ⟨fun x15 =>
  @bnd (offSem 1 [x15]) ⟨fun x16 =>
  @bns (ldOSem σ none [x16]) ⟨fun x17 σ =>
  @bnd (bin2Sem .sub [x1, (.int .i64 1)]) ⟨fun x18 =>
  @bnd (idxSSem 10 [x17, x18]) ⟨fun x19 =>
  @bnd (ldESem (some 10) [x19]) ⟨fun x20 =>
  @bnd (jwrSem 0 10 [(.agg [(.str []), .nilp, (.int .i64 0), (.int .i64 0), (.int .i64 0), (.int .i64 0), (.int .u64 0), (.int .i64 0), (.int .u64 0), (.bool false)]), x20]) ⟨fun x21 =>
  @bnd (fldSem 0 (some 10) [x21]) ⟨fun x22 =>
  retJ (resEx [x22, (.bool true)]) σ⟩⟩⟩⟩⟩⟩⟩⟩⟩⟩⟩⟩⟩⟩⟩⟩⟩⟩⟩⟩⟩⟩
def D33 (C : CallP) (I : CallI) (n : Nat) (x0 x1 : DVal) (σ : Sto) : Option Out :=
  @bnd (jboxSem [x0]) ⟨fun x2 =>
  @bnd (jboxSem [x1]) ⟨fun x3 =>
  @bnd (fldSem 0 (some 17) [x2]) ⟨fun x4 =>
  @bnd (fldSem 0 (some 7) [x3]) ⟨fun x5 =>
  @bnd (callPS C 16 [x4, x5]) ⟨fun x6 =>
  @bnd (bin2Sem .neq [x6, (.int .i64 0)]) ⟨fun x7 =>
  @itK x7 ⟨retJ (resEx [(.str []), x6]) σ⟩ ⟨@bnd (fldSem 3 (some 4) [x3]) ⟨fun x8 =>
  @bnd (fldSem 6 none [x2]) ⟨fun x9 =>
  @bnd (fldSem 7 none [x2]) ⟨fun x10 =>
  @bnd (callPS C 43 [x8, x9, x10]) ⟨fun x11 =>
  @bnd (extSem 0 [x11]) ⟨fun x12 =>
  @bnd (extSem 1 [x11]) ⟨fun x13 =>
  @bnd (bin2Sem .neq [x13, (.int .i64 0)]) ⟨fun x14 =>
  @itK x14 ⟨retJ (resEx [(.str []), x13]) σ⟩ ⟨@bnd (fldSem 4 none [x2]) ⟨fun x15 =>
  @bnd (fldSem 0 none [x3]) ⟨fun x16 =>
  @bnd (idxSSem 11 [x15, x16]) ⟨fun x17 =>
  @bnd (offSem 0 [x17]) ⟨fun x18 =>
  @bnd (ldESem none [x18]) ⟨fun x19 =>
  @bnd (bin2Sem .add [x19, (.str [58])]) ⟨fun x20 =>
  @bnd (fldSem 3 none [x2]) ⟨fun x21 =>
  @bnd (fldSem 1 none [x3]) ⟨fun x22 =>
  @bnd (idxSSem 9 [x21, x22]) ⟨fun x23 =>
  @bnd (offSem 0 [x23]) ⟨fun x24 =>
  @bnd (ldESem none [x24]) ⟨fun x25 =>
  @bnd (bin2Sem .add [x20, x25]) ⟨fun x26 =>
  @bnd (bin2Sem .add [x26, (.str [58])]) ⟨fun x27 =>
  @bnd (fldSem 1 none [x2]) ⟨fun x28 =>
  @bnd (fldSem 2 none [x3]) ⟨fun x29 =>
  @bnd (idxSSem 3 [x28, x29]) ⟨fun x30 =>
  @bnd (offSem 0 [x30]) ⟨fun x31 =>
  @bnd (ldESem none [x31]) ⟨fun x32 =>
  @bnd (bin2Sem .add [x27, x32]) ⟨fun x33 =>
  @bnd (bin2Sem .add [x33, (.str [58])]) ⟨fun x34 =>
  @bnd (bin2Sem .add [x34, x12]) ⟨fun x35 =>
  retJ (resEx [x35, (.int .i64 0)]) σ⟩⟩⟩⟩⟩⟩⟩⟩⟩⟩⟩⟩⟩⟩⟩⟩⟩⟩⟩⟩⟩⟩⟩⟩⟩⟩⟩⟩⟩⟩⟩⟩⟩⟩⟩⟩
def B34_0 (C : CallP) (I : CallI) (n : Nat) (x0 x1 x2 : DVal) (x3 x4 : DVal) (σ : Sto) : Option Out :=
  @bnd (bin2Sem .lss [x3, x2]) ⟨fun x5 =>
  @itK x5 ⟨@bnd (idxSSem 8 [x0, x3]) ⟨fun x6 =>
  @bnd (ldESem (some 8) [x6]) ⟨fun x7 =>
  @bns (callVSem I σ [x1, x7]) ⟨fun x8 σ =>
  @itK x8 ⟨retJ (resEx [x3]) σ⟩ ⟨@bnd (bin2Sem .add [x3, (.int .i64 1)]) ⟨fun x9 =>
  some (.next 0 [x9, x4] σ)⟩⟩⟩⟩⟩⟩ ⟨retJ (resEx [(.int .i64 (-1))]) σ⟩⟩
def L34_0 (C : CallP) (I : CallI) (n : Nat) (x0 x1 x2 : DVal) (vs : List DVal) (σ : Sto) : Option Out := B34_0 C I n x0 x1 x2 (vs.getD 0 .undef) (vs.getD 1 .undef) σ
def D34 (C : CallP) (I : CallI) (n : Nat) (x0 x1 : DVal) (σ : Sto) : Option Out :=
  @bnd (lenSlSem [x0]) ⟨fun x2 =>
  iterJ 0 (L34_0 C I n x0 x1 x2) n [(.int .i64 0), (.int .i64 0)] σ⟩
def D35 (C : CallP) (I : CallI) (n : Nat) (x0 : DVal) (σ : Sto) : Option Out :=
  @bnd (isnilSem 0 false [x0]) ⟨fun x1 =>
  @itK x1 ⟨retJ (resEx [.nils]) σ⟩ ⟨@bnd (POp.sem C [] (.bslice false 9)) ⟨fun x2 =>
  @bns (app2Sem false 9 σ [x2, x0]) ⟨fun x3 σ =>
  retJ (resEx [x3]) σ⟩⟩⟩⟩
def D36 (C : CallP) (I : CallI) (n : Nat) (x0 : DVal) (σ : Sto) : Option Out :=
  @bnd (isnilSem 0 false [x0]) ⟨fun x1 =>
  @itK x1 ⟨retJ (resEx [.nils]) σ⟩ ⟨@bnd (POp.sem C [] (.bslice false 11)) ⟨fun x2 =>
  @bns (app2Sem false 11 σ [x2, x0]) ⟨fun x3 σ =>
  retJ (resEx [x3]) σ⟩⟩⟩⟩
def D37 (C : CallP) (I : CallI) (n : Nat) (x0 : DVal) (σ : Sto) : Option Out :=
  @bnd (isnilSem 0 false [x0]) ⟨fun x1 =>
  @itK x1 ⟨retJ (resEx [.nils]) σ⟩ ⟨@bnd (POp.sem C [] (.bslice false 1)) ⟨fun x2 =>
  @bns (app2Sem false 1 σ [x2, x0]) ⟨fun x3 σ =>
  retJ (resEx [x3]) σ⟩⟩⟩⟩
def D38 (C : CallP) (I : CallI) (n : Nat) (x0 x1 x2 : DVal) (σ : Sto) : Option Out :=
  @bnd (jboxSem [x0]) ⟨fun x3 =>
  @bnd (fldSem 0 none [x3]) ⟨fun x4 =>
  @bnd (bin2Sem .lss [x4, (.int .i64 0)]) ⟨fun x5 =>
  @bnd (@wnP x5 false ⟨fldSem 0 none [x3]⟩) ⟨fun x6 =>
  @bnd (@wnP x5 false ⟨mvSem [x1]⟩) ⟨fun x7 =>
  @bnd (@wnP x5 false ⟨bin2Sem .geq [x6, x7]⟩) ⟨fun x8 =>
  @bnd (pickSem [x5, (.bool true), x8]) ⟨fun x9 =>
  @itK x9 ⟨retJ (resEx [(.bool false)]) σ⟩ ⟨@bnd (bin2Sem .geq [x2, (.int .i64 64)]) ⟨fun x10 =>
  @itK x10 ⟨retJ (resEx [(.bool true)]) σ⟩ ⟨@bnd (fldSem 1 none [x3]) ⟨fun x11 =>
  @bnd (mxSem [x2, (.int .i64 0)]) ⟨fun x12 =>
  @bnd (bin2Sem .shr [x11, x12]) ⟨fun x13 =>
  @bnd (bin2Sem .eql [x13, (.int .u64 0)]) ⟨fun x14 =>
  retJ (resEx [x14]) σ⟩⟩⟩⟩⟩⟩⟩⟩⟩⟩⟩⟩⟩⟩
def D39 (C : CallP) (I : CallI) (n : Nat) (x0 x1 : DVal) (σ : Sto) : Option Out :=
  @bnd (jboxSem [x0]) ⟨fun x2 =>
  @bnd (jboxSem [x1]) ⟨fun x3 =>
  @bnd (fldSem 0 none [x2]) ⟨fun x4 =>
  @bnd (fldSem 0 none [x3]) ⟨fun x5 =>
  @bnd (bin2Sem .geq [x4, x5]) ⟨fun x6 =>
  @bnd (@wnP x6 true ⟨fldSem 1 none [x2]⟩) ⟨fun x7 =>
  @bnd (@wnP x6 true ⟨fldSem 1 none [x3]⟩) ⟨fun x8 =>
  @bnd (@wnP x6 true ⟨bin2Sem .and [x7, x8]⟩) ⟨fun x9 =>
  @bnd (@wnP x6 true ⟨fldSem 1 none [x3]⟩) ⟨fun x10 =>
  @bnd (@wnP x6 true ⟨bin2Sem .eql [x9, x10]⟩) ⟨fun x11 =>
  @bnd (pickSem [x6, x11, (.bool false)]) ⟨fun x12 =>
  retJ (resEx [x12]) σ⟩⟩⟩⟩⟩⟩⟩⟩⟩⟩⟩
def D40 (C : CallP) (I : CallI) (n : Nat) (x0 : DVal) (σ : Sto) : Option Out :=
  @bnd (bin2Sem .geq [x0, (.int .i64 0)]) ⟨fun x1 =>
  @bnd (@wnP x1 true ⟨mvSem [x0]⟩) ⟨fun x2 =>
  @bnd (@wnP x1 true ⟨bin2Sem .lss [x2, (.int .i64 256)]⟩) ⟨fun x3 =>
  @bnd (pickSem [x1, x3, (.bool false)]) ⟨fun x4 =>
  retJ (resEx [x4]) σ⟩⟩⟩⟩
def D41 (C : CallP) (I : CallI) (n : Nat) (x0 x1 : DVal) (σ : Sto) : Option Out :=
  @bnd (jboxSem [x0]) ⟨fun x2 =>
  @bnd (bin2Sem .eql [x1, (.str [])]) ⟨fun x3 =>
  @itK x3 ⟨@bnd (POp.sem C [] (.build [(.int .i64 0), (.int .i64 0), (.int .i64 0), (.int .i64 0), (.int .u64 0), (.int .i64 0), (.int .u64 0)] [])) ⟨fun x4 =>
  @bnd (jwrSem 0 7 [(.agg [(.int .i64 0), (.int .i64 0), (.int .i64 0), (.int .i64 0), (.int .u64 0), (.int .i64 0), (.int .u64 0)]), x4]) ⟨fun x5 =>
  @bnd (fldSem 0 (some 7) [x5]) ⟨fun x6 =>
  retJ (resEx [x6, (.bool false)]) σ⟩⟩⟩⟩ ⟨@bnd (fldSem 0 (some 17) [x2]) ⟨fun x4 =>
  @bnd (callPS C 44 [x4, x1]) ⟨fun x5 =>
  @bnd (extSem 0 [x5]) ⟨fun x6 =>
  @bnd (extSem 1 [x5]) ⟨fun x7 =>
  @bnd (jwrSem 0 7 [(.agg [(.int .i64 0), (.int .i64 0), (.int .i64 0), (.int .i64 0), (.int .u64 0), (.int .i64 0), (.int .u64 0)]), x6]) ⟨fun x8 =>
  @bnd (fldSem 0 (some 7) [x8]) ⟨fun x9 =>
  retJ (resEx [x9, x7]) σ⟩⟩⟩⟩⟩⟩⟩⟩⟩
def D42 (C : CallP) (I : CallI) (n : Nat) (x0 x1 x2 : DVal) (σ : Sto) : Option Out :=
  @bnd (jboxSem [x0]) ⟨fun x3 =>
  @bnd (jboxSem [x1]) ⟨fun x4 =>
  @bnd (jboxSem [x2]) ⟨fun x5 =>
  @bnd (fldSem 0 (some 17) [x3]) ⟨fun x6 =>
  @bnd (fldSem 0 (some 7) [x5]) ⟨fun x7 =>
  @bnd (callPS C 16 [x6, x7]) ⟨fun x8 =>
  @bnd (bin2Sem .neq [x8, (.int .i64 0)]) ⟨fun x9 =>
  @itK x9 ⟨@bnd (POp.sem C [] (.build [(.int .i64 0), (.int .i64 0), (.int .i64 0), (.int .i64 0), (.int .u64 0), (.int .i64 0), (.int .u64 0)] [])) ⟨fun x10 =>
  @bnd (jwrSem 0 7 [(.agg [(.int .i64 0), (.int .i64 0), (.int .i64 0), (.int .i64 0), (.int .u64 0), (.int .i64 0), (.int .u64 0)]), x10]) ⟨fun x11 =>
  @bnd (fldSem 0 (some 7) [x11]) ⟨fun x12 =>
  retJ (resEx [x12, x8]) σ⟩⟩⟩⟩ ⟨@bnd (fldSem 0 (some 17) [x4]) ⟨fun x10 =>
  @bnd (fldSem 4 none [x3]) ⟨fun x11 =>
  @bnd (fldSem 0 none [x5]) ⟨fun x12 =>
  @bnd (idxSSem 11 [x11, x12]) ⟨fun x13 =>
  @bnd (offSem 0 [x13]) ⟨fun x14 =>
  @bnd (ldESem none [x14]) ⟨fun x15 =>
  @bnd (callPS C 45 [x10, x15]) ⟨fun x16 =>
  @bnd (fldSem 0 (some 17) [x4]) ⟨fun x17 =>
  @bnd (fldSem 3 none [x3]) ⟨fun x18 =>
  @bnd (fldSem 1 none [x5]) ⟨fun x19 =>
  @bnd (idxSSem 9 [x18, x19]) ⟨fun x20 =>
  @bnd (offSem 0 [x20]) ⟨fun x21 =>
  @bnd (ldESem none [x21]) ⟨fun x22 =>
  @bnd (callPS C 46 [x17, x22]) ⟨fun x23 =>
  @bnd (fldSem 0 (some 17) [x4]) ⟨fun x24 =>
  @bnd (fldSem 1 none [x3]) ⟨fun x25 =>
  @bnd (fldSem 2 none [x5]) ⟨fun x26 =>
  @bnd (idxSSem 3 [x25, x26]) ⟨fun x27 =>
  @bnd (offSem 0 [x27]) ⟨fun x28 =>
  @bnd (ldESem none [x28]) ⟨fun x29 =>
  @bnd (callPS C 47 [x24, x29]) ⟨fun x30 =>
  @bnd (POp.sem C [x16, x23, x30] (.build [(.int .i64 0), (.int .i64 0), (.int .i64 0), (.int .i64 0), (.int .u64 0), (.int .i64 0), (.int .u64 0)] [(0, 1), (1, 1), (2, 1)])) ⟨fun x31 =>
  @bnd (jwrSem 0 7 [(.agg [(.int .i64 0), (.int .i64 0), (.int .i64 0), (.int .i64 0), (.int .u64 0), (.int .i64 0), (.int .u64 0)]), x31]) ⟨fun x32 =>
  @bnd (fldSem 0 (some 17) [x3]) ⟨fun x33 =>
  @bnd (fldSem 0 (some 17) [x4]) ⟨fun x34 =>
  @bnd (fldSem 3 (some 2) [x5]) ⟨fun x35 =>
  @bnd (callPS C 48 [x33, x34, x35]) ⟨fun x36 =>
  @bnd (extSem 0 [x36]) ⟨fun x37 =>
  @bnd (extSem 1 [x36]) ⟨fun x38 =>
  @bnd (jwrSem 0 2 [(.agg [(.int .i64 0), (.int .u64 0)]), x37]) ⟨fun x39 =>
  @bnd (fldSem 0 (some 17) [x3]) ⟨fun x40 =>
  @bnd (fldSem 0 (some 17) [x4]) ⟨fun x41 =>
  @bnd (fldSem 5 (some 2) [x5]) ⟨fun x42 =>
  @bnd (callPS C 48 [x40, x41, x42]) ⟨fun x43 =>
  @bnd (extSem 0 [x43]) ⟨fun x44 =>
  @bnd (extSem 1 [x43]) ⟨fun x45 =>
  @bnd (jwrSem 0 2 [(.agg [(.int .i64 0), (.int .u64 0)]), x44]) ⟨fun x46 =>
  @bnd (fldSem 0 (some 2) [x39]) ⟨fun x47 =>
  @bnd (fldSem 0 (some 2) [x46]) ⟨fun x48 =>
  @bnd (POp.sem C [x47, x48] (.build [(.int .i64 0), (.int .u64 0), (.int .i64 0), (.int .u64 0)] [(0, 2), (2, 2)])) ⟨fun x49 =>
  @bnd (jwrSem 3 4 [x32, x49]) ⟨fun x50 =>
  @bnd (unSem .not [x38]) ⟨fun x51 =>
  @bnd (@wnP x51 false ⟨mvSem [x45]⟩) ⟨fun x52 =>
  @bnd (@wnP x51 false ⟨unSem .not [x52]⟩) ⟨fun x53 =>
  @bnd (pickSem [x51, (.bool true), x53]) ⟨fun x54 =>
  @bnd (@wnP x54 false ⟨fldSem 0 (some 17) [x4]⟩) ⟨fun x55 =>
  @bnd (@wnP x54 false ⟨fldSem 0 (some 7) [x50]⟩) ⟨fun x56 =>
  @bnd (@wnP x54 false ⟨callPS C 16 [x55, x56]⟩) ⟨fun x57 =>
  @bnd (@wnP x54 false ⟨bin2Sem .neq [x57, (.int .i64 0)]⟩) ⟨fun x58 =>
  @bnd (pickSem [x54, (.bool true), x58]) ⟨fun x59 =>
  @itK x59 ⟨@bnd (POp.sem C [] (.build [(.int .i64 0), (.int .i64 0), (.int .i64 0), (.int .i64 0), (.int .u64 0), (.int .i64 0), (.int .u64 0)] [])) ⟨fun x60 =>
  @bnd (jwrSem 0 7 [(.agg [(.int .i64 0), (.int .i64 0), (.int .i64 0), (.int .i64 0), (.int .u64 0), (.int .i64 0), (.int .u64 0)]), x60]) ⟨fun x61 =>
  @bnd (fldSem 0 (some 7) [x61]) ⟨fun x62 =>
  retJ (resEx [x62, (.int .i64 19)]) σ⟩⟩⟩⟩ ⟨@bnd (fldSem 0 (some 7) [x50]) ⟨fun x60 =>
  @bnd (jwrSem 0 7 [(.agg [(.int .i64 0), (.int .i64 0), (.int .i64 0), (.int .i64 0), (.int .u64 0), (.int .i64 0), (.int .u64 0)]), x60]) ⟨fun x61 =>
  @bnd (fldSem 0 (some 7) [x61]) ⟨fun x62 =>
  retJ (resEx [x62, (.int .i64 0)]) σ⟩⟩⟩⟩⟩⟩⟩⟩⟩⟩⟩⟩⟩⟩⟩⟩⟩⟩⟩⟩⟩⟩⟩⟩⟩⟩⟩⟩⟩⟩⟩⟩⟩⟩⟩⟩⟩⟩⟩⟩⟩⟩⟩⟩⟩⟩⟩⟩⟩⟩⟩⟩⟩⟩⟩⟩⟩⟩⟩⟩⟩⟩
def D43 (C : CallP) (I : CallI) (n : Nat) (x0 x1 x2 : DVal) (σ : Sto) : Option Out :=
  @bnd (jboxSem [x0]) ⟨fun x3 =>
  @bnd (fldSem 0 (some 4) [x3]) ⟨fun x4 =>
  @bnd (callPS C 49 [x4, x1, x2]) ⟨fun x5 =>
  @bnd (bin2Sem .neq [x5, (.int .i64 0)]) ⟨fun x6 =>
  @itK x6 ⟨retJ (resEx [(.str []), x5]) σ⟩ ⟨@bnd (fldSem 0 (some 2) [x3]) ⟨fun x7 =>
  @bnd (callPS C 50 [x7, x1, x2]) ⟨fun x8 =>
  @bnd (fldSem 0 (some 2) [x3]) ⟨fun x9 =>
  @bnd (fldSem 2 (some 2) [x3]) ⟨fun x10 =>
  @bnd (eqaSem false [.i .i64, .i .u64] [x9, x10]) ⟨fun x11 =>
  @itK x11 ⟨retJ (resEx [x8, (.int .i64 0)]) σ⟩ ⟨@bnd (bin2Sem .add [x8, (.str [45])]) ⟨fun x12 =>
  @bnd (fldSem 2 (some 2) [x3]) ⟨fun x13 =>
  @bnd (callPS C 50 [x13, x1, x2]) ⟨fun x14 =>
  @bnd (bin2Sem .add [x12, x14]) ⟨fun x15 =>
  retJ (resEx [x15, (.int .i64 0)]) σ⟩⟩⟩⟩⟩⟩⟩⟩⟩⟩⟩⟩⟩⟩⟩
def B44_0 (C : CallP) (I : CallI) (n : Nat) (x1 x3 x4 : DVal) (x5 x6 x7 : DVal) (σ : Sto) : Option Out :=
  @bnd (bin2Sem .lss [x5, x4]) ⟨fun x8 =>
  @itK x8 ⟨@bnd (idxSSem 8 [x3, x5]) ⟨fun x9 =>
  @bnd (ldESem (some 8) [x9]) ⟨fun x10 =>
  @bnd (jwrSem 0 8 [(.agg [(.str []), (.int .i64 0), (.int .i64 0), (.int .i64 0), (.int .i64 0), (.int .u64 0), (.int .i64 0), (.int .u64 0)]), x10]) ⟨fun x11 =>
  @bnd (fldSem 0 none [x11]) ⟨fun x12 =>
  @bnd (bin2Sem .eql [x12, x1]) ⟨fun x13 =>
  @itK x13 ⟨@bnd (fldSem 1 (some 7) [x11]) ⟨fun x14 =>
  @bnd (jwrSem 0 7 [x7, x14]) ⟨fun x15 =>
  @bnd (fldSem 0 (some 7) [x15]) ⟨fun x16 =>
  retJ (resEx [x16, (.bool true)]) σ⟩⟩⟩⟩ ⟨@bnd (bin2Sem .add [x5, (.int .i64 1)]) ⟨fun x14 =>
  some (.next 0 [x14, x6, x7] σ)⟩⟩⟩⟩⟩⟩⟩⟩ ⟨@bnd (POp.sem C [] (.build [(.int .i64 0), (.int .i64 0), (.int .i64 0), (.int .i64 0), (.int .u64 0), (.int .i64 0), (.int .u64 0)] [])) ⟨fun x9 =>
  @bnd (jwrSem 0 7 [x7, x9]) ⟨fun x10 =>
  @bnd (fldSem 0 (some 7) [x10]) ⟨fun x11 =>
  retJ (resEx [x11, (.bool false)]) σ⟩⟩⟩⟩⟩
def L44_0 (C : CallP) (I : CallI) (n : Nat) (x1 x3 x4 : DVal) (vs : List DVal) (σ : Sto) : Option Out := B44_0 C I n x1 x3 x4 (vs.getD 0 .undef) (vs.getD 1 .undef) (vs.getD 2 .undef) σ
def D44 (C : CallP) (I : CallI) (n : Nat) (x0 x1 : DVal) (σ : Sto) : Option Out :=
  @bnd (jboxSem [x0]) ⟨fun x2 =>
  @bnd (fldSem 14 none [x2]) ⟨fun x3 =>
  @bnd (lenSlSem [x3]) ⟨fun x4 =>
  iterJ 0 (L44_0 C I n x1 x3 x4) n [(.int .i64 0), (.bool false), (.agg [(.int .i64 0), (.int .i64 0), (.int .i64 0), (.int .i64 0), (.int .u64 0), (.int .i64 0), (.int .u64 0)])] σ⟩⟩⟩
def D45 (C : CallP) (I : CallI) (n : Nat) (x0 x1 : DVal) (σ : Sto) : Option Out :=
  @bnd (jboxSem [x0]) ⟨fun x2 =>
  @bns (boxOSem σ [x1]) ⟨fun x3 σ =>
  @bnd (fldSem 4 none [x2]) ⟨fun x4 =>
  @bnd (POp.sem C [x3] (.mkfunc 52)) ⟨fun x5 =>
  @bns (callIS I 51 σ [x4, x5]) ⟨fun x6 σ =>
  retJ (resEx [x6]) σ⟩⟩⟩⟩⟩
def D46 (C : CallP) (I : CallI) (n : Nat) (x0 x1 : DVal) (σ : Sto) : Option Out :=
  @bnd (jboxSem [x0]) ⟨fun x2 =>
  @bns (boxOSem σ [x1]) ⟨fun x3 σ =>
  @bnd (fldSem 3 none [x2]) ⟨fun x4 =>
  @bnd (POp.sem C [x3] (.mkfunc 54)) ⟨fun x5 =>
  @bns (callIS I 53 σ [x4, x5]) ⟨fun x6 σ =>
  retJ (resEx [x6]) σ⟩⟩⟩⟩⟩
def D47 (C : CallP) (I : CallI) (n : Nat) (x0 x1 : DVal) (σ : Sto) : Option Out :=
  @bnd (jboxSem [x0]) ⟨fun x2 =>
  @bns (boxOSem σ [x1]) ⟨fun x3 σ =>
  @bnd (fldSem 1 none [x2]) ⟨fun x4 =>
  @bnd (POp.sem C [x3] (.mkfunc 56)) ⟨fun x5 =>
  @bns (callIS I 55 σ [x4, x5]) ⟨fun x6 σ =>
  retJ (resEx [x6]) σ⟩⟩⟩⟩⟩
def B48_0 (C : CallP) (I : CallI) (n : Nat) (x4 x5 x16 x17 : DVal) (x18 x19 x20 : DVal) (σ : Sto) : Option Out :=
  @bnd (bin2Sem .lss [x18, x17]) ⟨fun x21 =>
  @itK x21 ⟨@bnd (idxSSem 1 [x16, x18]) ⟨fun x22 =>
  @bnd (ldESem none [x22]) ⟨fun x23 =>
  @bnd (fldSem 1 none [x5]) ⟨fun x24 =>
  @bnd (bin2Sem .shr [x24, x18]) ⟨fun x25 =>
  @bnd (bin2Sem .and [x25, (.int .u64 1)]) ⟨fun x26 =>
  @bnd (bin2Sem .eql [x26, (.int .u64 0)]) ⟨fun x27 =>
  @itK x27 ⟨@bnd (bin2Sem .add [x18, (.int .i64 1)]) ⟨fun x28 =>
  some (.next 0 [x28, x19, x20] σ)⟩⟩ ⟨@bnd (fldSem 7 none [x4]) ⟨fun x28 =>
  @bnd (callPS C 58 [x28, x23]) ⟨fun x29 =>
  @bnd (@wnP x19 true ⟨mvSem [x29]⟩) ⟨fun x30 =>
  @bnd (@wnP x19 true ⟨bin2Sem .geq [x30, (.int .i64 0)]⟩) ⟨fun x31 =>
  @bnd (pickSem [x19, x31, (.bool false)]) ⟨fun x32 =>
  @bnd (bin2Sem .geq [x29, (.int .i64 0)]) ⟨fun x33 =>
  @itK x33 ⟨@bnd (fldSem 1 none [x20]) ⟨fun x34 =>
  @bnd (bin2Sem .shl [(.int .u64 1), x29]) ⟨fun x35 =>
  @bnd (bin2Sem .or [x34, x35]) ⟨fun x36 =>
  @bnd (jwrSem 1 1 [x20, x36]) ⟨fun x37 =>
  @bnd (bin2Sem .add [x18, (.int .i64 1)]) ⟨fun x38 =>
  some (.next 0 [x38, x32, x37] σ)⟩⟩⟩⟩⟩⟩ ⟨@bnd (bin2Sem .add [x18, (.int .i64 1)]) ⟨fun x34 =>
  some (.next 0 [x34, x32, x20] σ)⟩⟩⟩⟩⟩⟩⟩⟩⟩⟩⟩⟩⟩⟩⟩⟩ ⟨@bnd (fldSem 0 (some 2) [x20]) ⟨fun x22 =>
  @bnd (jwrSem 0 2 [(.agg [(.int .i64 0), (.int .u64 0)]), x22]) ⟨fun x23 =>
  @bnd (fldSem 0 (some 2) [x23]) ⟨fun x24 =>
  retJ (resEx [x24, x19]) σ⟩⟩⟩⟩⟩
def L48_0 (C : CallP) (I : CallI) (n : Nat) (x4 x5 x16 x17 : DVal) (vs : List DVal) (σ : Sto) : Option Out := B48_0 C I n x4 x5 x16 x17 (vs.getD 0 .undef) (vs.getD 1 .undef) (vs.getD 2 .undef) σ
def D48 (C : CallP) (I : CallI) (n : Nat) (x0 x1 x2 : DVal) (σ : Sto) : Option Out :=
  @bnd (jboxSem [x0]) ⟨fun x3 =>
  @bnd (jboxSem [x1]) ⟨fun x4 =>
  @bnd (jboxSem [x2]) ⟨fun x5 =>
  @bnd (fldSem 6 none [x4]) ⟨fun x6 =>
  @bnd (fldSem 6 none [x3]) ⟨fun x7 =>
  @bnd (fldSem 0 none [x5]) ⟨fun x8 =>
  @bnd (idxSSem 1 [x7, x8]) ⟨fun x9 =>
  @bnd (ldESem none [x9]) ⟨fun x10 =>
  @bnd (callPS C 58 [x6, x10]) ⟨fun x11 =>
  @bnd (POp.sem C [x11] (.build [(.int .i64 0), (.int .u64 0)] [(0, 1)])) ⟨fun x12 =>
  @bnd (jwrSem 0 2 [(.agg [(.int .i64 0), (.int .u64 0)]), x12]) ⟨fun x13 =>
  @bnd (fldSem 0 none [x13]) ⟨fun x14 =>
  @bnd (bin2Sem .geq [x14, (.int .i64 0)]) ⟨fun x15 =>
  @bnd (fldSem 7 none [x3]) ⟨fun x16 =>
  @bnd (lenSlSem [x16]) ⟨fun x17 =>
  iterJ 0 (L48_0 C I n x4 x5 x16 x17) n [(.int .i64 0), x15, x13] σ⟩⟩⟩⟩⟩⟩⟩⟩⟩⟩⟩⟩⟩⟩⟩
def D49 (C : CallP) (I : CallI) (n : Nat) (x0 x1 x2 : DVal) (σ : Sto) : Option Out :=
  @bnd (jboxSem [x0]) ⟨fun x3 =>
  @bnd (callPS C 59 [x1, x2]) ⟨fun x4 =>
  @bnd (unSem .not [x4]) ⟨fun x5 =>
  @itK x5 ⟨retJ (resEx [(.int .i64 2)]) σ⟩ ⟨@bnd (fldSem 0 (some 4) [x3]) ⟨fun x6 =>
  @bnd (lenSlSem [x1]) ⟨fun x7 =>
  @bnd (lenSlSem [x2]) ⟨fun x8 =>
  @bnd (callPS C 27 [x6, x7, x8]) ⟨fun x9 =>
  @bnd (unSem .not [x9]) ⟨fun x10 =>
  @itK x10 ⟨retJ (resEx [(.int .i64 18)]) σ⟩ ⟨retJ (resEx [(.int .i64 0)]) σ⟩⟩⟩⟩⟩⟩⟩⟩⟩⟩
def B50_0 (C : CallP) (I : CallI) (n : Nat) (x1 x2 x3 x5 x6 : DVal) (x7 x8 : DVal) (σ : Sto) : Option Out :=
  @bnd (bin2Sem .lss [x7, x6]) ⟨fun x9 =>
  @itK x9 ⟨@bnd (idxSSem 2 [x5, x7]) ⟨fun x10 =>
  @bnd (ldESem (some 2) [x10]) ⟨fun x11 =>
  @bnd (jwrSem 0 2 [(.agg [(.int .i64 0), (.int .i64 0)]), x11]) ⟨fun x12 =>
  @bnd (fldSem 0 none [x12]) ⟨fun x13 =>
  @bnd (fldSem 1 none [x12]) ⟨fun x14 =>
  @bnd (bin2Sem .eql [x13, x14]) ⟨fun x15 =>
  @itK x15 ⟨@bnd (fldSem 0 none [x12]) ⟨fun x16 =>
  @bnd (idxSSem 1 [x2, x16]) ⟨fun x17 =>
  @bnd (ldESem none [x17]) ⟨fun x18 =>
  @bnd (POp.sem C [x18] (.bslice false 1)) ⟨fun x19 =>
  @bns (app2Sem false 1 σ [x8, x19]) ⟨fun x20 σ =>
  @bnd (bin2Sem .add [x7, (.int .i64 1)]) ⟨fun x21 =>
  some (.next 0 [x21, x20] σ)⟩⟩⟩⟩⟩⟩⟩ ⟨@bnd (fldSem 0 none [x12]) ⟨fun x16 =>
  @bnd (idxSSem 1 [x2, x16]) ⟨fun x17 =>
  @bnd (ldESem none [x17]) ⟨fun x18 =>
  @bnd (bin2Sem .add [x18, (.str [46])]) ⟨fun x19 =>
  @bnd (fldSem 1 none [x12]) ⟨fun x20 =>
  @bnd (idxSSem 1 [x2, x20]) ⟨fun x21 =>
  @bnd (ldESem none [x21]) ⟨fun x22 =>
  @bnd (bin2Sem .add [x19, x22]) ⟨fun x23 =>
  @bnd (POp.sem C [x23] (.bslice false 1)) ⟨fun x24 =>
  @bns (app2Sem false 1 σ [x8, x24]) ⟨fun x25 σ =>
  @bnd (bin2Sem .add [x7, (.int .i64 1)]) ⟨fun x26 =>
  some (.next 0 [x26, x25] σ)⟩⟩⟩⟩⟩⟩⟩⟩⟩⟩⟩⟩⟩⟩⟩⟩⟩⟩⟩ ⟨@bnd (lenSlSem [x8]) ⟨fun x10 =>
  @bnd (bin2Sem .eql [x10, (.int .i64 0)]) ⟨fun x11 =>
  @itK x11 ⟨@bnd (fldSem 0 none [x3]) ⟨fun x12 =>
  @bnd (idxSSem 1 [x1, x12]) ⟨fun x13 =>
  @bnd (ldESem none [x13]) ⟨fun x14 =>
  retJ (resEx [x14]) σ⟩⟩⟩⟩ ⟨@bnd (fldSem 0 none [x3]) ⟨fun x12 =>
  @bnd (idxSSem 1 [x1, x12]) ⟨fun x13 =>
  @bnd (ldESem none [x13]) ⟨fun x14 =>
  @bnd (bin2Sem .add [x14, (.str [58])]) ⟨fun x15 =>
  @bnd (callPS C 61 [x8, (.str [44])]) ⟨fun x16 =>
  @bnd (bin2Sem .add [x15, x16]) ⟨fun x17 =>
  retJ (resEx [x17]) σ⟩⟩⟩⟩⟩⟩⟩⟩⟩⟩⟩
def L50_0 (C : CallP) (I : CallI) (n : Nat) (x1 x2 x3 x5 x6 : DVal) (vs : List DVal) (σ : Sto) : Option Out := B50_0 C I n x1 x2 x3 x5 x6 (vs.getD 0 .undef) (vs.getD 1 .undef) σ
def D50 (C : CallP) (I : CallI) (n : Nat) (x0 x1 x2 : DVal) (σ : Sto) : Option Out :=
  @bnd (jboxSem [x0]) ⟨fun x3 =>
  @bnd (fldSem 1 none [x3]) ⟨fun x4 =>
  @bnd (callPS C 60 [x4]) ⟨fun x5 =>
  @bnd (lenSlSem [x5]) ⟨fun x6 =>
  iterJ 0 (L50_0 C I n x1 x2 x3 x5 x6) n [(.int .i64 0), .nils] σ⟩⟩⟩⟩
def B51_0 (C : CallP) (I : CallI) (n : Nat) (x0 x1 x2 : DVal) (x3 x4 : DVal) (σ : Sto) : Option Out :=
  @bnd (bin2Sem .lss [x3, x2]) ⟨fun x5 =>
  @itK x5 ⟨@bnd (idxSSem 11 [x0, x3]) ⟨fun x6 =>
  @bnd (ldESem (some 11) [x6]) ⟨fun x7 =>
  @bns (callVSem I σ [x1, x7]) ⟨fun x8 σ =>
  @itK x8 ⟨retJ (resEx [x3]) σ⟩ ⟨@bnd (bin2Sem .add [x3, (.int .i64 1)]) ⟨fun x9 =>
  some (.next 0 [x9, x4] σ)⟩⟩⟩⟩⟩⟩ ⟨retJ (resEx [(.int .i64 (-1))]) σ⟩⟩
def L51_0 (C : CallP) (I : CallI) (n : Nat) (x0 x1 x2 : DVal) (vs : List DVal) (σ : Sto) : Option Out := B51_0 C I n x0 x1 x2 (vs.getD 0 .undef) (vs.getD 1 .undef) σ
def D51 (C : CallP) (I : CallI) (n : Nat) (x0 x1 : DVal) (σ : Sto) : Option Out :=
  @bnd (lenSlSem [x0]) ⟨fun x2 =>
  iterJ 0 (L51_0 C I n x0 x1 x2) n [(.int .i64 0), (.int .i64 0)] σ⟩
def D52 (C : CallP) (I : CallI) (n : Nat) (x0 x1 : DVal) (σ : Sto) : Option Out :=
  @bnd (jboxSem [x0]) ⟨fun x2 =>
  @bnd (fldSem 0 none [x2]) ⟨fun x3 =>
  @bns (ldOSem σ none [x1]) ⟨fun x4 σ =>
  @bnd (bin2Sem .eql [x3, x4]) ⟨fun x5 =>
  retJ (resEx [x5]) σ⟩⟩⟩⟩
def B53_0 (C : CallP) (I : CallI) (n : Nat) (x0 x1 x2 : DVal) (x3 x4 : DVal) (σ : Sto) : Option Out :=
  @bnd (bin2Sem .lss [x3, x2]) ⟨fun x5 =>
  @itK x5 ⟨@bnd (idxSSem 9 [x0, x3]) ⟨fun x6 =>
  @bnd (ldESem (some 9) [x6]) ⟨fun x7 =>
  @bns (callVSem I σ [x1, x7]) ⟨fun x8 σ =>
  @itK x8 ⟨retJ (resEx [x3]) σ⟩ ⟨@bnd (bin2Sem .add [x3, (.int .i64 1)]) ⟨fun x9 =>
  some (.next 0 [x9, x4] σ)⟩⟩⟩⟩⟩⟩ ⟨retJ (resEx [(.int .i64 (-1))]) σ⟩⟩
def L53_0 (C : CallP) (I : CallI) (n : Nat) (x0 x1 x2 : DVal) (vs : List DVal) (σ : Sto) : Option Out := B53_0 C I n x0 x1 x2 (vs.getD 0 .undef) (vs.getD 1 .undef) σ
def D53 (C : CallP) (I : CallI) (n : Nat) (x0 x1 : DVal) (σ : Sto) : Option Out :=
  @bnd (lenSlSem [x0]) ⟨fun x2 =>
  iterJ 0 (L53_0 C I n x0 x1 x2) n [(.int .i64 0), (.int .i64 0)] σ⟩
def D54 (C : CallP) (I : CallI) (n : Nat) (x0 x1 : DVal) (σ : Sto) : Option Out :=
  @bnd (jboxSem [x0]) ⟨fun x2 =>
  @bnd (fldSem 0 none [x2]) ⟨fun x3 =>
  @bns (ldOSem σ none [x1]) ⟨fun x4 σ =>
  @bnd (bin2Sem .eql [x3, x4]) ⟨fun x5 =>
  retJ (resEx [x5]) σ⟩⟩⟩⟩
def B55_0 (C : CallP) (I : CallI) (n : Nat) (x0 x1 x2 : DVal) (x3 x4 : DVal) (σ : Sto) : Option Out :=
  @bnd (bin2Sem .lss [x3, x2]) ⟨fun x5 =>
  @itK x5 ⟨@bnd (idxSSem 3 [x0, x3]) ⟨fun x6 =>
  @bnd (ldESem (some 3) [x6]) ⟨fun x7 =>
  @bns (callVSem I σ [x1, x7]) ⟨fun x8 σ =>
  @itK x8 ⟨retJ (resEx [x3]) σ⟩ ⟨@bnd (bin2Sem .add [x3, (.int .i64 1)]) ⟨fun x9 =>
  some (.next 0 [x9, x4] σ)⟩⟩⟩⟩⟩⟩ ⟨retJ (resEx [(.int .i64 (-1))]) σ⟩⟩
def L55_0 (C : CallP) (I : CallI) (n : Nat) (x0 x1 x2 : DVal) (vs : List DVal) (σ : Sto) : Option Out := B55_0 C I n x0 x1 x2 (vs.getD 0 .undef) (vs.getD 1 .undef) σ
def D55 (C : CallP) (I : CallI) (n : Nat) (x0 x1 : DVal) (σ : Sto) : Option Out :=
  @bnd (lenSlSem [x0]) ⟨fun x2 =>
  iterJ 0 (L55_0 C I n x0 x1 x2) n [(.int .i64 0), (.int .i64 0)] σ⟩
def D56 (C : CallP) (I : CallI) (n : Nat) (x0 x1 : DVal) (σ : Sto) : Option Out :=
  @bnd (jboxSem [x0]) ⟨fun x2 =>
  @bnd (fldSem 0 none [x2]) ⟨fun x3 =>
  @bns (ldOSem σ none [x1]) ⟨fun x4 σ =>
  @bnd (bin2Sem .eql [x3, x4]) ⟨fun x5 =>
  @bnd (@wnP x5 false ⟨fldSem 1 none [x2]⟩) ⟨fun x6 =>
  @bns (@wnS x5 false σ ⟨ldOSem σ none [x1]⟩) ⟨fun x7 σ =>
  @bnd (@wnP x5 false ⟨callPS C 57 [x6, x7]⟩) ⟨fun x8 =>
  @bnd (pickSem [x5, (.bool true), x8]) ⟨fun x9 =>
  retJ (resEx [x9]) σ⟩⟩⟩⟩⟩⟩⟩⟩
def D57 (C : CallP) (I : CallI) (n : Nat) (x0 x1 : DVal) (σ : Sto) : Option Out :=
  @bnd (callPS C 58 [x0, x1]) ⟨fun x2 =>
  @bnd (bin2Sem .geq [x2, (.int .i64 0)]) ⟨fun x3 =>
  retJ (resEx [x3]) σ⟩⟩
def B58_0 (C : CallP) (I : CallI) (n : Nat) (x0 x1 x2 : DVal) (x3 x4 : DVal) (σ : Sto) : Option Out :=
  @bnd (bin2Sem .lss [x3, x2]) ⟨fun x5 =>
  @itK x5 ⟨@bnd (idxSSem 1 [x0, x3]) ⟨fun x6 =>
  @bnd (ldESem none [x6]) ⟨fun x7 =>
  @bnd (bin2Sem .eql [x1, x7]) ⟨fun x8 =>
  @itK x8 ⟨retJ (resEx [x3]) σ⟩ ⟨@bnd (bin2Sem .add [x3, (.int .i64 1)]) ⟨fun x9 =>
  some (.next 0 [x9, x4] σ)⟩⟩⟩⟩⟩⟩ ⟨retJ (resEx [(.int .i64 (-1))]) σ⟩⟩
def L58_0 (C : CallP) (I : CallI) (n : Nat) (x0 x1 x2 : DVal) (vs : List DVal) (σ : Sto) : Option Out := B58_0 C I n x0 x1 x2 (vs.getD 0 .undef) (vs.getD 1 .undef) σ
def D58 (C : CallP) (I : CallI) (n : Nat) (x0 x1 : DVal) (σ : Sto) : Option Out :=
  @bnd (lenSlSem [x0]) ⟨fun x2 =>
  iterJ 0 (L58_0 C I n x0 x1 x2) n [(.int .i64 0), (.int .i64 0)] σ⟩
def D59 (C : CallP) (I : CallI) (n : Nat) (x0 x1 : DVal) (σ : Sto) : Option Out :=
  @bnd (callPS C 62 [x0, (.int .i64 16)]) ⟨fun x2 =>
  @bnd (@wnP x2 true ⟨mvSem [x1]⟩) ⟨fun x3 =>
  @bnd (@wnP x2 true ⟨callPS C 62 [x3, (.int .i64 64)]⟩) ⟨fun x4 =>
  @bnd (pickSem [x2, x4, (.bool false)]) ⟨fun x5 =>
  retJ (resEx [x5]) σ⟩⟩⟩⟩
def B60_0 (C : CallP) (I : CallI) (n : Nat) (x0 x2 : DVal) (x9 : DVal) (σ : Sto) : Option Out :=
  @bnd (fldSem 1 none [x9]) ⟨fun x10 =>
  @bnd (bin2Sem .add [x10, (.int .i64 1)]) ⟨fun x11 =>
  @bnd (bin2Sem .lss [x11, (.int .i64 64)]) ⟨fun x12 =>
  @bnd (@wnP x12 true ⟨mvSem [x0]⟩) ⟨fun x13 =>
  @bnd (@wnP x12 true ⟨fldSem 1 none [x9]⟩) ⟨fun x14 =>
  @bnd (@wnP x12 true ⟨bin2Sem .add [x14, (.int .i64 1)]⟩) ⟨fun x15 =>
  @bnd (@wnP x12 true ⟨bin2Sem .shr [x13, x15]⟩) ⟨fun x16 =>
  @bnd (@wnP x12 true ⟨bin2Sem .and [x16, (.int .u64 1)]⟩) ⟨fun x17 =>
  @bnd (@wnP x12 true ⟨bin2Sem .eql [x17, (.int .u64 1)]⟩) ⟨fun x18 =>
  @bnd (pickSem [x12, x18, (.bool false)]) ⟨fun x19 =>
  @itK x19 ⟨@bnd (fldSem 1 none [x9]) ⟨fun x20 =>
  @bnd (bin2Sem .add [x20, (.int .i64 1)]) ⟨fun x21 =>
  @bnd (jwrSem 1 1 [x9, x21]) ⟨fun x22 =>
  some (.next 1 [x22] σ)⟩⟩⟩⟩ ⟨@bnd (fldSem 0 (some 2) [x9]) ⟨fun x20 =>
  @bnd (POp.sem C [x20] (.bslice false 2)) ⟨fun x21 =>
  @bns (app2Sem false 2 σ [x2, x21]) ⟨fun x22 σ =>
  @bnd (fldSem 1 none [x9]) ⟨fun x23 =>
  @bnd (bin2Sem .add [x23, (.int .i64 1)]) ⟨fun x24 =>
  some (.next 0 [x24, x22] σ)⟩⟩⟩⟩⟩⟩⟩⟩⟩⟩⟩⟩⟩⟩⟩⟩
def L60_0 (C : CallP) (I : CallI) (n : Nat) (x0 x2 : DVal) (vs : List DVal) (σ : Sto) : Option Out := B60_0 C I n x0 x2 (vs.getD 0 .undef) σ
def B60_1 (C : CallP) (I : CallI) (n : Nat) (x0 : DVal) (x1 x2 : DVal) (σ : Sto) : Option Out :=
  @bnd (bin2Sem .lss [x1, (.int .i64 64)]) ⟨fun x3 =>
  @itK x3 ⟨@bnd (bin2Sem .shr [x0, x1]) ⟨fun x4 =>
  @bnd (bin2Sem .and [x4, (.int .u64 1)]) ⟨fun x5 =>
  @bnd (bin2Sem .eql [x5, (.int .u64 0)]) ⟨fun x6 =>
  @itK x6 ⟨@bnd (bin2Sem .add [x1, (.int .i64 1)]) ⟨fun x7 =>
  some (.next 0 [x7, x2] σ)⟩⟩ ⟨@bnd (POp.sem C [x1, x1] (.build [(.int .i64 0), (.int .i64 0)] [(0, 1), (1, 1)])) ⟨fun x7 =>
  @bnd (jwrSem 0 2 [(.agg [(.int .i64 0), (.int .i64 0)]), x7]) ⟨fun x8 =>
  iterJ 1 (L60_0 C I n x0 x2) n [x8] σ⟩⟩⟩⟩⟩⟩⟩ ⟨retJ (resEx [x2]) σ⟩⟩
def L60_1 (C : CallP) (I : CallI) (n : Nat) (x0 : DVal) (vs : List DVal) (σ : Sto) : Option Out := B60_1 C I n x0 (vs.getD 0 .undef) (vs.getD 1 .undef) σ
def D60 (C : CallP) (I : CallI) (n : Nat) (x0 : DVal) (σ : Sto) : Option Out :=
  iterJ 0 (L60_1 C I n x0) n [(.int .i64 0), .nils] σ
def B62_0 (C : CallP) (I : CallI) (n : Nat) (x0 x4 : DVal) (x5 x6 : DVal) (σ : Sto) : Option Out :=
  @bnd (bin2Sem .lss [x5, x4]) ⟨fun x7 =>
  @itK x7 ⟨@bnd (idxSSem 1 [x0, x5]) ⟨fun x8 =>
  @bnd (ldESem none [x8]) ⟨fun x9 =>
  @bnd (lenStrSem [x9]) ⟨fun x10 =>
  @bnd (bin2Sem .gtr [x10, (.int .i64 32)]) ⟨fun x11 =>
  @bnd (@wnP x11 false ⟨mvSem [x9]⟩) ⟨fun x12 =>
  @bnd (@wnP x11 false ⟨callPS C 66 [x12]⟩) ⟨fun x13 =>
  @bnd (@wnP x11 false ⟨unSem .not [x13]⟩) ⟨fun x14 =>
  @bnd (pickSem [x11, (.bool true), x14]) ⟨fun x15 =>
  @bnd (@wnP x15 false ⟨mvSem [x0]⟩) ⟨fun x16 =>
  @bnd (@wnP x15 false ⟨mvSem [x5]⟩) ⟨fun x17 =>
  @bnd (@wnP x15 false ⟨slcVSem 1 false true false [x16, x17]⟩) ⟨fun x18 =>
  @bnd (@wnP x15 false ⟨mvSem [x9]⟩) ⟨fun x19 =>
  @bnd (@wnP x15 false ⟨callPS C 57 [x18, x19]⟩) ⟨fun x20 =>
  @bnd (pickSem [x15, (.bool true), x20]) ⟨fun x21 =>
  @itK x21 ⟨retJ (resEx [(.bool false)]) σ⟩ ⟨@bnd (bin2Sem .add [x5, (.int .i64 1)]) ⟨fun x22 =>
  some (.next 0 [x22, x6] σ)⟩⟩⟩⟩⟩⟩⟩⟩⟩⟩⟩⟩⟩⟩⟩⟩⟩ ⟨retJ (resEx [(.bool true)]) σ⟩⟩
def L62_0 (C : CallP) (I : CallI) (n : Nat) (x0 x4 : DVal) (vs : List DVal) (σ : Sto) : Option Out := B62_0 C I n x0 x4 (vs.getD 0 .undef) (vs.getD 1 .undef) σ
def D62 (C : CallP) (I : CallI) (n : Nat) (x0 x1 : DVal) (σ : Sto) : Option Out :=
  @bnd (lenSlSem [x0]) ⟨fun x2 =>
  @bnd (bin2Sem .gtr [x2, x1]) ⟨fun x3 =>
  @itK x3 ⟨retJ (resEx [(.bool false)]) σ⟩ ⟨@bnd (lenSlSem [x0]) ⟨fun x4 =>
  iterJ 0 (L62_0 C I n x0 x4) n [(.int .i64 0), (.bool false)] σ⟩⟩⟩⟩
def B66_0 (C : CallP) (I : CallI) (n : Nat) (x0 x1 : DVal) (x2 x3 : DVal) (σ : Sto) : Option Out :=
  @bnd (bin2Sem .lss [x2, x1]) ⟨fun x4 =>
  @itK x4 ⟨@bnd (idxStrSem [x0, x2]) ⟨fun x5 =>
  @bnd (callPS C 69 [x5]) ⟨fun x6 =>
  @bnd (unSem .not [x6]) ⟨fun x7 =>
  @itK x7 ⟨retJ (resEx [(.bool false)]) σ⟩ ⟨@bnd (bin2Sem .add [x2, (.int .i64 1)]) ⟨fun x8 =>
  some (.next 0 [x8, x3] σ)⟩⟩⟩⟩⟩⟩ ⟨@bnd (bin2Sem .neq [x0, (.str [])]) ⟨fun x5 =>
  retJ (resEx [x5]) σ⟩⟩⟩
def L66_0 (C : CallP) (I : CallI) (n : Nat) (x0 x1 : DVal) (vs : List DVal) (σ : Sto) : Option Out := B66_0 C I n x0 x1 (vs.getD 0 .undef) (vs.getD 1 .undef) σ
def D66 (C : CallP) (I : CallI) (n : Nat) (x0 : DVal) (σ : Sto) : Option Out :=
  @bnd (lenStrSem [x0]) ⟨fun x1 =>
  iterJ 0 (L66_0 C I n x0 x1) n [(.int .i64 0), (.bool false)] σ⟩
def D69 (C : CallP) (I : CallI) (n : Nat) (x0 : DVal) (σ : Sto) : Option Out :=
  @bnd (bin2Sem .geq [x0, (.int .u8 97)]) ⟨fun x1 =>
  @bnd (@wnP x1 true ⟨mvSem [x0]⟩) ⟨fun x2 =>
  @bnd (@wnP x1 true ⟨bin2Sem .leq [x2, (.int .u8 122)]⟩) ⟨fun x3 =>
  @bnd (pickSem [x1, x3, (.bool false)]) ⟨fun x4 =>
  @bnd (@wnP x4 false ⟨mvSem [x0]⟩) ⟨fun x5 =>
  @bnd (@wnP x4 false ⟨bin2Sem .geq [x5, (.int .u8 65)]⟩) ⟨fun x6 =>
  @bnd (@wnP x4 false ⟨mvSem [x6]⟩) ⟨fun x7 =>
  @bnd (@wnP x7 true ⟨mvSem [x0]⟩) ⟨fun x8 =>
  @bnd (@wnP x7 true ⟨bin2Sem .leq [x8, (.int .u8 90)]⟩) ⟨fun x9 =>
  @bnd (@wnP x4 false ⟨pickSem [x7, x9, (.bool false)]⟩) ⟨fun x10 =>
  @bnd (pickSem [x4, (.bool true), x10]) ⟨fun x11 =>
  @bnd (@wnP x11 false ⟨mvSem [x0]⟩) ⟨fun x12 =>
  @bnd (@wnP x11 false ⟨bin2Sem .geq [x12, (.int .u8 48)]⟩) ⟨fun x13 =>
  @bnd (@wnP x11 false ⟨mvSem [x13]⟩) ⟨fun x14 =>
  @bnd (@wnP x14 true ⟨mvSem [x0]⟩) ⟨fun x15 =>
  @bnd (@wnP x14 true ⟨bin2Sem .leq [x15, (.int .u8 57)]⟩) ⟨fun x16 =>
  @bnd (@wnP x11 false ⟨pickSem [x14, x16, (.bool false)]⟩) ⟨fun x17 =>
  @bnd (pickSem [x11, (.bool true), x17]) ⟨fun x18 =>
  @bnd (@wnP x18 false ⟨mvSem [x0]⟩) ⟨fun x19 =>
  @bnd (@wnP x18 false ⟨bin2Sem .eql [x19, (.int .u8 95)]⟩) ⟨fun x20 =>
  @bnd (pickSem [x18, (.bool true), x20]) ⟨fun x21 =>
  retJ (resEx [x21]) σ⟩⟩⟩⟩⟩⟩⟩⟩⟩⟩⟩⟩⟩⟩⟩⟩⟩⟩⟩⟩⟩
end Go.Proofs.Ytdibpeknpmhknaa
