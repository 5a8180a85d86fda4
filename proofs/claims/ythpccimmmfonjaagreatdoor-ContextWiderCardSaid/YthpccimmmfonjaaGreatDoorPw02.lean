/- Texts of this proof, part 2: see the card for what is proved. -/
import Derived.Test.YthpccimmmfonjaaGreatDoorPw01
namespace Go.Proofs.YthpccimmmfonjaaGreatDoor
set_option linter.unusedVariables false
set_option linter.unusedSimpArgs false
open Go
theorem lookup_mem {α : Type} {k : Nat} {v : α} : ∀ {l : List (Nat × α)}, l.lookup k = some v → (k, v) ∈ l
  | [], h => by simp at h
  | (a, b) :: l, h => by
    rw [List.lookup_cons] at h
    split at h
    · rename_i e
      have e : k = a := by simpa using e
      simp only [Option.some.injEq] at h
      subst h e
      exact List.mem_cons_self
    · exact List.mem_cons_of_mem _ (lookup_mem h)
def Gok (n : Nat) : Gd → Prop
  | none => True
  | some (i, _) => i < n
def SVok (ρ : List DVal) (L : Nat → Nat × DVal) (x : DVal) : SV → Prop
  | .ex e => e.ok ρ.length = true ∧ x = e.val ρ
  | .ptr r off g => Gok ρ.length g ∧ (gB ρ g = true → x = .loc r (L r).1 off)
structure Corr (s : SS) (ρ : List DVal) (st : St) : Prop where
  len : ρ.length = s.nv
  env : ∀ t sv, (t, sv) ∈ s.env → SVok ρ st.loc (st.env t) sv
  loc : ∀ r e g, (r, (e, g)) ∈ s.loc → e.ok ρ.length = true ∧ Gok ρ.length g ∧ (gB ρ g = true → (st.loc r).2 = e.val ρ)
theorem ok_append {ρ vs : List DVal} {e : Ex} (h : e.ok ρ.length = true) : e.ok (ρ ++ vs).length = true ∧ e.val (ρ ++ vs) = e.val ρ := by
  cases e with
  | k d => exact ⟨rfl, rfl⟩
  | v i =>
    have hi : i < ρ.length := by simpa [Ex.ok, Nat.blt_eq] using h
    refine ⟨by simp [Ex.ok, Nat.blt_eq]; omega, ?_⟩
    simp [Ex.val, List.getD_eq_getElem?_getD, List.getElem?_append_left hi]
theorem gok_append {ρ vs : List DVal} {g : Gd} (h : Gok ρ.length g) : Gok (ρ ++ vs).length g ∧ gB (ρ ++ vs) g = gB ρ g := by
  cases g with
  | none => exact ⟨trivial, rfl⟩
  | some p =>
    obtain ⟨i, b⟩ := p
    simp only [Gok] at h
    refine ⟨by simp only [Gok, List.length_append]; omega, ?_⟩
    simp [gB, List.getD_eq_getElem?_getD, List.getElem?_append_left h]
theorem SVok.append {ρ vs : List DVal} {L : Nat → Nat × DVal} {x : DVal} {sv : SV} (h : SVok ρ L x sv) : SVok (ρ ++ vs) L x sv := by
  cases sv with
  | ex e => simp only [SVok] at h ⊢; exact ⟨(ok_append h.1).1, by rw [(ok_append h.1).2]; exact h.2⟩
  | ptr r off g => simp only [SVok] at h ⊢; exact ⟨(gok_append h.1).1, by rw [(gok_append h.1).2]; exact h.2⟩
theorem Corr.more {s : SS} {ρ vs : List DVal} {st : St} (h : Corr s ρ st) {k : Nat} (hk : vs.length = k) : Corr (s.more k) (ρ ++ vs) st :=
  ⟨by simp [SS.more, h.len, hk], fun t sv hm => (h.env t sv hm).append, fun r e g hm => by
    obtain ⟨h1, h2, h3⟩ := h.loc r e g hm
    exact ⟨(ok_append h1).1, (gok_append h2).1, by rw [(gok_append h2).2, (ok_append h1).2]; exact h3⟩⟩
theorem Corr.put {s : SS} {ρ : List DVal} {st : St} (h : Corr s ρ st) {d : Option Nat} {x : DVal} {sv : SV} (hx : SVok ρ st.loc x sv) : Corr (s.put d sv) ρ (st.put d x) := by
  cases d with
  | none => exact h
  | some t =>
    refine ⟨h.len, fun t' sv' hm => ?_, h.loc⟩
    simp only [SS.put, List.mem_cons, List.mem_filter, Prod.mk.injEq] at hm
    rcases hm with ⟨rfl, rfl⟩ | ⟨hm, hne⟩
    · simpa [St.put, upd] using hx
    · have : t' ≠ t := by simpa using hne
      simpa [St.put, upd, this] using h.env t' sv' hm
theorem put_sto (st : St) (d : Option Nat) (x : DVal) : (st.put d x).sto = st.sto := by cases d <;> rfl
theorem put_loc (st : St) (d : Option Nat) (x : DVal) : (st.put d x).loc = st.loc := by cases d <;> rfl
theorem Corr.rebox {s : SS} {ρ : List DVal} {st : St} (h : Corr s ρ st) {r ep : Nat} {c : DVal} : Corr ({ s.drop r with loc := s.loc.filter fun p => p.1 != r }) ρ { st with loc := upd st.loc r (ep, c) } := by
  refine ⟨h.len, fun t sv hm => ?_, fun q e g hm => ?_⟩
  · simp only [SS.drop, List.mem_filter] at hm
    have := h.env t sv hm.1
    cases sv with
    | ex e => exact this
    | ptr q off g =>
      have hq : q ≠ r := by simpa [SV.notTo] using hm.2
      simpa [SVok, upd, hq] using this
  · simp only [List.mem_filter] at hm
    have hq : q ≠ r := by simpa using hm.2
    simpa [upd, hq] using h.loc q e g hm.1
theorem Corr.setc {s : SS} {ρ : List DVal} {st : St} (h : Corr s ρ st) {r : Nat} {c : DVal} : Corr ({ s with loc := s.loc.filter fun p => p.1 != r }) ρ { st with loc := upd st.loc r ((st.loc r).1, c) } := by
  refine ⟨h.len, fun t sv hm => ?_, fun q e g hm => ?_⟩
  · have := h.env t sv hm
    cases sv with
    | ex e => exact this
    | ptr q off g =>
      by_cases hq : q = r
      · subst hq; simpa [SVok, upd] using this
      · simpa [SVok, upd, hq] using this
  · simp only [List.mem_filter] at hm
    have hq : q ≠ r := by simpa using hm.2
    simpa [upd, hq] using h.loc q e g hm.1
theorem Corr.addLoc {s : SS} {ρ : List DVal} {st : St} {r : Nat} {e : Ex} {g : Gd} (h : Corr { s with loc := s.loc.filter fun p => p.1 != r } ρ st) (he : e.ok ρ.length = true) (hg : Gok ρ.length g) (hv : gB ρ g = true → (st.loc r).2 = e.val ρ) :
    Corr (s.setLoc r e g) ρ st := by
  refine ⟨h.len, h.env, fun q e' g' hm => ?_⟩
  simp only [SS.setLoc, List.mem_cons, Prod.mk.injEq] at hm
  rcases hm with ⟨rfl, rfl, rfl⟩ | hm
  · exact ⟨he, hg, hv⟩
  · exact h.loc q e' g' hm
theorem Corr.sub {s s' : SS} {ρ : List DVal} {st : St} (h : Corr s ρ st) (h1 : ∀ p, p ∈ s'.env → p ∈ s.env) (h2 : ∀ p, p ∈ s'.loc → p ∈ s.loc) (h3 : s'.nv = s.nv) : Corr s' ρ st :=
  ⟨by rw [h3]; exact h.len, fun t sv hm => h.env t sv (h1 _ hm), fun r e g hm => h.loc r e g (h2 _ hm)⟩
theorem Corr.dep {s : SS} {ρ : List DVal} {st : St} (h : Corr s ρ st) (d : Nat) : Corr { s with dep := d } ρ st := ⟨h.len, h.env, h.loc⟩
theorem Corr.sto {s : SS} {ρ : List DVal} {st : St} (h : Corr s ρ st) (σ : Sto) : Corr s ρ { st with sto := σ } := ⟨h.len, h.env, h.loc⟩
theorem Corr.ex {s : SS} {ρ : List DVal} {st : St} (h : Corr s ρ st) {x : Opd} {e : Ex} (hx : s.ex x = some e) : e.ok ρ.length = true ∧ x.val st.env = e.val ρ := by
  cases x with
  | c v => simp only [SS.ex, Option.some.injEq] at hx; subst hx; exact ⟨rfl, rfl⟩
  | t n =>
    simp only [SS.ex] at hx
    split at hx
    · rename_i e' hs
      simp only [Option.some.injEq] at hx
      subst hx
      have := h.env n _ (lookup_mem hs)
      simpa [SVok, Opd.val] using this
    · cases hx
theorem Corr.exs {s : SS} {ρ : List DVal} {st : St} (h : Corr s ρ st) : ∀ {xs : List Opd} {es : List Ex}, s.exs xs = some es → xs.map (Opd.val st.env) = es.map (Ex.val ρ)
  | [], es, hx => by simp only [SS.exs, Option.some.injEq] at hx; subst hx; rfl
  | x :: xs, es, hx => by
    simp only [SS.exs] at hx
    split at hx
    · rename_i e es' h1 h2
      simp only [Option.some.injEq] at hx
      subst hx
      simp only [List.map_cons, (h.ex h1).2, h.exs h2]
    · cases hx
theorem okG_holds {ρ : List DVal} {g G : Gd} (h : okG g G = true) (hG : gB ρ G = true) : gB ρ g = true := by
  cases g with
  | none => rfl
  | some p =>
    obtain ⟨i, b⟩ := p
    cases G with
    | none => simp [okG] at h
    | some q =>
      obtain ⟨j, c⟩ := q
      simp only [okG, Bool.and_eq_true, beq_iff_eq] at h
      have h1 : i = j := Nat.eq_of_beq_eq_true h.1
      rw [h1, h.2]; exact hG
theorem Corr.ptr {s : SS} {ρ : List DVal} {st : St} (h : Corr s ρ st) {x : Opd} {G : Gd} {r off : Nat} (hx : s.ptr G x = some (r, off)) (hG : gB ρ G = true) : x.val st.env = .loc r (st.loc r).1 off := by
  cases x with
  | c v => simp [SS.ptr] at hx
  | t n =>
    simp only [SS.ptr] at hx
    split at hx
    · rename_i r' off' g hs
      split at hx
      · rename_i hok
        simp only [Option.some.injEq, Prod.mk.injEq] at hx
        obtain ⟨rfl, rfl⟩ := hx
        exact (h.env n _ (lookup_mem hs)).2 (okG_holds hok hG)
      · cases hx
    · cases hx
theorem Corr.cont {s : SS} {ρ : List DVal} {st : St} (h : Corr s ρ st) {G : Gd} {r : Nat} {e : Ex} (hx : s.cont G r = some e) : e.ok ρ.length = true ∧ (gB ρ G = true → (st.loc r).2 = e.val ρ) := by
  simp only [SS.cont] at hx
  split at hx
  · rename_i e' g hs
    split at hx
    · rename_i hok
      simp only [Option.some.injEq] at hx
      subst hx
      obtain ⟨h1, h2, h3⟩ := h.loc r _ _ (lookup_mem hs)
      exact ⟨h1, fun hG => h3 (okG_holds hok hG)⟩
    · cases hx
  · cases hx
def gS (st : St) : Option (Nat × Bool) → Bool
  | none => true
  | some (t, b) => (st.env t).isB b
theorem Corr.guard {s : SS} {ρ : List DVal} {st : St} (h : Corr s ρ st) {g : Option (Nat × Bool)} {G : Gd} (hx : s.guard g = some G) : Gok ρ.length G ∧ gS st g = gB ρ G := by
  cases g with
  | none => simp only [SS.guard, Option.some.injEq] at hx; subst hx; exact ⟨trivial, rfl⟩
  | some p =>
    obtain ⟨t, b⟩ := p
    simp only [SS.guard] at hx
    split at hx
    · rename_i i hs
      simp only [Option.some.injEq] at hx
      subst hx
      obtain ⟨h1, h2⟩ := h.env t _ (lookup_mem hs)
      refine ⟨by simpa [Ex.ok, Nat.blt_eq, Gok] using h1, ?_⟩
      simp only [gB, gS, h2, Ex.val]
    · cases hx
section
variable {cp : Nat → List DVal → Option DVal} {ci : Nat → List DVal → Sto → Option (DVal × Sto)}
def runIns (cp : Nat → List DVal → Option DVal) (ci : Nat → List DVal → Sto → Option (DVal × Sto)) : List JIns → List DVal → Sto → Option (List DVal × Sto)
  | [], ρ, σ => some (ρ, σ)
  | i :: is, ρ, σ => match i.op with
    | .p o => match guarded ρ i.g (o.sem cp (i.xs.map (Ex.val ρ))) with
      | some v => runIns cp ci is (ρ ++ [v]) σ
      | none => none
    | .s o => match guardedS ρ σ i.g (o.sem cp ci σ (i.xs.map (Ex.val ρ))) with
      | some (v, σ') => runIns cp ci is (ρ ++ [v]) σ'
      | none => none
theorem runIns_append : ∀ (is js : List JIns) (ρ : List DVal) (σ : Sto), runIns cp ci (is ++ js) ρ σ = (runIns cp ci is ρ σ).bind fun x => runIns cp ci js x.1 x.2
  | [], js, ρ, σ => rfl
  | i :: is, js, ρ, σ => by
    simp only [List.cons_append, runIns]
    split
    · split
      · rw [runIns_append is js]
      · rfl
    · split
      · rw [runIns_append is js]
      · rfl
theorem den_insTree {n : Nat} (t : T) : ∀ (is : List JIns) (ρ : List DVal) (σ : Sto), den cp ci n (insTree is t) ρ σ = (runIns cp ci is ρ σ).bind fun x => den cp ci n t x.1 x.2
  | [], ρ, σ => rfl
  | i :: is, ρ, σ => by
    obtain ⟨op, xs, g⟩ := i
    cases op with
    | p o =>
      simp only [insTree, JIns.tree, den, runIns, bndP]
      split
      · rename_i v e; rw [den_insTree t is]; simp only [e]
      · rename_i e; simp only [e]; rfl
    | s o =>
      simp only [insTree, JIns.tree, den, runIns, bndS]
      split
      · rename_i v σ' e; rw [den_insTree t is]; simp only [e]
      · rename_i e; simp only [e]; rfl
theorem guarded_eq {ρ : List DVal} {g : Gd} {x : Option DVal} : guarded ρ g x = if gB ρ g then x else some .undef := by
  cases g with
  | none => rfl
  | some p => rfl
theorem guardedS_eq {ρ : List DVal} {σ : Sto} {g : Gd} {x : Option (DVal × Sto)} : guardedS ρ σ g x = if gB ρ g then x else some (.undef, σ) := by
  cases g with
  | none => rfl
  | some p => rfl
theorem runIns_p {o : JOp} {es : List Ex} {G : Gd} {ρ ρ' : List DVal} {σ σ' : Sto} (h : runIns cp ci [⟨.p o, es, G⟩] ρ σ = some (ρ', σ')) :
    ∃ v, (if gB ρ G then o.sem cp (es.map (Ex.val ρ)) else some .undef) = some v ∧ ρ' = ρ ++ [v] ∧ σ' = σ := by
  simp only [runIns, guarded_eq] at h
  split at h
  · rename_i v e
    simp only [Option.some.injEq, Prod.mk.injEq] at h
    exact ⟨v, e, h.1.symm, h.2.symm⟩
  · cases h
theorem step_eq {s : SS} {ρ : List DVal} {st : St} (h : Corr s ρ st) {o : IOper} {G : Gd} (hg : s.guard o.guard = some G) :
    stepOp cp ci o st = if gB ρ G then execOp' cp ci o.dst o.op o.xs st else some (st.put o.dst .undef) := by
  have := (h.guard hg).2
  unfold stepOp
  split
  · rename_i e; rw [e] at this; simp only [gS] at this; rw [← this]; simp
  · rename_i g b e; rw [e] at this; simp only [gS] at this; rw [← this]
theorem v_last {ρ : List DVal} {v : DVal} : Ex.val (ρ ++ [v]) (.v ρ.length) = v := by simp [Ex.val]
theorem v_ok {ρ : List DVal} {v : DVal} : Ex.ok (ρ ++ [v]).length (.v ρ.length) = true := by simp [Ex.ok, Nat.blt_eq]
theorem Corr.bind {s : SS} {ρ : List DVal} {st : St} (h : Corr s ρ st) (d : Option Nat) (v : DVal) : Corr ((s.more 1).put d (.ex (.v s.nv))) (ρ ++ [v]) (st.put d v) := by
  refine (h.more (vs := [v]) rfl).put ?_
  rw [← h.len]
  exact ⟨v_ok, v_last.symm⟩
theorem mv_sem {st : St} {x : Opd} {r ep off n : Nat} {o : POp} (ho : isMv o = some n) (hx : x.val st.env = .loc r ep off) : o.sem cp ([x].map (Opd.val st.env)) = some (.loc r ep (off + n)) := by
  unfold isMv at ho
  split at ho <;> simp only [Option.some.injEq, reduceCtorEq] at ho
  · subst ho; simp [POp.sem, mvSem, hx]
  · subst ho; simp [POp.sem, nilchkSem, hx]
  · subst ho; simp [POp.sem, offSem, DVal.shift, hx]
theorem symbP_sound {s s' : SS} {G : Gd} {dst : Option Nat} {o : POp} {xs : List Opd} {is : List JIns} {ρ ρ' : List DVal} {st : St} {σ' : Sto} (hs : symbP s G dst o xs = some (is, s')) (h : Corr s ρ st) (hG : Gok ρ.length G)
    (hr : runIns cp ci is ρ st.sto = some (ρ', σ')) : ∃ st', (if gB ρ G then execOp' cp ci dst (.p o) xs st else some (st.put dst .undef)) = some st' ∧ st'.sto = σ' ∧ Corr s' ρ' st' := by
  unfold symbP at hs
  split at hs
  · rename_i r off hp
    simp only [Option.some.injEq, Prod.mk.injEq] at hs
    obtain ⟨rfl, rfl⟩ := hs
    simp only [runIns, Option.some.injEq, Prod.mk.injEq] at hr
    obtain ⟨rfl, rfl⟩ := hr
    split at hp
    · rename_i n x hm
      simp only [Option.map_eq_some_iff, Prod.mk.injEq] at hp
      obtain ⟨⟨r', off'⟩, hp, rfl, rfl⟩ := hp
      cases hb : gB ρ G with
      | true =>
        have hv := h.ptr hp hb
        refine ⟨st.put dst (.loc r' (st.loc r').1 (off' + n)), ?_, put_sto .., h.put ⟨hG, fun _ => rfl⟩⟩
        simp only [if_true, execOp', mv_sem (cp := cp) hm hv, Option.map_some]
      | false => exact ⟨st.put dst .undef, rfl, put_sto .., h.put ⟨hG, fun e => by rw [hb] at e; cases e⟩⟩
    · cases hp
  · split at hs
    · rename_i es hes
      have hval := h.exs hes
      split at hs
      · rename_i e _
        simp only [Option.some.injEq, Prod.mk.injEq] at hs
        obtain ⟨rfl, rfl⟩ := hs
        simp only [runIns, Option.some.injEq, Prod.mk.injEq] at hr
        obtain ⟨rfl, rfl⟩ := hr
        cases xs with
        | nil => simp [SS.exs] at hes
        | cons x xs =>
          cases xs with
          | cons y ys => simp only [SS.exs] at hes; split at hes <;> simp at hes; rename_i h2; split at h2 <;> simp at h2; simp [← h2] at hes
          | nil =>
            have hx : s.ex x = some e := by
              simp only [SS.exs] at hes
              split at hes
              · rename_i e' es' h1 h2
                simp only [Option.some.injEq, List.cons.injEq] at hes h2
                rw [h1, hes.1]
              · cases hes
            have := h.ex hx
            refine ⟨st.put dst (e.val ρ), ?_, put_sto .., h.put ⟨this.1, rfl⟩⟩
            simp [gB, execOp', POp.sem, mvSem, this.2]
      · simp only [Option.some.injEq, Prod.mk.injEq] at hs
        obtain ⟨rfl, rfl⟩ := hs
        obtain ⟨v, hv, rfl, rfl⟩ := runIns_p hr
        refine ⟨st.put dst v, ?_, put_sto .., h.bind dst v⟩
        cases hb : gB ρ G with
        | true => rw [hb] at hv; simp only [if_true, JOp.sem] at hv; simp only [if_true, execOp', hval, hv, Option.map_some]
        | false => rw [hb] at hv; simp at hv; subst hv; simp
    · cases hs
theorem rebox_corr {s : SS} {ρ : List DVal} {st : St} (h : Corr s ρ st) {r : Nat} {dst : Option Nat} {G : Gd} (hG : Gok ρ.length G) {c : DVal} {e : Ex} (he : e.ok ρ.length = true) (hc : gB ρ G = true → c = e.val ρ) :
    (gB ρ G = true → Corr (((s.drop r).put dst (.ptr r 0 G)).setLoc r e G) ρ ({ st with loc := upd st.loc r ((st.loc r).1 + 1, c) }.put dst (.loc r ((st.loc r).1 + 1) 0))) ∧
    (gB ρ G = false → Corr (((s.drop r).put dst (.ptr r 0 G)).setLoc r e G) ρ (st.put dst .undef)) := by
  constructor
  · intro hb
    refine Corr.addLoc ?_ he hG fun _ => ?_
    · have h1 := (h.rebox (r := r) (ep := (st.loc r).1 + 1) (c := c)).put (d := dst) (x := .loc r ((st.loc r).1 + 1) 0) (sv := .ptr r 0 G) ⟨hG, fun _ => by simp [upd]⟩
      refine h1.sub (fun p hp => ?_) (fun p hp => ?_) ?_
      · cases dst <;> simpa [SS.put, SS.drop] using hp
      · cases dst <;> simpa [SS.put, SS.drop] using hp
      · cases dst <;> rfl
    · rw [put_loc]; simp [upd, hc hb]
  · intro hb
    refine Corr.addLoc ?_ he hG fun e => by rw [hb] at e; cases e
    have h1 := h.put (d := dst) (x := .undef) (sv := .ptr r 0 G) ⟨hG, fun e => by rw [hb] at e; cases e⟩
    refine h1.sub (fun p hp => ?_) (fun p hp => ?_) ?_
    · cases dst with
      | none => simp only [SS.put, SS.drop, List.mem_filter] at hp ⊢; exact hp.1
      | some t =>
        simp only [SS.put, SS.drop, List.mem_cons, List.mem_filter] at hp ⊢
        rcases hp with hp | hp
        · exact .inl hp
        · exact .inr ⟨hp.1.1, hp.2⟩
    · cases dst <;> (simp only [SS.put, SS.drop, List.mem_filter] at hp ⊢; exact hp.1)
    · cases dst <;> rfl
theorem symbL_sound {s s' : SS} {G : Gd} {dst : Option Nat} {r : Nat} {o : LOp} {xs : List Opd} {is : List JIns} {ρ ρ' : List DVal} {st : St} {σ' : Sto} (hs : symbL s G dst r o xs = some (is, s')) (h : Corr s ρ st) (hG : Gok ρ.length G)
    (hr : runIns cp ci is ρ st.sto = some (ρ', σ')) : ∃ st', (if gB ρ G then execOp' cp ci dst (.lw r o) xs st else some (st.put dst .undef)) = some st' ∧ st'.sto = σ' ∧ Corr s' ρ' st' := by
  unfold symbL at hs
  split at hs
  · rename_i x
    simp only [Option.map_eq_some_iff, Prod.mk.injEq] at hs
    obtain ⟨e, he, rfl, rfl⟩ := hs
    obtain ⟨v, hv, rfl, rfl⟩ := runIns_p hr
    have hx := h.ex he
    have hm := h.more (vs := [v]) (k := 1) rfl
    have key := rebox_corr (r := r) (dst := dst) hm (gok_append (vs := [v]) hG).1 (c := v) (e := .v s.nv) (by rw [← h.len]; exact v_ok) (fun _ => by rw [← h.len]; exact v_last.symm)
    rw [(gok_append hG).2] at key
    cases hb : gB ρ G with
    | true =>
      rw [hb] at hv
      simp only [if_true, JOp.sem, List.map_cons, List.map_nil, jboxSem] at hv
      split at hv
      · rename_i hok
        simp only [Option.some.injEq] at hv
        refine ⟨_, ?_, ?_, key.1 hb⟩
        · simp only [if_true, execOp', LOp.sem, List.map_cons, List.map_nil, boxLSem, hx.2, hok, Option.map_some]
          rw [← hv]
        · rw [put_sto]
      · cases hv
    | false => exact ⟨_, rfl, put_sto .., key.2 hb⟩
  · rename_i z
    simp only [Option.some.injEq, Prod.mk.injEq] at hs
    obtain ⟨rfl, rfl⟩ := hs
    simp only [runIns, Option.some.injEq, Prod.mk.injEq] at hr
    obtain ⟨rfl, rfl⟩ := hr
    have key := rebox_corr (r := r) (dst := dst) h hG (c := .agg z) (e := .k (.agg z)) rfl (fun _ => rfl)
    cases hb : gB ρ G with
    | true =>
      refine ⟨_, ?_, ?_, key.1 hb⟩
      · simp only [if_true, execOp', LOp.sem, List.map_nil, allocLSem, Option.map_some]
      · rw [put_sto]
    | false => exact ⟨_, rfl, put_sto .., key.2 hb⟩
  · rename_i x
    simp only [Option.map_eq_some_iff, Prod.mk.injEq] at hs
    obtain ⟨e, he, rfl, rfl⟩ := hs
    obtain ⟨v, hv, rfl, rfl⟩ := runIns_p hr
    have hx := h.ex he
    have hm := h.more (vs := [v]) (k := 1) rfl
    have key := rebox_corr (r := r) (dst := dst) hm (gok_append (vs := [v]) hG).1 (c := v) (e := .v s.nv) (by rw [← h.len]; exact v_ok) (fun _ => by rw [← h.len]; exact v_last.symm)
    rw [(gok_append hG).2] at key
    cases hb : gB ρ G with
    | true =>
      rw [hb] at hv
      simp only [if_true, JOp.sem, List.map_cons, List.map_nil, ← hx.2] at hv
      unfold jrngSem at hv
      split at hv
      · rename_i q hq
        simp only [List.cons.injEq, and_true] at hq
        simp only [Option.some.injEq] at hv
        refine ⟨_, ?_, ?_, key.1 hb⟩
        · simp only [if_true, execOp', LOp.sem, List.map_cons, List.map_nil, rngSem, hq, Option.map_some]
          rw [← hv]
        · rw [put_sto]
      · cases hv
    | false => exact ⟨_, rfl, put_sto .., key.2 hb⟩
  · rename_i n p x
    split at hs
    · rename_i q off e c hp he hc
      split at hs
      · rename_i hq
        subst hq
        simp only [Option.some.injEq, Prod.mk.injEq] at hs
        obtain ⟨rfl, rfl⟩ := hs
        obtain ⟨v, hv, rfl, rfl⟩ := runIns_p hr
        have hx := h.ex he
        have hcv := h.cont hc
        have hundef : SVok (ρ ++ [v]) st.loc .undef (.ex (.k .undef)) := ⟨rfl, rfl⟩
        cases hb : gB ρ G with
        | true =>
          rw [hb] at hv
          have hp' := h.ptr hp hb
          have hc' := hcv.2 hb
          simp only [if_true, JOp.sem, List.map_cons, List.map_nil, ← hx.2, ← hc'] at hv
          unfold jwrSem at hv
          split at hv
          · rename_i cs u hq
            simp only [List.cons.injEq, and_true] at hq
            obtain ⟨hq1, hq2⟩ := hq
            split at hv
            · rename_i hcond
              simp only [Option.map_eq_some_iff] at hv
              obtain ⟨cs', hw, rfl⟩ := hv
              refine ⟨({ st with loc := upd st.loc q ((st.loc q).1, .agg cs') }).put dst .undef, ?_, by rw [put_sto], ?_⟩
              · simp only [if_true, execOp', LOp.sem, List.map_cons, List.map_nil, hp', stLSem, hq2]
                rw [if_pos ⟨trivial, trivial, hcond.1, hcond.2⟩, hq1]
                simp only [hw, Option.map_some]
              · refine Corr.addLoc ?_ ?_ (gok_append hG).1 fun _ => ?_
                · have h1 := ((h.setc (r := q) (c := .agg cs')).more (vs := [DVal.agg cs']) (k := 1) rfl).put (d := dst) (x := .undef) (sv := .ex (.k .undef)) ⟨rfl, rfl⟩
                  refine h1.sub (fun p hp => ?_) (fun p hp => ?_) ?_
                  · cases dst <;> exact hp
                  · cases dst <;> exact hp
                  · cases dst <;> rfl
                · rw [← h.len]; exact v_ok
                · rw [put_loc, ← h.len, v_last]; simp [upd]
            · cases hv
          · cases hv
        | false =>
          refine ⟨_, rfl, put_sto .., ?_⟩
          refine Corr.addLoc ?_ ?_ (gok_append hG).1 fun e => ?_
          · have h1 := (h.more (vs := [v]) (k := 1) rfl).put (d := dst) (x := .undef) (sv := .ex (.k .undef)) ⟨rfl, rfl⟩
            refine h1.sub (fun p hp => ?_) (fun p hp => ?_) ?_
            · cases dst <;> exact hp
            · cases dst <;> (simp only [SS.put, SS.more, List.mem_filter] at hp ⊢; exact hp.1)
            · cases dst <;> rfl
          · rw [← h.len]; exact v_ok
          · rw [(gok_append hG).2, hb] at e; cases e
      · cases hs
    · cases hs
  · rename_i p
    split at hs
    · rename_i q c hp hc
      split at hs
      · rename_i hq
        subst hq
        simp only [Option.some.injEq, Prod.mk.injEq] at hs
        obtain ⟨rfl, rfl⟩ := hs
        have hcv := h.cont hc
        simp only [runIns, guarded_eq, (gok_append hG).2, List.map_cons, List.map_nil, (ok_append hcv.1).2] at hr
        split at hr
        · rename_i v hv
          split at hr
          · rename_i u hu
            simp only [Option.some.injEq, Prod.mk.injEq, List.append_assoc, List.cons_append, List.nil_append] at hr
            obtain ⟨rfl, rfl⟩ := hr
            have e1 : Ex.ok (ρ ++ [v, u]).length (.v s.nv) = true := by simp [Ex.ok, Nat.blt_eq, h.len]
            have e2 : Ex.val (ρ ++ [v, u]) (.v s.nv) = v := by simp [Ex.val, ← h.len, List.getD_eq_getElem?_getD]
            have e3 : Ex.ok (ρ ++ [v, u]).length (.v (s.nv + 1)) = true := by simp [Ex.ok, Nat.blt_eq, h.len]
            have e4 : Ex.val (ρ ++ [v, u]) (.v (s.nv + 1)) = u := by simp [Ex.val, ← h.len, List.getD_eq_getElem?_getD]
            cases hb : gB ρ G with
            | true =>
              rw [hb] at hv hu
              have hp' := h.ptr hp hb
              have hc' := hcv.2 hb
              simp only [if_true, JOp.sem, ← hc'] at hv hu
              have hn : nextSem q (st.loc q) [.loc q (st.loc q).1 0] = some (v, ((st.loc q).1, u)) := by
                unfold jnxSem at hv hu
                split at hv
                · rename_i z pos hz
                  simp only [List.cons.injEq, and_true] at hz
                  rw [hz] at hu
                  simp only at hu
                  simp only [nextSem, true_and, if_true, hz]
                  by_cases hlt : pos < z.length
                  · simp only [hlt, if_true, Option.some.injEq] at hv hu ⊢
                    subst hv hu
                    simp
                  · simp only [hlt, if_false, Option.some.injEq] at hv hu ⊢
                    subst hv hu
                    simp [← hz]
                · cases hv
              refine ⟨({ st with loc := upd st.loc q ((st.loc q).1, u) }).put dst v, ?_, by rw [put_sto], ?_⟩
              · simp only [if_true, execOp', LOp.sem, List.map_cons, List.map_nil, hp', hn, Option.map_some]
              · refine Corr.addLoc ?_ e3 (gok_append hG).1 fun _ => ?_
                · have h1 := ((h.setc (r := q) (c := u)).more (vs := [v, u]) (k := 2) rfl).put (d := dst) (x := v) (sv := .ex (.v s.nv)) ⟨e1, e2.symm⟩
                  refine h1.sub (fun p hp => ?_) (fun p hp => ?_) ?_
                  · cases dst <;> exact hp
                  · cases dst <;> exact hp
                  · cases dst <;> rfl
                · rw [put_loc, e4]; simp [upd]
            | false =>
              rw [hb] at hv hu
              simp at hv hu
              subst hv hu
              refine ⟨_, rfl, put_sto .., ?_⟩
              refine Corr.addLoc ?_ e3 (gok_append hG).1 fun e => ?_
              · have h1 := (h.more (vs := [DVal.undef, DVal.undef]) (k := 2) rfl).put (d := dst) (x := .undef) (sv := .ex (.v s.nv)) ⟨e1, e2.symm⟩
                refine h1.sub (fun p hp => ?_) (fun p hp => ?_) ?_
                · cases dst <;> exact hp
                · cases dst <;> (simp only [SS.put, SS.more, List.mem_filter] at hp ⊢; exact hp.1)
                · cases dst <;> rfl
              · rw [(gok_append hG).2, hb] at e; cases e
          · cases hr
        · cases hr
      · cases hs
    · cases hs
  · cases hs
theorem symbOp_sound {s s' : SS} {o : IOper} {is : List JIns} {ρ ρ' : List DVal} {st : St} {σ' : Sto} (hs : symbOp s o = some (is, s')) (h : Corr s ρ st) (hr : runIns cp ci is ρ st.sto = some (ρ', σ')) :
    ∃ st', stepOp cp ci o st = some st' ∧ st'.sto = σ' ∧ Corr s' ρ' st' := by
  unfold symbOp at hs
  split at hs
  · cases hs
  · rename_i G hg
    have hG := (h.guard hg).1
    rw [step_eq h hg]
    split at hs
    · rename_i q e; rw [e]; exact symbP_sound hs h hG hr
    · rename_i r sz e
      rw [e]
      split at hs
      · rename_i x hxs
        split at hs
        · rename_i q off c hp hc
          split at hs
          · rename_i hq
            subst hq
            simp only [Option.some.injEq, Prod.mk.injEq] at hs
            obtain ⟨rfl, rfl⟩ := hs
            obtain ⟨v, hv, rfl, rfl⟩ := runIns_p hr
            refine ⟨st.put o.dst v, ?_, put_sto .., h.bind o.dst v⟩
            cases hb : gB ρ G with
            | true =>
              rw [hb] at hv
              have hp' := h.ptr hp hb
              have hc' := (h.cont hc).2 hb
              simp only [if_true, JOp.sem, POp.sem, List.map_cons, List.map_nil, ← hc'] at hv
              unfold fldSem at hv
              split at hv
              · rename_i cs hcs
                simp only [List.cons.injEq, and_true] at hcs
                simp only [if_true, execOp', hxs, List.map_cons, List.map_nil, hp', readLoc, true_and, hcs, hv, Option.map_some]
              · cases hv
            | false => rw [hb] at hv; simp at hv; subst hv; simp
          · cases hs
        · cases hs
      · cases hs
    · rename_i r q e; rw [e]; exact symbL_sound hs h hG hr
    · rename_i b q e
      rw [e]
      simp only [Option.map_eq_some_iff, Prod.mk.injEq] at hs
      obtain ⟨es, hes, rfl, rfl⟩ := hs
      have hval := h.exs hes
      simp only [runIns, guardedS_eq] at hr
      split at hr
      · rename_i v σ2 e2
        simp only [Option.some.injEq, Prod.mk.injEq] at hr
        obtain ⟨rfl, rfl⟩ := hr
        cases hb : gB ρ G with
        | true =>
          rw [hb] at e2
          simp only [if_true] at e2
          refine ⟨({ st with sto := σ2 }).put o.dst v, ?_, by rw [put_sto], (h.sto σ2).bind o.dst v⟩
          simp only [if_true, execOp', hval, e2, Option.map_some]
        | false =>
          rw [hb] at e2
          simp at e2
          obtain ⟨rfl, rfl⟩ := e2
          exact ⟨_, rfl, put_sto .., h.bind o.dst .undef⟩
      · cases hr
theorem symbOps_sound : ∀ {ops : List IOper} {s s' : SS} {is : List JIns} {ρ ρ' : List DVal} {st : St} {σ' : Sto}, symbOps ops s = some (is, s') → Corr s ρ st → runIns cp ci is ρ st.sto = some (ρ', σ') →
    ∃ st', runOps cp ci ops st = some st' ∧ st'.sto = σ' ∧ Corr s' ρ' st'
  | [], s, s', is, ρ, ρ', st, σ', hs, h, hr => by
    simp only [symbOps, Option.some.injEq, Prod.mk.injEq] at hs
    obtain ⟨rfl, rfl⟩ := hs
    simp only [runIns, Option.some.injEq, Prod.mk.injEq] at hr
    obtain ⟨rfl, rfl⟩ := hr
    exact ⟨st, rfl, rfl, h⟩
  | o :: os, s, s', is, ρ, ρ', st, σ', hs, h, hr => by
    simp only [symbOps] at hs
    split at hs
    · rename_i is1 s1 h1
      split at hs
      · rename_i is2 s2 h2
        simp only [Option.some.injEq, Prod.mk.injEq] at hs
        obtain ⟨rfl, rfl⟩ := hs
        rw [runIns_append] at hr
        simp only [Option.bind_eq_some_iff] at hr
        obtain ⟨⟨ρ1, σ1⟩, hr1, hr2⟩ := hr
        obtain ⟨st1, a1, rfl, a3⟩ := symbOp_sound h1 h hr1
        obtain ⟨st2, b1, b2, b3⟩ := symbOps_sound h2 a3 hr2
        exact ⟨st2, by simp only [runOps, a1, Option.bind_some, b1], b2, b3⟩
      · cases hs
    · cases hs
end
end Go.Proofs.YthpccimmmfonjaaGreatDoor
namespace Go.Proofs.YthpccimmmfonjaaGreatDoor
set_option linter.unusedVariables false
set_option linter.unusedSimpArgs false
open Go
structure Fr (W WR WB : List Nat) (st st' : St) : Prop where
  env : ∀ t, t ∉ W → st'.env t = st.env t
  loc : ∀ r, r ∉ WR → (st'.loc r).2 = (st.loc r).2
  ep : ∀ r, r ∉ WB → (st'.loc r).1 = (st.loc r).1
theorem Fr.refl (W WR WB : List Nat) (st : St) : Fr W WR WB st st := ⟨fun _ _ => rfl, fun _ _ => rfl, fun _ _ => rfl⟩
theorem Fr.trans {W WR WB : List Nat} {a b c : St} (h : Fr W WR WB a b) (h' : Fr W WR WB b c) : Fr W WR WB a c :=
  ⟨fun t ht => (h'.env t ht).trans (h.env t ht), fun r hr => (h'.loc r hr).trans (h.loc r hr), fun r hr => (h'.ep r hr).trans (h.ep r hr)⟩
theorem Fr.wider {W WR WB W' WR' WB' : List Nat} {a b : St} (h : Fr W WR WB a b) (h1 : ∀ x, x ∈ W → x ∈ W') (h2 : ∀ x, x ∈ WR → x ∈ WR') (h3 : ∀ x, x ∈ WB → x ∈ WB') : Fr W' WR' WB' a b :=
  ⟨fun t ht => h.env t fun hm => ht (h1 t hm), fun r hr => h.loc r fun hm => hr (h2 r hm), fun r hr => h.ep r fun hm => hr (h3 r hm)⟩
def frCode (c : ICode) (st st' : St) : Prop := Fr (c.wr IOper.dst) (c.wr IOper.root) (c.wr IOper.boxed) st st'
section
variable {cp : Nat → List DVal → Option DVal} {ci : Nat → List DVal → Sto → Option (DVal × Sto)} {n : Nat}
theorem put_env {st : St} {d : Option Nat} {x : DVal} {t : Nat} (h : d ≠ some t) : (st.put d x).env t = st.env t := by
  cases d with
  | none => rfl
  | some u =>
    have : t ≠ u := fun e => h (by rw [e])
    simp [St.put, upd, this]
theorem op_frame {o : IOper} {st st' : St} (h : stepOp cp ci o st = some st') : (∀ t, o.dst ≠ some t → st'.env t = st.env t) ∧ (∀ r, o.root ≠ some r → (st'.loc r).2 = (st.loc r).2) ∧ (∀ r, o.boxed ≠ some r → (st'.loc r).1 = (st.loc r).1) := by
  have hput : ∀ (st0 : St) (x : DVal), st0.loc = st.loc → st0.env = st.env → st' = st0.put o.dst x → (∀ t, o.dst ≠ some t → st'.env t = st.env t) ∧ (∀ r, o.root ≠ some r → (st'.loc r).2 = (st.loc r).2) ∧ (∀ r, o.boxed ≠ some r → (st'.loc r).1 = (st.loc r).1) := by
    rintro st0 x h1 h2 rfl
    exact ⟨fun t ht => by rw [put_env ht, h2], fun r _ => by rw [put_loc, h1], fun r _ => by rw [put_loc, h1]⟩
  have hexec : execOp' cp ci o.dst o.op o.xs st = some st' → (∀ t, o.dst ≠ some t → st'.env t = st.env t) ∧ (∀ r, o.root ≠ some r → (st'.loc r).2 = (st.loc r).2) ∧ (∀ r, o.boxed ≠ some r → (st'.loc r).1 = (st.loc r).1) := by
    clear h
    intro h
    obtain ⟨dst, op, xs, g⟩ := o
    simp only at h hput
    unfold execOp' at h
    split at h
    · simp only [Option.map_eq_some_iff] at h
      obtain ⟨x, -, rfl⟩ := h
      exact hput st x rfl rfl rfl
    · simp only [Option.map_eq_some_iff] at h
      obtain ⟨x, -, rfl⟩ := h
      exact hput st x rfl rfl rfl
    · rename_i r q
      simp only [Option.map_eq_some_iff] at h
      obtain ⟨x, hx, rfl⟩ := h
      refine ⟨fun t ht => put_env (st := { st with loc := upd st.loc r x.2 }) ht, fun p hp => ?_, fun p hp => ?_⟩
      · have : p ≠ r := fun e => hp (by simp [IOper.root, e])
        rw [put_loc]; simp [upd, this]
      · by_cases e : p = r
        · subst e
          rw [put_loc]
          simp only [upd, if_true]
          cases q with
          | box => simp [IOper.boxed] at hp
          | alloc z => simp [IOper.boxed] at hp
          | rng => simp [IOper.boxed] at hp
          | st k =>
            simp only [LOp.sem] at hx
            unfold stLSem at hx
            split at hx
            · split at hx
              · split at hx
                · simp only [Option.map_eq_some_iff] at hx
                  obtain ⟨_, -, rfl⟩ := hx
                  rfl
                · cases hx
              · cases hx
            · cases hx
          | next =>
            simp only [LOp.sem] at hx
            unfold nextSem at hx
            split at hx
            · split at hx
              · split at hx
                · split at hx <;> (simp only [Option.some.injEq] at hx; rw [← hx])
                · cases hx
              · cases hx
            · cases hx
        · rw [put_loc]; simp [upd, e]
    · simp only [Option.map_eq_some_iff] at h
      obtain ⟨x, -, rfl⟩ := h
      exact hput { st with sto := x.2 } x.1 rfl rfl rfl
  unfold stepOp at h
  split at h
  · exact hexec h
  · split at h
    · exact hexec h
    · simp only [Option.some.injEq] at h
      exact hput st .undef rfl rfl h.symm
theorem ops_frame : ∀ {ops : List IOper} {st st' : St}, runOps cp ci ops st = some st' → Fr (ops.filterMap IOper.dst) (ops.filterMap IOper.root) (ops.filterMap IOper.boxed) st st'
  | [], st, st', h => by simp only [runOps, Option.some.injEq] at h; subst h; exact Fr.refl ..
  | o :: os, st, st', h => by
    simp only [runOps, Option.bind_eq_some_iff] at h
    obtain ⟨st1, h1, h2⟩ := h
    obtain ⟨a1, a2, a3⟩ := op_frame h1
    have b := ops_frame h2
    have sub : ∀ (f : IOper → Option Nat) x, x ∈ os.filterMap f → x ∈ (o :: os).filterMap f := fun f x hx => by
      simp only [List.mem_filterMap] at hx ⊢
      obtain ⟨y, h1, h2⟩ := hx
      exact ⟨y, List.mem_cons_of_mem _ h1, h2⟩
    have hd : ∀ (f : IOper → Option Nat) x, x ∉ (o :: os).filterMap f → f o ≠ some x := fun f x hx e => hx (by simp only [List.mem_filterMap]; exact ⟨o, List.mem_cons_self, e⟩)
    exact Fr.trans ⟨fun t ht => a1 t (hd _ t ht), fun r hr => a2 r (hd _ r hr), fun r hr => a3 r (hd _ r hr)⟩ (b.wider (sub _) (sub _) (sub _))
theorem code_frame : ∀ (c : ICode) {st st' : St} {e : Exit}, runCode cp ci n c st = some (e, st') → frCode c st st'
  | .skip, st, st', e, h => by simp only [runCode, Option.some.injEq, Prod.mk.injEq] at h; obtain ⟨-, rfl⟩ := h; exact Fr.refl ..
  | .ret, st, st', e, h => by simp only [runCode, Option.some.injEq, Prod.mk.injEq] at h; obtain ⟨-, rfl⟩ := h; exact Fr.refl ..
  | .exit i, st, st', e, h => by simp only [runCode, Option.some.injEq, Prod.mk.injEq] at h; obtain ⟨-, rfl⟩ := h; exact Fr.refl ..
  | .reg ops, st, st', e, h => by
    simp only [runCode, Option.map_eq_some_iff, Prod.mk.injEq] at h
    obtain ⟨s, h1, -, rfl⟩ := h
    exact ops_frame h1
  | .seq a b, st, st', e, h => by
    have wl : ∀ {x y : St}, frCode a x y → frCode (.seq a b) x y := fun h => h.wider (fun x hx => by simp [ICode.wr, hx]) (fun x hx => by simp [ICode.wr, hx]) (fun x hx => by simp [ICode.wr, hx])
    have wr : ∀ {x y : St}, frCode b x y → frCode (.seq a b) x y := fun h => h.wider (fun x hx => by simp [ICode.wr, hx]) (fun x hx => by simp [ICode.wr, hx]) (fun x hx => by simp [ICode.wr, hx])
    simp only [runCode] at h
    split at h
    · rename_i s hs
      exact (wl (code_frame a hs)).trans (wr (code_frame b h))
    · exact wl (code_frame a h)
  | .cond c a b, st, st', e, h => by
    simp only [runCode] at h
    split at h
    · exact (code_frame a h).wider (fun x hx => by simp [ICode.wr, hx]) (fun x hx => by simp [ICode.wr, hx]) (fun x hx => by simp [ICode.wr, hx])
    · exact (code_frame b h).wider (fun x hx => by simp [ICode.wr, hx]) (fun x hx => by simp [ICode.wr, hx]) (fun x hx => by simp [ICode.wr, hx])
    · cases h
  | .block id a, st, st', e, h => by
    simp only [runCode] at h
    split at h
    · rename_i i s hs
      have := code_frame a hs
      split at h <;> (simp only [Option.some.injEq, Prod.mk.injEq] at h; obtain ⟨-, rfl⟩ := h; exact this)
    · exact code_frame a h
  | .loop a, st, st', e, h => by
    simp only [runCode] at h
    have aux : ∀ m st, iter (runCode cp ci n a) m st = some (e, st') → frCode a st st' := by
      intro m
      induction m with
      | zero => intro st h; simp [iter] at h
      | succ m ih =>
        intro st h
        simp only [iter] at h
        split at h
        · rename_i s hs
          exact (code_frame a hs).trans (ih s h)
        · exact code_frame a h
    exact aux n st h
theorem varsEnv_ok {ρ : List DVal} {L : Nat → Nat × DVal} {env : Nat → DVal} {vs us : List DVal} : ∀ {ts : List Nat} {b : Nat}, ρ.length + vs.length = b → ∀ t sv, (t, sv) ∈ varsEnv b ts → SVok (ρ ++ (vs ++ (ts.map env ++ us))) L (env t) sv
  | [], b, hb, t, sv, hm => by simp [varsEnv] at hm
  | d :: ds, b, hb, t, sv, hm => by
    simp only [varsEnv, List.mem_cons, Prod.mk.injEq] at hm
    rcases hm with ⟨rfl, rfl⟩ | hm
    · refine ⟨by simp [Ex.ok, Nat.blt_eq]; omega, ?_⟩
      subst hb
      simp [Ex.val, List.getD_eq_getElem?_getD]
    · have := varsEnv_ok (ρ := ρ) (vs := vs ++ [env d]) (us := us) (ts := ds) (b := b + 1) (L := L) (env := env) (by simp; omega) t sv hm
      simpa using this
theorem varsLoc_ok {ρ : List DVal} {f : Nat → DVal} {vs : List DVal} : ∀ {rs : List Nat} {b : Nat}, ρ.length + vs.length = b → ∀ r e g, (r, (e, g)) ∈ varsLoc b rs → g = none ∧ e.ok (ρ ++ (vs ++ rs.map f)).length = true ∧ f r = e.val (ρ ++ (vs ++ rs.map f))
  | [], b, hb, r, e, g, hm => by simp [varsLoc] at hm
  | d :: ds, b, hb, r, e, g, hm => by
    simp only [varsLoc, List.mem_cons, Prod.mk.injEq] at hm
    rcases hm with ⟨rfl, rfl, rfl⟩ | hm
    · refine ⟨rfl, by simp [Ex.ok, Nat.blt_eq]; omega, ?_⟩
      subst hb
      simp [Ex.val, List.getD_eq_getElem?_getD]
    · have := varsLoc_ok (ρ := ρ) (f := f) (vs := vs ++ [f d]) (rs := ds) (b := b + 1) (by simp; omega) r e g hm
      simpa using this
def valsOf (a : ICode) (s : SS) (st : St) : List DVal :=
  (slotVars (a.wr IOper.dst) s.env).map st.env ++ (rootVars (a.wr IOper.root) s.loc).map fun r => (st.loc r).2
theorem valsOf_length {a : ICode} {s : SS} {st : St} : (valsOf a s st).length = numVals a s := by simp [valsOf, numVals]
theorem padFrom_drop {vs : List DVal} : ∀ {m i : Nat}, i + m = vs.length → padFrom vs i m = vs.drop i
  | 0, i, h => by rw [List.drop_eq_nil_of_le (by omega)]; rfl
  | m + 1, i, h => by
    rw [padFrom, padFrom_drop (by omega), List.drop_eq_getElem_cons (by omega : i < vs.length)]
    rw [List.getD_eq_getElem?_getD, List.getElem?_eq_getElem (by omega : i < vs.length)]
    rfl
@[simp] theorem padFrom_vals {a : ICode} {s : SS} {st : St} : padFrom (valsOf a s st) 0 (numVals a s) = valsOf a s st := by
  rw [padFrom_drop (by rw [valsOf_length]; omega)]; rfl
def PtrsOk (a : ICode) (s : SS) (st : St) : Prop := ∀ t r off, (t, (r, off)) ∈ ptrVars (a.wr IOper.dst) s.env → st.env t = .loc r (st.loc r).1 off
theorem head_corr {a : ICode} {s : SS} {ρ : List DVal} {st0 st : St} (h : Corr s ρ st0) (hf : frCode a st0 st) (hp : PtrsOk a s st) (dep : Nat) : Corr (headOf a s dep) (ρ ++ valsOf a s st) st := by
  refine ⟨?_, fun t sv hm => ?_, fun r e g hm => ?_⟩
  · simp [headOf, valsOf, h.len]
  · simp only [headOf, List.mem_append, List.mem_map] at hm
    rcases hm with (hm | ⟨⟨t', r, off⟩, hm, he⟩) | hm
    · have := varsEnv_ok (ρ := ρ) (vs := []) (us := (rootVars (a.wr IOper.root) s.loc).map fun r => (st.loc r).2) (L := st.loc) (env := st.env) (by simp [h.len]) t sv hm
      simpa [valsOf] using this
    · simp only [Prod.mk.injEq] at he
      obtain ⟨rfl, rfl⟩ := he
      exact ⟨trivial, fun _ => hp _ _ _ hm⟩
    · simp only [keepEnv, List.mem_filter, Bool.and_eq_true, Bool.not_eq_true', List.contains_eq_mem, decide_eq_false_iff_not] at hm
      obtain ⟨hm, hw, hb⟩ := hm
      have := (h.env t sv hm).append (vs := valsOf a s st)
      rw [hf.env t hw]
      cases sv with
      | ex e => exact this
      | ptr r off g =>
        simp only at hb
        refine ⟨this.1, fun hg => ?_⟩
        rw [hf.ep r (by simpa using hb)]
        exact this.2 hg
  · simp only [headOf, List.mem_append] at hm
    rcases hm with hm | hm
    · have := varsLoc_ok (ρ := ρ) (f := fun r => (st.loc r).2) (vs := (slotVars (a.wr IOper.dst) s.env).map st.env) (by simp [h.len]) r e g hm
      obtain ⟨rfl, h1, h2⟩ := this
      exact ⟨h1, trivial, fun _ => h2⟩
    · simp only [keepLoc, List.mem_filter, Bool.not_eq_true', List.contains_eq_mem, decide_eq_false_iff_not] at hm
      obtain ⟨h1, h2, h3⟩ := h.loc r e g hm.1
      refine ⟨(ok_append h1).1, (gok_append h2).1, fun hg => ?_⟩
      rw [(gok_append h2).2] at hg
      rw [hf.loc r hm.2, (ok_append h1).2]
      exact h3 hg
theorem getSlots_ok {s : SS} {ρ : List DVal} {st : St} (h : Corr s ρ st) : ∀ {ts : List Nat} {es : List Ex}, getSlots s ts = some es → es.map (Ex.val ρ) = ts.map st.env
  | [], es, hs => by simp only [getSlots, Option.some.injEq] at hs; subst hs; rfl
  | t :: ts, es, hs => by
    simp only [getSlots] at hs
    split at hs
    · rename_i e es' h1 h2
      simp only [Option.some.injEq] at hs
      subst hs
      simp only [List.map_cons, getSlots_ok h h2, ← (h.ex h1).2, Opd.val]
    · cases hs
theorem getRoots_ok {s : SS} {ρ : List DVal} {st : St} (h : Corr s ρ st) : ∀ {ts : List Nat} {es : List Ex}, getRoots s ts = some es → es.map (Ex.val ρ) = ts.map fun r => (st.loc r).2
  | [], es, hs => by simp only [getRoots, Option.some.injEq] at hs; subst hs; rfl
  | t :: ts, es, hs => by
    simp only [getRoots] at hs
    split at hs
    · rename_i e es' h1 h2
      simp only [Option.some.injEq] at hs
      subst hs
      simp only [List.map_cons, getRoots_ok h h2, (h.cont h1).2 rfl]
    · cases hs
theorem samePtrs_ok {s : SS} {ρ : List DVal} {st : St} (h : Corr s ρ st) : ∀ {ps : List (Nat × (Nat × Nat))}, samePtrs s ps = true → ∀ t r off, (t, (r, off)) ∈ ps → st.env t = .loc r (st.loc r).1 off
  | [], _, t, r, off, hm => by simp at hm
  | (u, (q, o)) :: ps, hs, t, r, off, hm => by
    simp only [samePtrs, Bool.and_eq_true] at hs
    simp only [List.mem_cons, Prod.mk.injEq] at hm
    rcases hm with ⟨rfl, rfl, rfl⟩ | hm
    · have h1 := hs.1
      split at h1
      · rename_i q' o' hp
        simp only [Bool.and_eq_true] at h1
        have e1 := Nat.eq_of_beq_eq_true h1.1
        have e2 := Nat.eq_of_beq_eq_true h1.2
        subst e1 e2
        exact h.ptr hp rfl
      · cases h1
    · exact samePtrs_ok h hs.2 t r off hm
theorem nowVals_ok {a : ICode} {s0 s : SS} {ρ : List DVal} {st : St} {es : List Ex} (h : Corr s ρ st) (hs : nowVals a s0 s = some es) : es.map (Ex.val ρ) = valsOf a s0 st ∧ PtrsOk a s0 st := by
  simp only [nowVals] at hs
  split at hs
  · rename_i e1 e2 h1 h2
    split at hs
    · rename_i h3
      simp only [Option.some.injEq] at hs
      subst hs
      exact ⟨by rw [List.map_append, getSlots_ok h h1, getRoots_ok h h2]; rfl, samePtrs_ok h h3⟩
    · cases hs
  · cases hs
theorem iterJ_next {l i : Nat} {f : List DVal → Sto → Option Out} {vs' : List DVal} {σ' : Sto} : ∀ {m : Nat} {vs : List DVal} {σ : Sto}, iterJ l f m vs σ = some (.next i vs' σ') → i ≠ l ∧ ∃ us τ, f us τ = some (.next i vs' σ')
  | 0, vs, σ, h => by simp [iterJ] at h
  | m + 1, vs, σ, h => by
    simp only [iterJ] at h
    split at h
    · rename_i j ws τ e
      split at h
      · exact iterJ_next h
      · rename_i hne
        simp only [Option.some.injEq, Out.next.injEq] at h
        obtain ⟨rfl, rfl, rfl⟩ := h
        exact ⟨hne, _, _, e⟩
    · rename_i hne
      exact absurd h (hne i vs' σ')
theorem esc_next {l i : Nat} {vs : List DVal} {τ : Sto} : ∀ (t : T) (ρ : List DVal) (σ : Sto), t.esc l = true → den cp ci n t ρ σ = some (.next i vs τ) → i ≠ l
  | .ret xs, ρ, σ, he, h => by
    simp only [den, retJ] at h
    split at h <;> simp at h
  | .p o xs g k, ρ, σ, he, h => by
    simp only [den, bndP] at h
    split at h
    · exact esc_next k _ _ he h
    · cases h
  | .s o xs g k, ρ, σ, he, h => by
    simp only [den, bndS] at h
    split at h
    · exact esc_next k _ _ he h
    · cases h
  | .ite c a b, ρ, σ, he, h => by
    simp only [T.esc, Bool.and_eq_true] at he
    simp only [den, iteJ] at h
    split at h
    · exact esc_next a _ _ he.1 h
    · exact esc_next b _ _ he.2 h
    · cases h
  | .loop j init body, ρ, σ, he, h => by
    simp only [T.esc, Bool.or_eq_true, beq_iff_eq] at he
    simp only [den] at h
    obtain ⟨h1, us, τ', h2⟩ := iterJ_next h
    rcases he with rfl | he
    · exact h1
    · exact esc_next body _ _ he h2
  | .join j m body k, ρ, σ, he, h => by
    simp only [T.esc, Bool.and_eq_true, Bool.or_eq_true, beq_iff_eq] at he
    simp only [den, joinJ] at h
    split at h
    · rename_i i' vs' σ' e
      split at h
      · exact esc_next k _ _ he.2 h
      · rename_i hne
        simp only [Option.some.injEq, Out.next.injEq] at h
        obtain ⟨rfl, rfl, rfl⟩ := h
        rcases he.1 with rfl | he
        · exact hne
        · exact esc_next body _ _ he e
    · exact absurd h (by rename_i hne; exact hne _ _ _)
  | .next j xs, ρ, σ, he, h => by
    simp only [T.esc, bne_iff_ne, ne_eq] at he
    simp only [den, Option.some.injEq, Out.next.injEq] at h
    rw [← h.1]
    exact he
theorem noEsc_some {l : Nat} {t t' : T} (h : noEsc l t = some t') : t' = t ∧ t.esc l = true := by
  unfold noEsc at h
  split at h
  · rename_i he; simp only [Option.some.injEq] at h; exact ⟨h.symm, he⟩
  · cases h
def Leads (cp : Nat → List DVal → Option DVal) (ci : Nat → List DVal → Sto → Option (DVal × Sto)) (n : Nat) (k : Exit → SS → Option T) (out : Out) (e : Exit) (st' : St) : Prop :=
  ∃ s' t' ρ', k e s' = some t' ∧ Corr s' ρ' st' ∧ den cp ci n t' ρ' st'.sto = some out
theorem joinAt_leads {a : ICode} {s : SS} {k : Exit → SS → Option T} {out : Out} {e : Exit} {st' : St} (h : Leads cp ci n (joinAt a s k) out e st') :
    (e = .normal ∧ out = .next s.dep (valsOf a s st') st'.sto ∧ PtrsOk a s st') ∨ (e ≠ .normal ∧ (∀ vs τ, out ≠ .next s.dep vs τ) ∧ Leads cp ci n k out e st') := by
  obtain ⟨s', t', ρ', h1, h2, h3⟩ := h
  have other : e ≠ .normal → (k e s').bind (noEsc s.dep) = some t' → (e = .normal ∧ out = .next s.dep (valsOf a s st') st'.sto ∧ PtrsOk a s st') ∨ (e ≠ .normal ∧ (∀ vs τ, out ≠ .next s.dep vs τ) ∧ Leads cp ci n k out e st') := by
    intro hne h1
    simp only [Option.bind_eq_some_iff] at h1
    obtain ⟨t, ht, hn⟩ := h1
    obtain ⟨rfl, hesc⟩ := noEsc_some hn
    refine .inr ⟨hne, fun vs τ e => ?_, s', t', ρ', ht, h2, h3⟩
    rw [e] at h3
    exact esc_next _ _ _ hesc h3 rfl
  unfold joinAt at h1
  split at h1
  · simp only [Option.map_eq_some_iff] at h1
    obtain ⟨es, he, rfl⟩ := h1
    simp only [den, Option.some.injEq] at h3
    obtain ⟨a1, a2⟩ := nowVals_ok h2 he
    rw [a1] at h3
    exact .inl ⟨rfl, h3.symm, a2⟩
  · rename_i hne
    exact other (fun e => hne e) h1
theorem symb_sound : ∀ (c : ICode) (rs : Nat) (s : SS) (k : Exit → SS → Option T) (t : T), symb c rs s k = some t → ∀ (ρ : List DVal) (st : St) (out : Out), Corr s ρ st → den cp ci n t ρ st.sto = some out →
    ∃ e st', runCode cp ci n c st = some (e, st') ∧ Leads cp ci n k out e st'
  | .skip, rs, s, k, t, hs, ρ, st, out, h, hd => ⟨.normal, st, rfl, s, t, ρ, hs, h, hd⟩
  | .ret, rs, s, k, t, hs, ρ, st, out, h, hd => ⟨.ret, st, rfl, s, t, ρ, hs, h, hd⟩
  | .exit i, rs, s, k, t, hs, ρ, st, out, h, hd => ⟨.exit i, st, rfl, s, t, ρ, hs, h, hd⟩
  | .reg ops, rs, s, k, t, hs, ρ, st, out, h, hd => by
    simp only [symb] at hs
    split at hs
    · rename_i is s' h1
      simp only [Option.map_eq_some_iff] at hs
      obtain ⟨t', hk, rfl⟩ := hs
      rw [den_insTree] at hd
      simp only [Option.bind_eq_some_iff] at hd
      obtain ⟨⟨ρ', σ'⟩, hr, hd⟩ := hd
      obtain ⟨st', a1, rfl, a3⟩ := symbOps_sound h1 h hr
      exact ⟨.normal, st', by simp only [runCode, a1, Option.map_some], s', t', ρ', hk, a3, hd⟩
    · cases hs
  | .seq a b, rs, s, k, t, hs, ρ, st, out, h, hd => by
    simp only [symb] at hs
    obtain ⟨e, st1, h1, s1, t1, ρ1, h2, h3, h4⟩ := symb_sound a _ _ _ _ hs ρ st out h hd
    simp only at h2
    split at h2
    · obtain ⟨e2, st2, g1, g2⟩ := symb_sound b _ _ _ _ h2 ρ1 st1 out h3 h4
      exact ⟨e2, st2, by simp only [runCode, h1, g1], g2⟩
    · rename_i hne
      refine ⟨e, st1, ?_, s1, t1, ρ1, h2, h3, h4⟩
      simp only [runCode, h1]
      cases e <;> first | exact absurd rfl hne | rfl
  | .cond c a b, rs, s, k, t, hs, ρ, st, out, h, hd => by
    simp only [symb] at hs
    split at hs
    · rename_i e he
      have hc := (h.ex he).2
      split at hs
      · split at hs
        · rename_i ta tb tk h1 h2 h3
          simp only [Option.some.injEq] at hs
          subst hs
          simp only [den, joinJ] at hd
          have key : ∀ (x : ICode) (tx : T), (∀ (ρ : List DVal) (st : St) (out : Out), Corr { s with dep := s.dep + 1 } ρ st → den cp ci n tx ρ st.sto = some out → ∃ e st', runCode cp ci n x st = some (e, st') ∧ Leads cp ci n (joinAt (.cond c a b) s k) out e st') → runCode cp ci n (.cond c a b) st = runCode cp ci n x st →
              ∀ o, den cp ci n tx ρ st.sto = some o → (match some o with | some (.next i vs' σ') => if i = s.dep then den cp ci n tk (ρ ++ padFrom vs' 0 (numVals (.cond c a b) s)) σ' else some (.next i vs' σ') | r => r) = some out → ∃ e st', runCode cp ci n (.cond c a b) st = some (e, st') ∧ Leads cp ci n k out e st' := by
            intro x tx hx hrun o ho hd
            obtain ⟨e1, st1, g1, g2⟩ := hx ρ st o (h.dep _) ho
            rw [← hrun] at g1
            rcases joinAt_leads g2 with ⟨rfl, rfl, g3⟩ | ⟨g3, g4, g5⟩
            · simp only [if_true, padFrom_vals] at hd
              exact ⟨.normal, st1, g1, _, tk, _, h3, head_corr h (code_frame _ g1) g3 _, hd⟩
            · refine ⟨e1, st1, g1, ?_⟩
              cases o with
              | done v σ => simp only [Option.some.injEq] at hd; rw [← hd]; exact g5
              | next i vs τ =>
                have : i ≠ s.dep := fun e => g4 vs τ (by rw [e])
                simp only [this, if_false, Option.some.injEq] at hd
                rw [← hd]; exact g5
          simp only [iteJ] at hd
          rw [← hc] at hd
          split at hd
          all_goals rename_i heq
          · split at heq
            · rename_i hv
              exact key a ta (symb_sound a _ _ _ _ h1) (by simp only [runCode, hv]) _ heq (by simpa using hd)
            · rename_i hv
              exact key b tb (symb_sound b _ _ _ _ h2) (by simp only [runCode, hv]) _ heq (by simpa using hd)
            · cases heq
          · split at hd
            · rename_i hv
              exact key a ta (symb_sound a _ _ _ _ h1) (by simp only [runCode, hv]) out hd (by
                cases out with
                | done v σ => rfl
                | next i vs τ => exact absurd (by simp only [hv]; exact hd) (heq i vs τ))
            · rename_i hv
              exact key b tb (symb_sound b _ _ _ _ h2) (by simp only [runCode, hv]) out hd (by
                cases out with
                | done v σ => rfl
                | next i vs τ => exact absurd (by simp only [hv]; exact hd) (heq i vs τ))
            · cases hd
        · cases hs
      · split at hs
        · rename_i ta tb h1 h2
          simp only [Option.some.injEq] at hs
          subst hs
          simp only [den, iteJ] at hd
          rw [← hc] at hd
          split at hd
          · rename_i hv
            obtain ⟨e1, st1, g1, g2⟩ := symb_sound a _ _ _ _ h1 ρ st out h hd
            exact ⟨e1, st1, by simp only [runCode, hv, g1], g2⟩
          · rename_i hv
            obtain ⟨e1, st1, g1, g2⟩ := symb_sound b _ _ _ _ h2 ρ st out h hd
            exact ⟨e1, st1, by simp only [runCode, hv, g1], g2⟩
          · cases hd
        · cases hs
    · cases hs
  | .block id a, rs, s, k, t, hs, ρ, st, out, h, hd => by
    -- an end of the body is an end of the block
    have conv : ∀ (k0 : Exit → SS → Option T) (o : Out) (e1 : Exit) (st1 : St), runCode cp ci n a st = some (e1, st1) → Leads cp ci n (fun e s' => match e with | .exit i => if i = id then k0 .normal s' else k0 (.exit i) s' | e => k0 e s') o e1 st1 →
        ∃ e st', runCode cp ci n (.block id a) st = some (e, st') ∧ Leads cp ci n k0 o e st' := by
      intro k0 o e1 st1 g1 g2
      obtain ⟨s', t', ρ', g2, g3, g4⟩ := g2
      simp only at g2
      split at g2
      · rename_i i
        split at g2
        · rename_i hi
          exact ⟨.normal, st1, by simp only [runCode, g1, hi, if_true], s', t', ρ', g2, g3, g4⟩
        · rename_i hi
          exact ⟨.exit i, st1, by simp only [runCode, g1, hi, if_false], s', t', ρ', g2, g3, g4⟩
      · rename_i hne
        refine ⟨e1, st1, ?_, s', t', ρ', g2, g3, g4⟩
        simp only [runCode, g1]
        try (cases e1 <;> first | exact absurd rfl (hne _) | rfl)
    simp only [symb] at hs
    split at hs
    · split at hs
      · rename_i ta tk h1 h2
        simp only [Option.some.injEq] at hs
        subst hs
        simp only [den, joinJ] at hd
        have key : ∀ o, den cp ci n ta ρ st.sto = some o → (match some o with | some (.next i vs' σ') => if i = s.dep then den cp ci n tk (ρ ++ padFrom vs' 0 (numVals (.block id a) s)) σ' else some (.next i vs' σ') | r => r) = some out → ∃ e st', runCode cp ci n (.block id a) st = some (e, st') ∧ Leads cp ci n k out e st' := by
          intro o ho hd
          obtain ⟨e1, st1, g1, g2⟩ := symb_sound a _ _ _ _ h1 ρ st o (h.dep _) ho
          obtain ⟨e1, st1, g1, g2⟩ := conv _ o e1 st1 g1 g2
          rcases joinAt_leads g2 with ⟨rfl, rfl, g3⟩ | ⟨g3, g4, g5⟩
          · simp only [if_true, padFrom_vals] at hd
            exact ⟨.normal, st1, g1, _, tk, _, h2, head_corr h (code_frame _ g1) g3 _, hd⟩
          · refine ⟨e1, st1, g1, ?_⟩
            cases o with
            | done v σ => simp only [Option.some.injEq] at hd; rw [← hd]; exact g5
            | next i vs τ =>
              have : i ≠ s.dep := fun e => g4 vs τ (by rw [e])
              simp only [this, if_false, Option.some.injEq] at hd
              rw [← hd]; exact g5
        split at hd
        · rename_i heq
          exact key _ heq (by simpa using hd)
        · rename_i heq
          exact key out hd (by
            cases out with
            | done v σ => rfl
            | next i vs τ => exact absurd hd (heq i vs τ))
      · cases hs
    · obtain ⟨e1, st1, g1, g2⟩ := symb_sound a _ _ _ _ hs ρ st out h hd
      exact conv k out e1 st1 g1 g2
  | .loop a, rs, s, k, t, hs, ρ, st, out, h, hd => by
    simp only [symb] at hs
    split at hs
    · rename_i init hinit
      simp only [Option.map_eq_some_iff] at hs
      obtain ⟨body, hb, rfl⟩ := hs
      obtain ⟨i1, i2⟩ := nowVals_ok h hinit
      simp only [den] at hd
      have hlen : init.length = numVals a s := by rw [← valsOf_length (a := a) (s := s) (st := st), ← i1, List.length_map]
      rw [i1, hlen] at hd
      have aux : ∀ m st1, frCode a st st1 → PtrsOk a s st1 → iterJ s.dep (fun vs σ => den cp ci n body (ρ ++ padFrom vs 0 (numVals a s)) σ) m (valsOf a s st1) st1.sto = some out →
          ∃ e st', iter (runCode cp ci n a) m st1 = some (e, st') ∧ Leads cp ci n k out e st' := by
        intro m
        induction m with
        | zero => intro st1 _ _ hd; simp [iterJ] at hd
        | succ m ih =>
          intro st1 hf hp hd
          simp only [iterJ, padFrom_vals] at hd
          have hcorr := head_corr h hf hp (s.dep + 1)
          cases ho : den cp ci n body (ρ ++ valsOf a s st1) st1.sto with
          | none => rw [ho] at hd; simp at hd
          | some o =>
            rw [ho] at hd
            obtain ⟨e1, st2, g1, g2⟩ := symb_sound a _ _ _ _ hb _ st1 o hcorr ho
            rcases joinAt_leads g2 with ⟨rfl, rfl, g3⟩ | ⟨g3, g4, g5⟩
            · simp only [if_true] at hd
              obtain ⟨e3, st3, q1, q2⟩ := ih st2 (hf.trans (code_frame a g1)) g3 hd
              exact ⟨e3, st3, by simp only [iter, g1, q1], q2⟩
            · refine ⟨e1, st2, ?_, ?_⟩
              · simp only [iter, g1]
                cases e1 <;> first | exact absurd rfl g3 | rfl
              · cases o with
                | done v σ => simp only [Option.some.injEq] at hd; rw [← hd]; exact g5
                | next i vs τ =>
                  have : i ≠ s.dep := fun e => g4 vs τ (by rw [e])
                  simp only [this, if_false, Option.some.injEq] at hd
                  rw [← hd]; exact g5
      obtain ⟨e, st', g1, g2⟩ := aux n st (Fr.refl ..) i2 hd
      exact ⟨e, st', by simp only [runCode, g1], g2⟩
    · cases hs
theorem resTree_sound : ∀ {rs : List IRes} {s : SS} {es : List Ex} {t : T} {ρ : List DVal} {st : St} {out : Out}, resTree rs s es = some t → Corr s ρ st → (∀ e, e ∈ es → e.ok ρ.length = true) → den cp ci n t ρ st.sto = some out →
    ∃ vs d, out = .done d st.sto ∧ resEx (es.map (Ex.val ρ) ++ vs) = some d ∧ (rs.length = vs.length) ∧ ((es.map (Ex.val ρ) ++ vs).all DVal.okVal = true → resVals st rs = some vs)
  | [], s, es, t, ρ, st, out, hs, h, hok, hd => by
    simp only [resTree, Option.some.injEq] at hs
    subst hs
    simp only [den, retJ] at hd
    split at hd
    · rename_i d e
      simp only [Option.some.injEq] at hd
      exact ⟨[], d, hd.symm, by simpa using e, rfl, fun _ => rfl⟩
    · cases hd
  | .t i :: rs, s, es, t, ρ, st, out, hs, h, hok, hd => by
    simp only [resTree, Option.bind_eq_some_iff] at hs
    obtain ⟨e, he, hs⟩ := hs
    obtain ⟨a1, a2⟩ := h.ex he
    obtain ⟨vs, d, g1, g2, g3, g4⟩ := resTree_sound hs h (fun x hx => by
      simp only [List.mem_append, List.mem_singleton] at hx
      rcases hx with hx | rfl
      · exact hok x hx
      · exact a1) hd
    refine ⟨e.val ρ :: vs, d, g1, by simpa using g2, by simp [g3], fun hall => ?_⟩
    have hrest := g4 (by simpa using hall)
    have hv : DVal.okVal (e.val ρ) = true := by simp only [List.all_append, List.all_cons, Bool.and_eq_true] at hall; exact hall.2.1
    simp only [Opd.val] at a2
    simp only [resVals, IRes.val, hrest, a2, hv, if_true]
  | .cell r sz :: rs, s, es, t, ρ, st, out, hs, h, hok, hd => by
    simp only [resTree] at hs
    split at hs
    · rename_i q off c hp hc
      split at hs
      · rename_i hq
        subst hq
        simp only [Option.map_eq_some_iff] at hs
        obtain ⟨t', hs, rfl⟩ := hs
        simp only [den, bndP, guarded] at hd
        split at hd
        · rename_i v hv
          have hp' := h.ptr hp rfl
          obtain ⟨hcok, hc'⟩ := h.cont hc
          have hc' := hc' rfl
          have hmap : es.map (Ex.val (ρ ++ [v])) = es.map (Ex.val ρ) := List.map_congr_left fun x hx => (ok_append (hok x hx)).2
          obtain ⟨vs, d, g1, g2, g3, g4⟩ := resTree_sound (es := es ++ [.v s.nv]) hs (h.more (vs := [v]) rfl) (fun x hx => by
            simp only [List.mem_append, List.mem_singleton] at hx
            rcases hx with hx | rfl
            · exact (ok_append (hok x hx)).1
            · rw [← h.len]; exact v_ok) hd
          rw [List.map_append, hmap] at g2 g4
          have hlast : [Ex.v s.nv].map (Ex.val (ρ ++ [v])) = [v] := by rw [← h.len]; simp [v_last]
          rw [hlast] at g2 g4
          refine ⟨v :: vs, d, g1, by simpa using g2, by simp [g3], fun hall => ?_⟩
          have hrest := g4 (by simpa using hall)
          have hvok : DVal.okVal v = true := by simp only [List.all_append, List.all_cons, Bool.and_eq_true] at hall; exact hall.2.1
          have hrd : readLoc q sz (st.loc q) [st.env q] = some v := by
            simp only [Opd.val] at hp'
            simp only [JOp.sem, POp.sem, List.map_cons, List.map_nil, ← hc'] at hv
            unfold fldSem at hv
            split at hv
            · rename_i cs hcs
              simp only [List.cons.injEq, and_true] at hcs
              simp only [hp', readLoc, true_and, if_true, hcs, hv]
            · cases hv
          simp only [resVals, IRes.val, hrd, hrest, hvok, if_true]
        · cases hd
      · cases hs
    · cases hs
theorem resEx_sound {st : St} {rs : List IRes} {vs : List DVal} {d : DVal} (h1 : resEx vs = some d) (h2 : rs.length = vs.length) (h3 : vs.all DVal.okVal = true → resVals st rs = some vs) : resVal st rs = some d := by
  unfold resEx at h1
  split at h1
  · rename_i v
    split at h1
    · rename_i hok
      simp only [Option.some.injEq] at h1
      subst h1
      have := h3 (by simpa using hok)
      simp only [resVal, this]
    · cases h1
  · rename_i hne
    split at h1
    · rename_i hok
      simp only [Option.some.injEq] at h1
      subst h1
      have := h3 hok
      unfold resVal
      rw [this]
      split
      · rename_i v e; exact absurd (Option.some.inj e) (hne v)
      · rename_i us _ e; rw [Option.some.inj e]
      · rename_i e; cases e
    · cases h1
theorem parEnv_mem : ∀ {n t : Nat} {sv : SV}, (t, sv) ∈ parEnv n → t < n ∧ sv = .ex (.v t)
  | 0, t, sv, h => by simp [parEnv] at h
  | n + 1, t, sv, h => by
    simp only [parEnv, List.mem_cons, Prod.mk.injEq] at h
    rcases h with ⟨rfl, rfl⟩ | h
    · exact ⟨by omega, rfl⟩
    · have := parEnv_mem h; exact ⟨by omega, this.2⟩
theorem symbFun_sound {F : IFunc} {t : T} {args : List DVal} {σ σ' : Sto} {v : DVal} (hs : symbFun F = some t) (hlen : args.length = F.npar) (hd : den cp ci n t args σ = some (.done v σ')) : runFun cp ci n F args σ = some (v, σ') := by
  have h0 : Corr { env := parEnv F.npar, loc := [], nv := F.npar, dep := 0 } args (enter args σ) := by
    refine ⟨hlen, fun t sv hm => ?_, fun r e g hm => by simp at hm⟩
    obtain ⟨h1, rfl⟩ := parEnv_mem hm
    exact ⟨by simp [Ex.ok, Nat.blt_eq, hlen, h1], rfl⟩
  obtain ⟨e, st', g1, s', t', ρ', g2, g3, g4⟩ := symb_sound (cp := cp) (ci := ci) (n := n) _ _ _ _ _ hs args (enter args σ) _ h0 hd
  have fin : resTree F.res s' [] = some t' → (resVal st' F.res).map (fun v => (v, st'.sto)) = some (v, σ') := by
    intro hr
    obtain ⟨vs, d, a1, a2, a3, a4⟩ := resTree_sound hr g3 (by simp) g4
    simp only [List.map_nil, List.nil_append] at a2 a4
    simp only [Out.done.injEq] at a1
    obtain ⟨rfl, rfl⟩ := a1
    rw [resEx_sound a2 a3 a4]
    rfl
  unfold runFun
  rw [if_pos hlen, g1]
  simp only at g2
  split at g2
  · exact fin g2
  · exact fin g2
  · cases g2
end
end Go.Proofs.YthpccimmmfonjaaGreatDoor
namespace Go.Proofs.YthpccimmmfonjaaGreatDoor
set_option linter.unusedVariables false
set_option linter.unusedSimpArgs false
open Go Go.RowKit
def treeOf (P : Program) (h : Hint) (fn : Func) : Option (Nat × T) :=
  match compFunc P h fn with
  | some F => (symbFun F).map fun t => (F.npar, t)
  | none => none
def KnowsJ (P : Program) (f : FuncId) (np : Nat) (t : T) : Prop := ∃ fn h, P.funcs[f]? = some fn ∧ (fn.name == "runtime.NumGoroutine") = false ∧ treeOf P h fn = some (np, t)
theorem KnowsJ.knows {P : Program} {f : FuncId} {np : Nat} {t : T} (hk : KnowsJ P f np t) : ∃ F, Knows P f F ∧ F.npar = np ∧ symbFun F = some t := by
  obtain ⟨fn, h, h1, h2, h3⟩ := hk
  unfold treeOf at h3
  split at h3
  · rename_i F hF
    simp only [Option.map_eq_some_iff, Prod.mk.injEq] at h3
    obtain ⟨t', ht, rfl, rfl⟩ := h3
    exact ⟨F, ⟨fn, h, h1, h2, hF⟩, rfl, ht⟩
  · cases h3
theorem evJ_sound {P : Program} {Gl : List (Nat × Value)} {prog : Nat → Option JFun} (hb : ∀ f np t, prog f = some (.body np t) → KnowsJ P f np t) (hp : ∀ f sem, prog f = some (.prim sem) → PureOk P Gl f sem) :
    ∀ n, (∀ f, PureOk P Gl f (cpJ prog n f)) ∧ ∀ f, ImpOk P Gl f (ciJ prog n f)
  | 0 => ⟨fun f I w ds vs r _ _ _ hr => by simp [cpJ, evJ] at hr, fun f V σ σ' w ds vs r _ _ _ hr => by simp [ciJ, evJ] at hr⟩
  | n + 1 => by
    obtain ⟨ihp, ihi⟩ := evJ_sound hb hp n
    refine ⟨fun f I w ds vs r hI hG hv hr => ?_, fun f V σ σ' w ds vs r hi hG hv hr => ?_⟩
    · unfold cpJ evJ at hr
      split at hr
      · rename_i np t hF
        obtain ⟨F, hk, rfl, ht⟩ := (hb f np t hF).knows
        split at hr
        · rename_i hlen
          split at hr
          · rename_i v σ hd
            simp only [Option.map_eq_some_iff] at hr
            obtain ⟨x, ⟨z, hz, rfl⟩, rfl⟩ := hr
            have hy := symbFun_sound ht hlen hd
            refine ⟨hk.callable, ?_⟩
            refine (fun_sound (cp := cpJ prog n) (ci := ciJ prog n) ihp ihi hk VI_inv (hG.ext fun b n hn => ⟨VI_imm.2 ⟨hI b n hn, hn⟩, rfl⟩) hv.open' hy).mono ?_
            rintro e w' ⟨v, V', rfl, ha, hinv, hrel⟩
            obtain ⟨q1, q2⟩ := hand_sound ha hinv hrel hz
            exact ⟨v, rfl, q1, q2⟩
          · simp at hr
        · simp at hr
      · rename_i sem hF
        simp only [Option.map_eq_some_iff] at hr
        obtain ⟨x, ⟨y, hy, rfl⟩, rfl⟩ := hr
        exact hp f sem hF I w ds vs y hI hG hv hy
      · simp at hr
    · unfold ciJ evJ at hr
      split at hr
      · rename_i np t hF
        obtain ⟨F, hk, rfl, ht⟩ := (hb f np t hF).knows
        split at hr
        · rename_i hlen
          split at hr
          · rename_i v σ2 hd
            simp only [Option.some.injEq, Prod.mk.injEq] at hr
            obtain ⟨rfl, rfl⟩ := hr
            have hy := symbFun_sound ht hlen hd
            exact ⟨hk.callable, fun_sound (cp := cpJ prog n) (ci := ciJ prog n) ihp ihi hk hi hG hv.open' hy⟩
          · simp at hr
        · simp at hr
      · cases hr
def hintJ (slots fns : List (Nat × Nat)) (pts : List Nat := []) : Hint := { slot := fun n => (slots.lookup n).getD 0, fn := fun n => (fns.lookup n).getD 0, pt := fun t => pts.contains t }
def JOk (P : Program) (Gl : List (Nat × Value)) : Nat × JFun → Prop
  | (f, .body np t) => KnowsJ P f np t
  | (f, .prim sem) => PureOk P Gl f sem
def AllJ (P : Program) (Gl : List (Nat × Value)) : List (Nat × JFun) → Prop
  | [] => True
  | p :: ps => JOk P Gl p ∧ AllJ P Gl ps
def progJ (t : List (Nat × JFun)) : Nat → Option JFun := fun f => t.lookup f
theorem AllJ.get {P : Program} {Gl : List (Nat × Value)} : ∀ {t : List (Nat × JFun)}, AllJ P Gl t → ∀ {f : Nat} {x : JFun}, t.lookup f = some x → JOk P Gl (f, x)
  | [], _, f, x, h => by simp at h
  | p :: ps, ha, f, x, h => by
    obtain ⟨q, y⟩ := p
    simp only [AllJ] at ha
    rw [List.lookup_cons] at h
    split at h
    · rename_i e
      simp only [Option.some.injEq] at h
      subst h
      have : f = q := by simpa using e
      subst this
      exact ha.1
    · exact ha.2.get h
theorem allJ_sound {P : Program} {Gl : List (Nat × Value)} {t : List (Nat × JFun)} (h : AllJ P Gl t) (n : Nat) : (∀ f, PureOk P Gl f (cpJ (progJ t) n f)) ∧ ∀ f, ImpOk P Gl f (ciJ (progJ t) n f) :=
  evJ_sound (fun f np t hF => h.get hF) (fun f sem hF => h.get hF) n
end Go.Proofs.YthpccimmmfonjaaGreatDoor
namespace Go.Proofs.YthpccimmmfonjaaGreatDoor
set_option linter.unusedVariables false
set_option maxRecDepth 100000
open Go
instance vEx (n : Nat) : OfNat Ex n := ⟨.v n⟩
abbrev q (o : POp) (xs : List Ex) (k : T) : T := .p (.p o) xs none k
abbrev qt (o : POp) (xs : List Ex) (g : Nat) (k : T) : T := .p (.p o) xs (some (g, true)) k
abbrev qf (o : POp) (xs : List Ex) (g : Nat) (k : T) : T := .p (.p o) xs (some (g, false)) k
def T8 : T :=
(.p .box [0] none
(.p .box [1] none
(.p .box [2] none
(q (.fld 0 (some 17)) [3]
(q (.call 11) [6]
(q (.un .not) [7]
(qf (.fld 0 (some 17)) [3] 8
(qf (.fld 0 (some 7)) [4] 8
(qf (.call 13) [9, 10] 8
(qf (.bin .neq) [11, .k (.int .i64 0)] 8
(q (.pick) [8, .k (.bool true), 12]
(qf (.fld 0 (some 4)) [5] 13
(qf (.fld 6 none) [3] 13
(qf (.lenSl) [15] 13
(qf (.fld 7 none) [3] 13
(qf (.lenSl) [17] 13
(qf (.call 28) [14, 16, 18] 13
(qf (.un .not) [19] 13
(q (.pick) [13, .k (.bool true), 20]
(.ite (.v 21) (q (.call 12) []
(.ret [22]))
(q (.fld 0 (some 17)) [3]
(.p (.wr 0 17) [.k (.agg [.nils, .nils, .nils, .nils, .nils, .nils, .nils, .nils, .nils, .nils, .nils, .nils, .nils, .nils, .nils, .nils, .nils]), 22] none
(q (.bslice false 11) []
(q (.fld 4 none) [3]
(.s (.appM 11) [24, 25] none
(.p (.wr 4 1) [23, 26] none
(q (.fld 4 none) [27]
(q (.fld 0 none) [4]
(q (.idxS 11) [28, 29]
(q (.fld 3 none) [3]
(q (.lenSl) [31]
(q (.call 30) [32]
(q (.call 29) [33, .k (.int .i64 0)]
(q (.nilchk) [30]
(q (.off 1) [35]
(.s (.st 4) [36, 34] none
(q (.nilchk) [30]
(q (.off 7) [38]
(.s (.ld (some 4)) [39] none
(q (.fld 0 (some 4)) [5]
(q (.call 31) [40, 41]
(q (.nilchk) [30]
(q (.off 7) [43]
(.s (.st 4) [44, 42] none
(q (.fld 0 (some 17)) [27]
(q (.fld 0 (some 7)) [4]
(.s (.callS 13) [46, 47] none
(q (.bin .eql) [48, .k (.int .i64 0)]
(qt (.call 12) [] 49
(q (.pick) [49, 50, .k (.bool false)]
(.ret [51])))))))))))))))))))))))))))))))))))))))))))))))))))
def H8 : List (Nat × Nat) := [(34, 999999), (60, 999998), (42, 5), (38, 6), (36, 9), (35, 9), (32, 5), (7, 9), (23, 5), (20, 5), (5, 7), (4, 6), (3, 5)]
def T11 : T :=
(.p .box [0] none
(q (.fld 0 (some 17)) [1]
(q (.call 34) [2]
(qt (.fld 0 (some 17)) [1] 3
(qt (.call 35) [4] 3
(qt (.bin .eql) [5, .k (.int .i64 0)] 3
(q (.pick) [3, 6, .k (.bool false)]
(.ret [7]))))))))
def H11 : List (Nat × Nat) := [(1, 3)]
def T12 : T :=
(q (.call 36) []
(.p (.wr 0 17) [.k (.agg [.nils, .nils, .nils, .nils, .nils, .nils, .nils, .nils, .nils, .nils, .nils, .nils, .nils, .nils, .nils, .nils, .nils]), 0] none
(q (.fld 0 (some 17)) [1]
(q (.call 37) []
(q (.call 18) [2, 3]
(q (.ext 0) [4]
(q (.ext 1) [4]
(q (.fld 0 (some 17)) [1]
(q (.call 20) [7, .k (.str [114, 111, 111, 116, 58, 111, 98, 106, 101, 99, 116, 95, 114, 58, 115, 104, 101, 108, 108, 95, 116, 58, 115, 48])]
(q (.ext 0) [8]
(q (.ext 1) [8]
(.p (.wr 0 7) [.k (.agg [(.int .i64 0), (.int .i64 0), (.int .i64 0), (.int .i64 0), (.int .u64 0), (.int .i64 0), (.int .u64 0)]), 9] none
(q (.fld 0 (some 17)) [1]
(q (.call 20) [12, .k (.str [114, 111, 111, 116, 58, 115, 121, 115, 116, 101, 109, 58, 102, 105, 108, 101, 95, 116, 58, 115, 48])]
(q (.ext 0) [13]
(q (.ext 1) [13]
(.p (.wr 0 7) [.k (.agg [(.int .i64 0), (.int .i64 0), (.int .i64 0), (.int .i64 0), (.int .u64 0), (.int .i64 0), (.int .u64 0)]), 14] none
(q (.fld 0 (some 17)) [1]
(q (.call 20) [17, .k (.str [114, 111, 111, 116, 58, 115, 121, 115, 116, 101, 109, 58, 120, 58, 115, 48])]
(q (.ext 0) [18]
(q (.ext 1) [18]
(.p (.wr 0 7) [.k (.agg [(.int .i64 0), (.int .i64 0), (.int .i64 0), (.int .i64 0), (.int .u64 0), (.int .i64 0), (.int .u64 0)]), 19] none
(q (.fld 0 (some 17)) [1]
(q (.call 20) [22, .k (.str [114, 111, 111, 116, 58, 115, 121, 115, 116, 101, 109])]
(q (.ext 0) [23]
(q (.ext 1) [23]
(.p (.wr 0 7) [.k (.agg [(.int .i64 0), (.int .i64 0), (.int .i64 0), (.int .i64 0), (.int .u64 0), (.int .i64 0), (.int .u64 0)]), 24] none
(q (.fld 0 (some 17)) [1]
(q (.call 24) [27, .k (.str [107, 101, 114, 110, 101, 108])]
(q (.ext 0) [28]
(q (.ext 1) [28]
(.p (.wr 0 7) [.k (.agg [(.int .i64 0), (.int .i64 0), (.int .i64 0), (.int .i64 0), (.int .u64 0), (.int .i64 0), (.int .u64 0)]), 29] none
(q (.bin .eql) [5, .k (.str [114, 111, 111, 116, 58, 115, 121, 115, 116, 101, 109, 58, 105, 110, 105, 116, 95, 116, 58, 115, 48])]
(qt (.mv) [6] 32
(qt (.bin .eql) [33, .k (.int .i64 0)] 32
(q (.pick) [32, 34, .k (.bool false)]
(qt (.mv) [10] 35
(qt (.bin .eql) [36, .k (.int .i64 0)] 35
(q (.pick) [35, 37, .k (.bool false)]
(qt (.fld 0 (some 7)) [11] 38
(qt (.call 15) [39] 38
(q (.pick) [38, 40, .k (.bool false)]
(qt (.mv) [15] 41
(qt (.bin .eql) [42, .k (.int .i64 19)] 41
(q (.pick) [41, 43, .k (.bool false)]
(qt (.mv) [20] 44
(qt (.bin .eql) [45, .k (.int .i64 11)] 44
(q (.pick) [44, 46, .k (.bool false)]
(qt (.mv) [25] 47
(qt (.bin .eql) [48, .k (.int .i64 9)] 47
(q (.pick) [47, 49, .k (.bool false)]
(qt (.fld 0 (some 17)) [1] 50
(qt (.call 22) [51] 50
(qt (.lenSl) [52] 50
(qt (.bin .eql) [53, .k (.int .i64 6)] 50
(q (.pick) [50, 54, .k (.bool false)]
(qt (.mv) [30] 55
(q (.pick) [55, 56, .k (.bool false)]
(qt (.fld 0 (some 7)) [31] 57
(qt (.call 37) [] 57
(qt (.call 17) [58, 59] 57
(q (.pick) [57, 60, .k (.bool false)]
(.ret [61])))))))))))))))))))))))))))))))))))))))))))))))))))))))))))))))
def H12 : List (Nat × Nat) := [(12, 14), (10, 12), (8, 10), (6, 8), (4, 6), (1, 3)]
def T13 : T :=
(.p .box [0] none
(.p .box [1] none
(q (.fld 0 none) [3]
(q (.fld 4 none) [2]
(q (.lenSl) [5]
(q (.call 38) [4, 6]
(q (.un .not) [7]
(qf (.fld 1 none) [3] 8
(qf (.fld 3 none) [2] 8
(qf (.lenSl) [10] 8
(qf (.call 38) [9, 11] 8
(qf (.un .not) [12] 8
(q (.pick) [8, .k (.bool true), 13]
(qf (.fld 2 none) [3] 14
(qf (.fld 1 none) [2] 14
(qf (.lenSl) [16] 14
(qf (.call 38) [15, 17] 14
(qf (.un .not) [18] 14
(q (.pick) [14, .k (.bool true), 19]
(.ite (.v 20) (.ret [.k (.int .i64 3)])
(q (.fld 3 (some 4)) [3]
(q (.fld 6 none) [2]
(q (.lenSl) [22]
(q (.fld 7 none) [2]
(q (.lenSl) [24]
(q (.call 28) [21, 23, 25]
(q (.un .not) [26]
(.ite (.v 27) (.ret [.k (.int .i64 18)])
(q (.fld 0 (some 7)) [3]
(q (.call 15) [28]
(.ite (.v 29) (.ret [.k (.int .i64 0)])
(q (.fld 4 none) [2]
(q (.fld 0 none) [3]
(q (.idxS 11) [30, 31]
(q (.ldE (some 11)) [32]
(.p (.wr 0 11) [.k (.agg [(.str []), (.int .u64 0), (.int .u64 0), (.int .u64 0), (.int .u64 0), (.int .i64 0), (.int .u64 0), (.int .i64 0), (.int .u64 0), (.int .i64 0), (.int .u64 0)]), 33] none
(q (.fld 1 (some 4)) [34]
(q (.fld 1 none) [3]
(q (.call 39) [35, 36]
(q (.un .not) [37]
(qf (.fld 3 none) [2] 38
(qf (.fld 1 none) [3] 38
(qf (.idxS 9) [39, 40] 38
(qf (.off 1) [41] 38
(qf (.ldE (some 4)) [42] 38
(qf (.fld 2 none) [3] 38
(qf (.call 39) [43, 44] 38
(qf (.un .not) [45] 38
(q (.pick) [38, .k (.bool true), 46]
(qf (.fld 7 (some 4)) [34] 47
(qf (.fld 3 (some 4)) [3] 47
(qf (.call 40) [48, 49] 47
(qf (.un .not) [50] 47
(q (.pick) [47, .k (.bool true), 51]
(.ite (.v 52) (.ret [.k (.int .i64 19)])
(.ret [.k (.int .i64 0)]))))))))))))))))))))))))))))))))))))))))))))))))))))))))
def H13 : List (Nat × Nat) := [(74, 5), (72, 7), (66, 5), (64, 1), (63, 1), (61, 5), (59, 4), (54, 5), (52, 7), (5, 7), (50, 1), (48, 5), (46, 4), (38, 4), (35, 4), (33, 5), (26, 4), (24, 5), (17, 4), (15, 5), (9, 4), (7, 5), (3, 5), (2, 4)]
def T15 : T :=
(.p .box [0] none
(q (.fld 1 none) [1]
(q (.bin .eql) [2, .k (.int .i64 0)]
(.ret [3]))))
def H15 : List (Nat × Nat) := [(3, 3), (1, 3)]
def T17 : T :=
(.p .box [0] none
(.p .box [1] none
(q (.fld 0 (some 7)) [2]
(q (.fld 0 (some 7)) [3]
(q (.eqa false [.i .i64, .i .i64, .i .i64, .i .i64, .i .u64, .i .i64, .i .u64]) [4, 5]
(.ret [6]))))))
def H17 : List (Nat × Nat) := [(3, 5), (2, 4)]
def T18 : T :=
(.p .box [0] none
(.p .box [1] none
(q (.fld 0 (some 17)) [2]
(q (.fld 0 (some 7)) [3]
(q (.call 13) [4, 5]
(q (.bin .neq) [6, .k (.int .i64 0)]
(.ite (.v 7) (.ret [.k (.str []), 6])
(q (.fld 3 (some 4)) [3]
(q (.fld 6 none) [2]
(q (.fld 7 none) [2]
(q (.call 27) [8, 9, 10]
(q (.ext 0) [11]
(q (.ext 1) [11]
(q (.bin .neq) [13, .k (.int .i64 0)]
(.ite (.v 14) (.ret [.k (.str []), 13])
(q (.fld 4 none) [2]
(q (.fld 0 none) [3]
(q (.idxS 11) [15, 16]
(q (.off 0) [17]
(q (.ldE none) [18]
(q (.bin .add) [19, .k (.str [58])]
(q (.fld 3 none) [2]
(q (.fld 1 none) [3]
(q (.idxS 9) [21, 22]
(q (.off 0) [23]
(q (.ldE none) [24]
(q (.bin .add) [20, 25]
(q (.bin .add) [26, .k (.str [58])]
(q (.fld 1 none) [2]
(q (.fld 2 none) [3]
(q (.idxS 3) [28, 29]
(q (.off 0) [30]
(q (.ldE none) [31]
(q (.bin .add) [27, 32]
(q (.bin .add) [33, .k (.str [58])]
(q (.bin .add) [34, 12]
(.ret [35, .k (.int .i64 0)])))))))))))))))))))))))))))))))))))))
def H18 : List (Nat × Nat) := [(50, 1), (49, 1), (47, 5), (45, 4), (41, 1), (40, 1), (38, 5), (36, 4), (33, 1), (32, 1), (30, 5), (28, 4), (20, 4), (18, 4), (16, 5), (3, 5), (2, 4)]
def T20 : T :=
(.p .box [0] none
(q (.call 46) [1]
(q (.ext 0) [3]
(q (.ext 1) [3]
(q (.un .not) [5]
(.ite (.v 6) (q (.build [(.int .i64 0), (.int .i64 0), (.int .i64 0), (.int .i64 0), (.int .u64 0), (.int .i64 0), (.int .u64 0)] []) []
(.p (.wr 0 7) [.k (.agg [(.int .i64 0), (.int .i64 0), (.int .i64 0), (.int .i64 0), (.int .u64 0), (.int .i64 0), (.int .u64 0)]), 7] none
(q (.fld 0 (some 7)) [8]
(.ret [9, .k (.int .i64 9)]))))
(q (.fld 0 (some 17)) [2]
(q (.idxS 1) [4, .k (.int .i64 0)]
(q (.ldE none) [8]
(q (.call 47) [7, 9]
(q (.fld 0 (some 17)) [2]
(q (.idxS 1) [4, .k (.int .i64 1)]
(q (.ldE none) [12]
(q (.call 48) [11, 13]
(q (.fld 0 (some 17)) [2]
(q (.idxS 1) [4, .k (.int .i64 2)]
(q (.ldE none) [16]
(q (.call 49) [15, 17]
(q (.build [(.int .i64 0), (.int .i64 0), (.int .i64 0), (.int .i64 0), (.int .u64 0), (.int .i64 0), (.int .u64 0)] [(0, 1), (1, 1), (2, 1)]) [10, 14, 18]
(.p (.wr 0 7) [.k (.agg [(.int .i64 0), (.int .i64 0), (.int .i64 0), (.int .i64 0), (.int .u64 0), (.int .i64 0), (.int .u64 0)]), 19] none
(q (.fld 0 none) [20]
(q (.bin .lss) [21, .k (.int .i64 0)]
(qf (.fld 1 none) [20] 22
(qf (.bin .lss) [23, .k (.int .i64 0)] 22
(q (.pick) [22, .k (.bool true), 24]
(qf (.fld 2 none) [20] 25
(qf (.bin .lss) [26, .k (.int .i64 0)] 25
(q (.pick) [25, .k (.bool true), 27]
(.ite (.v 28) (q (.build [(.int .i64 0), (.int .i64 0), (.int .i64 0), (.int .i64 0), (.int .u64 0), (.int .i64 0), (.int .u64 0)] []) []
(.p (.wr 0 7) [.k (.agg [(.int .i64 0), (.int .i64 0), (.int .i64 0), (.int .i64 0), (.int .u64 0), (.int .i64 0), (.int .u64 0)]), 29] none
(q (.fld 0 (some 7)) [30]
(.ret [31, .k (.int .i64 11)]))))
(q (.idxS 1) [4, .k (.int .i64 3)]
(q (.ldE none) [29]
(q (.fld 6 none) [2]
(q (.fld 7 none) [2]
(q (.call 26) [30, 31, 32]
(q (.ext 0) [33]
(q (.ext 1) [33]
(.p (.wr 0 4) [.k (.agg [(.int .i64 0), (.int .u64 0), (.int .i64 0), (.int .u64 0)]), 34] none
(q (.bin .neq) [35, .k (.int .i64 0)]
(.ite (.v 37) (q (.build [(.int .i64 0), (.int .i64 0), (.int .i64 0), (.int .i64 0), (.int .u64 0), (.int .i64 0), (.int .u64 0)] []) []
(.p (.wr 0 7) [.k (.agg [(.int .i64 0), (.int .i64 0), (.int .i64 0), (.int .i64 0), (.int .u64 0), (.int .i64 0), (.int .u64 0)]), 38] none
(q (.fld 0 (some 7)) [39]
(.ret [40, 35]))))
(q (.fld 0 (some 4)) [36]
(.p (.wr 3 4) [20, 38] none
(q (.fld 0 (some 17)) [2]
(q (.fld 0 (some 7)) [39]
(q (.call 13) [40, 41]
(q (.bin .neq) [42, .k (.int .i64 0)]
(.ite (.v 43) (q (.build [(.int .i64 0), (.int .i64 0), (.int .i64 0), (.int .i64 0), (.int .u64 0), (.int .i64 0), (.int .u64 0)] []) []
(.p (.wr 0 7) [.k (.agg [(.int .i64 0), (.int .i64 0), (.int .i64 0), (.int .i64 0), (.int .u64 0), (.int .i64 0), (.int .u64 0)]), 44] none
(q (.fld 0 (some 7)) [45]
(.ret [46, 42]))))
(q (.fld 0 (some 7)) [39]
(.p (.wr 0 7) [.k (.agg [(.int .i64 0), (.int .i64 0), (.int .i64 0), (.int .i64 0), (.int .u64 0), (.int .i64 0), (.int .u64 0)]), 44] none
(q (.fld 0 (some 7)) [45]
(.ret [46, .k (.int .i64 0)]))))))))))))))))))))))))))))))))))))))))))))))))))
def H20 : List (Nat × Nat) := [(66, 10), (9, 11), (56, 4), (54, 4), (52, 1), (45, 10), (40, 10), (36, 10), (8, 10), (32, 1), (27, 1), (22, 1), (4, 6), (2, 4)]
def T22 : T :=
(.p .box [0] none
(q (.fld 4 none) [1]
(q (.lenSl) [2]
(.loop 0 [.k (.int .i64 0), .k .nils] (q (.bin .lss) [4, 3]
(.ite (.v 6) (q (.fld 4 none) [1]
(q (.idxS 11) [7, 4]
(q (.off 5) [8]
(q (.ldE (some 2)) [9]
(.p (.wr 0 2) [.k (.agg [(.int .i64 0), (.int .u64 0)]), 10] none
(q (.fld 3 none) [1]
(q (.lenSl) [12]
(.loop 1 [.k (.int .i64 0), 5] (q (.bin .lss) [14, 13]
(.ite (.v 16) (q (.fld 1 none) [1]
(q (.lenSl) [17]
(.loop 2 [.k (.int .i64 0), 15] (q (.bin .lss) [19, 18]
(.ite (.v 21) (q (.fld 0 (some 2)) [11]
(q (.fld 0 (some 2)) [11]
(q (.build [(.int .i64 0), (.int .u64 0), (.int .i64 0), (.int .u64 0)] [(0, 2), (2, 2)]) [22, 23]
(q (.build [(.int .i64 0), (.int .i64 0), (.int .i64 0), (.int .i64 0), (.int .u64 0), (.int .i64 0), (.int .u64 0)] [(0, 1), (1, 1), (2, 1), (3, 4)]) [4, 14, 19, 24]
(.p (.wr 0 7) [.k (.agg [(.int .i64 0), (.int .i64 0), (.int .i64 0), (.int .i64 0), (.int .u64 0), (.int .i64 0), (.int .u64 0)]), 25] none
(q (.fld 0 (some 17)) [1]
(q (.fld 0 (some 7)) [26]
(q (.call 13) [27, 28]
(q (.bin .eql) [29, .k (.int .i64 0)]
(.ite (.v 30) (q (.fld 0 (some 7)) [26]
(q (.bslice false 7) [31]
(.s (.app false 7) [20, 32] none
(q (.bin .add) [19, .k (.int .i64 1)]
(.next 2 [34, 33])))))
(q (.bin .add) [19, .k (.int .i64 1)]
(.next 2 [31, 20]))))))))))))
(q (.bin .add) [14, .k (.int .i64 1)]
(.next 1 [22, 20])))))))
(q (.bin .add) [4, .k (.int .i64 1)]
(.next 0 [17, 15]))))))))))))
(.ret [5])))))))
def H22 : List (Nat × Nat) := [(8, 10), (27, 3), (21, 3), (5, 7), (19, 1), (18, 1), (15, 3), (9, 3), (1, 3)]
def T24 : T :=
(.p .box [0] none
(q (.fld 14 none) [2]
(q (.lenSl) [3]
(.loop 0 [.k (.int .i64 0), .k (.bool false), .k (.agg [(.int .i64 0), (.int .i64 0), (.int .i64 0), (.int .i64 0), (.int .u64 0), (.int .i64 0), (.int .u64 0)])] (q (.bin .lss) [5, 4]
(.ite (.v 8) (q (.idxS 8) [3, 5]
(q (.ldE (some 8)) [9]
(.p (.wr 0 8) [.k (.agg [(.str []), (.int .i64 0), (.int .i64 0), (.int .i64 0), (.int .i64 0), (.int .u64 0), (.int .i64 0), (.int .u64 0)]), 10] none
(q (.fld 0 none) [11]
(q (.bin .eql) [12, 1]
(.ite (.v 13) (q (.fld 1 (some 7)) [11]
(.p (.wr 0 7) [7, 14] none
(q (.fld 0 (some 7)) [15]
(.ret [16, .k (.bool true)]))))
(q (.bin .add) [5, .k (.int .i64 1)]
(.next 0 [14, 6, 7]))))))))
(q (.build [(.int .i64 0), (.int .i64 0), (.int .i64 0), (.int .i64 0), (.int .u64 0), (.int .i64 0), (.int .u64 0)] []) []
(.p (.wr 0 7) [7, 9] none
(q (.fld 0 (some 7)) [10]
(.ret [11, .k (.bool false)]))))))))))
def H24 : List (Nat × Nat) := [(19, 9), (15, 9), (7, 9), (13, 1), (8, 4), (4, 6), (2, 4)]
def T26 : T :=
(q (.call 53) [1, 2]
(q (.un .not) [3]
(.ite (.v 4) (q (.build [(.int .i64 0), (.int .u64 0), (.int .i64 0), (.int .u64 0)] []) []
(.p (.wr 0 4) [.k (.agg [(.int .i64 0), (.int .u64 0), (.int .i64 0), (.int .u64 0)]), 5] none
(q (.fld 0 (some 4)) [6]
(.ret [7, .k (.int .i64 2)]))))
(q (.call 54) [0, .k (.str [45])]
(q (.ext 0) [5]
(q (.ext 1) [5]
(q (.ext 2) [5]
(q (.call 55) [6]
(q (.ext 0) [9]
(q (.ext 1) [9]
(.p (.wr 0 2) [.k (.agg [(.str []), .nils, (.str []), .nils]), 10] none
(q (.un .not) [11]
(.ite (.v 13) (q (.build [(.int .i64 0), (.int .u64 0), (.int .i64 0), (.int .u64 0)] []) []
(.p (.wr 0 4) [.k (.agg [(.int .i64 0), (.int .u64 0), (.int .i64 0), (.int .u64 0)]), 14] none
(q (.fld 0 (some 4)) [15]
(.ret [16, .k (.int .i64 9)]))))
(.join 0 4 (.ite (.v 8) (q (.call 55) [7]
(q (.ext 0) [14]
(q (.ext 1) [14]
(.p (.wr 2 2) [12, 15] none
(q (.un .not) [16]
(.ite (.v 18) (q (.build [(.int .i64 0), (.int .u64 0), (.int .i64 0), (.int .u64 0)] []) []
(.p (.wr 0 4) [.k (.agg [(.int .i64 0), (.int .u64 0), (.int .i64 0), (.int .u64 0)]), 19] none
(q (.fld 0 (some 4)) [20]
(.ret [21, .k (.int .i64 9)]))))
(.next 0 [16, .k (.int .i64 0), 17, .k (.agg [(.int .i64 0), (.int .u64 0), (.int .i64 0), (.int .u64 0)])])))))))
(.next 0 [11, .k (.int .i64 0), 12, .k (.agg [(.int .i64 0), (.int .u64 0), (.int .i64 0), (.int .u64 0)])]))
(q (.fld 0 (some 4)) [16]
(q (.call 56) [18, 1, 2]
(q (.ext 0) [19]
(q (.ext 1) [19]
(.p (.wr 0 4) [17, 20] none
(q (.fld 0 (some 4)) [22]
(.ret [23, 21])))))))))))))))))))))
def H26 : List (Nat × Nat) := [(39, 13), (29, 13), (11, 13), (6, 8)]
def T27 : T :=
(.p .box [0] none
(q (.fld 0 (some 4)) [3]
(q (.call 57) [4, 1, 2]
(q (.bin .neq) [5, .k (.int .i64 0)]
(.ite (.v 6) (.ret [.k (.str []), 5])
(q (.fld 0 (some 2)) [3]
(q (.call 58) [7, 1, 2]
(q (.fld 0 (some 2)) [3]
(q (.fld 2 (some 2)) [3]
(q (.eqa false [.i .i64, .i .u64]) [9, 10]
(.ite (.v 11) (.ret [8, .k (.int .i64 0)])
(q (.bin .add) [8, .k (.str [45])]
(q (.fld 2 (some 2)) [3]
(q (.call 58) [13, 1, 2]
(q (.bin .add) [12, 14]
(.ret [15, .k (.int .i64 0)]))))))))))))))))
def H27 : List (Nat × Nat) := [(30, 5), (24, 5), (22, 5), (17, 5), (3, 5)]
def T28 : T :=
(.p .box [0] none
(q (.fld 0 (some 2)) [3]
(q (.call 59) [4, 1, 2]
(qt (.fld 2 (some 2)) [3] 5
(qt (.mv) [1] 5
(qt (.mv) [2] 5
(qt (.call 59) [6, 7, 8] 5
(q (.pick) [5, 9, .k (.bool false)]
(qt (.fld 2 (some 2)) [3] 10
(qt (.fld 0 (some 2)) [3] 10
(qt (.call 60) [11, 12] 10
(q (.pick) [10, 13, .k (.bool false)]
(.ret [14])))))))))))))
def H28 : List (Nat × Nat) := [(22, 5), (20, 5), (13, 5), (7, 5), (3, 5)]
def T29 : T :=
(.s (.box) [0] none
(q (.bin .geq) [1, .k (.int .i64 0)]
(qt (.mv) [1] 3
(qt (.bin .lss) [4, .k (.int .i64 256)] 3
(q (.pick) [3, 5, .k (.bool false)]
(.ite (.v 6) (q (.bin .quo) [1, .k (.int .i64 64)]
(q (.bin .quo) [1, .k (.int .i64 64)]
(q (.idxA 4 1) [2, 8]
(.s (.ld none) [9] none
(q (.call 61) [1]
(q (.bin .andNot) [10, 11]
(q (.idxA 4 1) [2, 7]
(.s (.st 1) [13, 12] none
(.s (.ld (some 4)) [2] none
(.p (.wr 0 4) [.k (.agg [(.int .u64 0), (.int .u64 0), (.int .u64 0), (.int .u64 0)]), 15] none
(q (.fld 0 (some 4)) [16]
(.ret [17]))))))))))))
(.s (.ld (some 4)) [2] none
(.p (.wr 0 4) [.k (.agg [(.int .u64 0), (.int .u64 0), (.int .u64 0), (.int .u64 0)]), 7] none
(q (.fld 0 (some 4)) [8]
(.ret [9]))))))))))
def H29 : List (Nat × Nat) := [(4, 6)]
def T30 : T :=
(q (.build [(.int .u64 0), (.int .u64 0), (.int .u64 0), (.int .u64 0)] []) []
(.p (.wr 0 4) [.k (.agg [(.int .u64 0), (.int .u64 0), (.int .u64 0), (.int .u64 0)]), 1] none
(.loop 0 [.k (.int .i64 0), 2] (q (.bin .lss) [3, 0]
(qt (.mv) [3] 5
(qt (.bin .lss) [6, .k (.int .i64 256)] 5
(q (.pick) [5, 7, .k (.bool false)]
(.ite (.v 8) (q (.fld 0 (some 4)) [4]
(q (.call 62) [9, 3]
(.p (.wr 0 4) [4, 10] none
(q (.bin .add) [3, .k (.int .i64 1)]
(.next 0 [12, 11])))))
(q (.fld 0 (some 4)) [4]
(.p (.wr 0 4) [.k (.agg [(.int .u64 0), (.int .u64 0), (.int .u64 0), (.int .u64 0)]), 9] none
(q (.fld 0 (some 4)) [10]
(.ret [11]))))))))))))
def H30 : List (Nat × Nat) := [(3, 5), (2, 4)]
def T31 : T :=
(.p .box [0] none
(.p .box [1] none
(q (.fld 0 (some 2)) [2]
(q (.fld 0 (some 2)) [3]
(q (.call 63) [4, 5]
(q (.fld 2 (some 2)) [2]
(q (.fld 2 (some 2)) [3]
(q (.call 64) [7, 8]
(q (.build [(.int .i64 0), (.int .u64 0), (.int .i64 0), (.int .u64 0)] [(0, 2), (2, 2)]) [6, 9]
(.p (.wr 0 4) [.k (.agg [(.int .i64 0), (.int .u64 0), (.int .i64 0), (.int .u64 0)]), 10] none
(q (.fld 0 (some 4)) [11]
(.ret [12]))))))))))))
def H31 : List (Nat × Nat) := [(12, 5), (10, 4), (7, 5), (5, 4), (4, 6), (3, 5), (2, 4)]
def T34 : T :=
(.p .box [0] none
(q (.fld 1 none) [1]
(q (.lenSl) [2]
(q (.bin .gtr) [3, .k (.int .i64 12)]
(qf (.fld 2 none) [1] 4
(qf (.lenSl) [5] 4
(qf (.bin .gtr) [6, .k (.int .i64 6)] 4
(q (.pick) [4, .k (.bool true), 7]
(qf (.fld 0 none) [1] 8
(qf (.lenSl) [9] 8
(qf (.bin .gtr) [10, .k (.int .i64 6)] 8
(q (.pick) [8, .k (.bool true), 11]
(qf (.fld 9 none) [1] 12
(qf (.lenSl) [13] 12
(qf (.bin .gtr) [14, .k (.int .i64 40)] 12
(q (.pick) [12, .k (.bool true), 15]
(qf (.fld 8 none) [1] 16
(qf (.lenSl) [17] 16
(qf (.bin .gtr) [18, .k (.int .i64 6)] 16
(q (.pick) [16, .k (.bool true), 19]
(qf (.fld 5 none) [1] 20
(qf (.lenSl) [21] 20
(qf (.bin .gtr) [22, .k (.int .i64 6)] 20
(q (.pick) [20, .k (.bool true), 23]
(qf (.fld 13 none) [1] 24
(qf (.lenSl) [25] 24
(qf (.bin .gtr) [26, .k (.int .i64 12)] 24
(q (.pick) [24, .k (.bool true), 27]
(qf (.fld 4 none) [1] 28
(qf (.lenSl) [29] 28
(qf (.bin .gtr) [30, .k (.int .i64 8)] 28
(q (.pick) [28, .k (.bool true), 31]
(qf (.fld 3 none) [1] 32
(qf (.lenSl) [33] 32
(qf (.bin .gtr) [34, .k (.int .i64 8)] 32
(q (.pick) [32, .k (.bool true), 35]
(.ite (.v 36) (.ret [.k (.bool false)])
(q (.fld 10 none) [1]
(q (.lenSl) [37]
(q (.bin .gtr) [38, .k (.int .i64 36)]
(qf (.fld 11 none) [1] 39
(qf (.lenSl) [40] 39
(qf (.bin .gtr) [41, .k (.int .i64 12)] 39
(q (.pick) [39, .k (.bool true), 42]
(qf (.fld 12 none) [1] 43
(qf (.lenSl) [44] 43
(qf (.bin .gtr) [45, .k (.int .i64 12)] 43
(q (.pick) [43, .k (.bool true), 46]
(qf (.fld 6 none) [1] 47
(qf (.lenSl) [48] 47
(qf (.bin .gtr) [49, .k (.int .i64 6)] 47
(q (.pick) [47, .k (.bool true), 50]
(qf (.fld 7 none) [1] 51
(qf (.lenSl) [52] 51
(qf (.bin .gtr) [53, .k (.int .i64 10)] 51
(q (.pick) [51, .k (.bool true), 54]
(qf (.fld 14 none) [1] 55
(qf (.lenSl) [56] 55
(qf (.bin .gtr) [57, .k (.int .i64 8)] 55
(q (.pick) [55, .k (.bool true), 58]
(qf (.fld 15 none) [1] 59
(qf (.lenSl) [60] 59
(qf (.bin .gtr) [61, .k (.int .i64 12)] 59
(q (.pick) [59, .k (.bool true), 62]
(qf (.fld 16 none) [1] 63
(qf (.lenSl) [64] 63
(qf (.bin .gtr) [65, .k (.int .i64 8)] 63
(q (.pick) [63, .k (.bool true), 66]
(.ite (.v 67) (.ret [.k (.bool false)])
(.s (.alloc [(.int .i64 0), (.int .i64 0), (.int .i64 0), (.int .i64 0)]) [] none
(.loop 0 [.k (.int .i64 0)] (q (.fld 10 none) [1]
(q (.lenSl) [70]
(q (.bin .lss) [69, 71]
(.ite (.v 72) (q (.fld 10 none) [1]
(q (.idxS 13) [73, 69]
(q (.off 0) [74]
(q (.ldE none) [75]
(q (.bin .gtr) [76, .k (.int .i64 0)]
(qt (.mv) [76] 77
(qt (.bin .lss) [78, .k (.int .i64 4)] 77
(q (.pick) [77, 79, .k (.bool false)]
(.ite (.v 80) (q (.idxA 4 1) [68, 76]
(.s (.ld none) [81] none
(q (.bin .add) [82, .k (.int .i64 1)]
(q (.idxA 4 1) [68, 76]
(.s (.st 1) [84, 83] none
(q (.bin .add) [69, .k (.int .i64 1)]
(.next 0 [86])))))))
(q (.bin .add) [69, .k (.int .i64 1)]
(.next 0 [81])))))))))))
(.loop 1 [.k (.int .i64 0), .k (.bool false)] (q (.fld 1 none) [1]
(q (.lenSl) [75]
(q (.bin .lss) [73, 76]
(.ite (.v 77) (q (.fld 1 none) [1]
(q (.idxS 3) [78, 73]
(q (.off 1) [79]
(q (.ldE none) [80]
(q (.lenSl) [81]
(q (.bin .gtr) [82, .k (.int .i64 4)]
(.ite (.v 83) (.ret [.k (.bool false)])
(q (.bin .add) [73, .k (.int .i64 1)]
(.next 1 [84, 74])))))))))
(.loop 2 [.k (.int .i64 0), 74] (q (.fld 8 none) [1]
(q (.lenSl) [80]
(q (.bin .lss) [78, 81]
(.ite (.v 82) (q (.fld 8 none) [1]
(q (.idxS 10) [83, 78]
(q (.ldE (some 10)) [84]
(q (.call 67) [85]
(q (.bin .gtr) [86, .k (.int .i64 6)]
(.ite (.v 87) (.ret [.k (.bool false)])
(q (.bin .add) [78, .k (.int .i64 1)]
(.next 2 [88, 79]))))))))
(.loop 3 [.k (.int .i64 0), 79] (q (.fld 13 none) [1]
(q (.lenSl) [85]
(q (.bin .lss) [83, 86]
(.ite (.v 87) (q (.fld 13 none) [1]
(q (.idxS 13) [88, 83]
(q (.off 3) [89]
(q (.ldE (some 10)) [90]
(q (.call 67) [91]
(q (.bin .gtr) [92, .k (.int .i64 6)]
(.ite (.v 93) (.ret [.k (.bool false)])
(q (.bin .add) [83, .k (.int .i64 1)]
(.next 3 [94, 84])))))))))
(q (.idxA 4 1) [68, .k (.int .i64 1)]
(.s (.ld none) [88] none
(q (.bin .leq) [89, .k (.int .i64 12)]
(qt (.idxA 4 1) [68, .k (.int .i64 2)] 90
(.s (.ld none) [91] (some (90, true))
(qt (.bin .leq) [92, .k (.int .i64 12)] 90
(q (.pick) [90, 93, .k (.bool false)]
(qt (.idxA 4 1) [68, .k (.int .i64 3)] 94
(.s (.ld none) [95] (some (94, true))
(qt (.bin .leq) [96, .k (.int .i64 12)] 94
(q (.pick) [94, 97, .k (.bool false)]
(.ret [98]))))))))))))))))))))))))))))))))))))))))))))))))))))))))))))))))))))))))))))))))))))))))))))))))))))))
def H34 : List (Nat × Nat) := [(171, 1), (170, 1), (167, 3), (161, 3), (156, 1), (153, 3), (147, 3), (142, 1), (141, 1), (138, 3), (132, 3), (118, 1), (117, 1), (114, 3), (108, 3), (102, 3), (96, 3), (90, 3), (84, 3), (78, 3), (72, 3), (66, 3), (61, 3), (56, 3), (50, 3), (44, 3), (38, 3), (32, 3), (26, 3), (20, 3), (14, 3), (9, 3), (1, 3)]
def T35 : T :=
(.p .box [0] none
(q (.fld 0 (some 17)) [1]
(q (.call 69) [2]
(q (.fld 0 (some 17)) [1]
(q (.call 70) [4]
(q (.fld 0 (some 17)) [1]
(q (.call 71) [6]
(q (.bslice false 1) [3, 5, 7]
(q (.call 68) [8]
(q (.bin .neq) [9, .k (.int .i64 0)]
(.ite (.v 10) (.ret [9])
(q (.fld 0 (some 17)) [1]
(q (.call 72) [11]
(q (.fld 0 (some 17)) [1]
(q (.call 73) [13]
(q (.fld 0 (some 17)) [1]
(q (.call 74) [15]
(q (.fld 0 (some 17)) [1]
(q (.call 75) [17]
(q (.fld 0 (some 17)) [1]
(q (.call 76) [19]
(q (.fld 0 (some 17)) [1]
(q (.call 77) [21]
(q (.fld 0 (some 17)) [1]
(q (.call 78) [23]
(q (.fld 0 (some 17)) [1]
(q (.call 79) [25]
(q (.bslice false 1) [12, 14, 16, 18, 20, 22, 24, 26]
(q (.call 68) [27]
(.ret [28]))))))))))))))))))))))))))))))
def H35 : List (Nat × Nat) := [(1, 3)]
def T36 : T :=
(q (.bslice false 1) [.k (.str [114, 101, 97, 100]), .k (.str [119, 114, 105, 116, 101]), .k (.str [99, 114, 101, 97, 116, 101]), .k (.str [117, 110, 108, 105, 110, 107]), .k (.str [101, 120, 101, 99, 117, 116, 101]), .k (.str [101, 110, 116, 114, 121, 112, 111, 105, 110, 116]), .k (.str [114, 101, 108, 97, 98, 101, 108, 102, 114, 111, 109]), .k (.str [114, 101, 108, 97, 98, 101, 108, 116, 111])]
(q (.bslice false 1) [.k (.str [114, 101, 97, 100]), .k (.str [119, 114, 105, 116, 101]), .k (.str [99, 114, 101, 97, 116, 101]), .k (.str [117, 110, 108, 105, 110, 107]), .k (.str [97, 100, 100]), .k (.str [114, 101, 109, 111, 118, 101]), .k (.str [114, 101, 108, 97, 98, 101, 108, 102, 114, 111, 109]), .k (.str [114, 101, 108, 97, 98, 101, 108, 116, 111])]
(q (.bslice false 1) [.k (.str [102, 111, 114, 107]), .k (.str [116, 114, 97, 110, 115, 105, 116, 105, 111, 110]), .k (.str [100, 121, 110, 116, 114, 97, 110, 115, 105, 116, 105, 111, 110]), .k (.str [115, 101, 110, 100])]
(q (.build [(.str []), .nils] [(0, 1), (1, 1)]) [.k (.str [112, 114, 111, 99, 101, 115, 115]), 2]
(q (.build [(.str []), .nils] [(0, 1), (1, 1)]) [.k (.str [102, 105, 108, 101]), 0]
(q (.build [(.str []), .nils] [(0, 1), (1, 1)]) [.k (.str [100, 105, 114]), 1]
(q (.bslice false 2) [3, 4, 5]
(q (.build [(.str []), .nils, (.bool false)] [(0, 1)]) [.k (.str [105, 110, 105, 116, 95, 116])]
(q (.build [(.str []), .nils, (.bool false)] [(0, 1)]) [.k (.str [117, 115, 101, 114, 95, 116])]
(q (.build [(.str []), .nils, (.bool false)] [(0, 1)]) [.k (.str [102, 105, 108, 101, 95, 116])]
(q (.build [(.str []), .nils, (.bool false)] [(0, 1)]) [.k (.str [115, 104, 101, 108, 108, 95, 116])]
(q (.bslice false 3) [7, 8, 9, 10]
(q (.bslice false 1) [.k (.int .i64 0), .k (.int .i64 1)]
(q (.call 80) [12]
(q (.build [(.str []), (.int .u64 0), (.int .u64 0), (.int .u64 0), (.int .u64 0)] [(0, 1), (1, 4)]) [.k (.str [100, 111, 109, 97, 105, 110]), 13]
(q (.bslice false 5) [14]
(q (.build [(.str []), (.int .u64 0), (.int .u64 0), (.int .u64 0), (.int .u64 0), (.int .u64 0), (.int .u64 0), (.int .u64 0), (.int .u64 0)] [(0, 1)]) [.k (.str [111, 98, 106, 101, 99, 116, 95, 114])]
(q (.bslice false 1) [.k (.int .i64 0), .k (.int .i64 1)]
(q (.call 80) [17]
(q (.build [(.str []), (.int .u64 0), (.int .u64 0), (.int .u64 0), (.int .u64 0), (.int .u64 0), (.int .u64 0), (.int .u64 0), (.int .u64 0)] [(0, 1), (1, 4)]) [.k (.str [115, 121, 115, 116, 101, 109]), 18]
(q (.bslice false 9) [16, 19]
(q (.bslice false 1) [.k (.int .i64 1)]
(q (.call 80) [21]
(q (.build [(.str []), (.int .u64 0), (.int .u64 0), (.int .u64 0), (.int .u64 0), (.int .i64 0), (.int .u64 0), (.int .i64 0), (.int .u64 0), (.int .i64 0), (.int .u64 0)] [(0, 1), (1, 4)]) [.k (.str [114, 111, 111, 116]), 22]
(q (.bslice false 11) [23]
(q (.build [(.str []), (.bool false)] [(0, 1)]) [.k (.str [115, 104, 97, 114, 101])]
(q (.bslice false 2) [25]
(q (.bslice false 1) [.k (.str [115, 48])]
(q (.build [(.int .i64 0), (.int .i64 0), (.int .i64 0), (.int .i64 0), .nils, (.int .u64 0), (.int .u64 0), (.int .u64 0), (.int .u64 0), .nils] [(0, 1)]) [.k (.int .i64 1)]
(q (.bslice false 10) [28]
(q (.bslice false 1) [.k (.int .i64 0), .k (.int .i64 1)]
(q (.call 80) [30]
(q (.build [(.int .i64 0), (.int .u64 0), (.int .u64 0), (.int .u64 0), (.int .u64 0), (.int .u64 0), (.int .u64 0), (.int .u64 0), (.int .u64 0), (.bool false), (.int .i64 0), (.int .u32 0), (.int .i64 0)] [(0, 1), (1, 4), (9, 1), (10, 1), (11, 1)]) [.k (.int .i64 1), 31, .k (.bool true), .k (.int .i64 0), .k (.int .u32 9)]
(q (.bslice false 1) [.k (.int .i64 0)]
(q (.call 80) [33]
(q (.bslice false 1) [.k (.int .i64 2), .k (.int .i64 3)]
(q (.call 80) [35]
(q (.build [(.int .i64 0), (.int .u64 0), (.int .u64 0), (.int .u64 0), (.int .u64 0), (.int .u64 0), (.int .u64 0), (.int .u64 0), (.int .u64 0), (.bool false), (.int .i64 0), (.int .u32 0), (.int .i64 0)] [(0, 1), (1, 4), (5, 4), (10, 1), (11, 1)]) [.k (.int .i64 1), 34, 36, .k (.int .i64 1), .k (.int .u32 17)]
(q (.bslice false 1) [.k (.int .i64 0)]
(q (.call 80) [38]
(q (.bslice false 1) [.k (.int .i64 1)]
(q (.call 80) [40]
(q (.build [(.int .i64 0), (.int .u64 0), (.int .u64 0), (.int .u64 0), (.int .u64 0), (.int .u64 0), (.int .u64 0), (.int .u64 0), (.int .u64 0), (.bool false), (.int .i64 0), (.int .u32 0), (.int .i64 0)] [(0, 1), (1, 4), (5, 4), (10, 1), (11, 1)]) [.k (.int .i64 1), 39, 41, .k (.int .i64 0), .k (.int .u32 2)]
(q (.bslice false 1) [.k (.int .i64 1)]
(q (.call 80) [43]
(q (.bslice false 1) [.k (.int .i64 3)]
(q (.call 80) [45]
(q (.build [(.int .i64 0), (.int .u64 0), (.int .u64 0), (.int .u64 0), (.int .u64 0), (.int .u64 0), (.int .u64 0), (.int .u64 0), (.int .u64 0), (.bool false), (.int .i64 0), (.int .u32 0), (.int .i64 0)] [(0, 1), (1, 4), (5, 4), (10, 1), (11, 1)]) [.k (.int .i64 1), 44, 46, .k (.int .i64 1), .k (.int .u32 32)]
(q (.bslice false 1) [.k (.int .i64 1)]
(q (.call 80) [48]
(q (.bslice false 1) [.k (.int .i64 2)]
(q (.call 80) [50]
(q (.build [(.int .i64 0), (.int .u64 0), (.int .u64 0), (.int .u64 0), (.int .u64 0), (.int .u64 0), (.int .u64 0), (.int .u64 0), (.int .u64 0), (.bool false), (.int .i64 0), (.int .u32 0), (.int .i64 0)] [(0, 1), (1, 4), (5, 4), (10, 1), (11, 1), (12, 1)]) [.k (.int .i64 1), 49, 51, .k (.int .i64 1), .k (.int .u32 1), .k (.int .i64 1)]
(q (.bslice false 13) [32, 37, 42, 47, 52]
(q (.bslice false 1) [.k (.int .i64 0)]
(q (.call 80) [54]
(q (.bslice false 1) [.k (.int .i64 3)]
(q (.call 80) [56]
(q (.build [(.int .i64 0), (.int .u64 0), (.int .u64 0), (.int .u64 0), (.int .u64 0), (.int .u64 0), (.int .u64 0), (.int .u64 0), (.int .u64 0), (.int .i64 0), (.str []), (.int .i64 0), (.int .i64 0)] [(0, 1), (1, 4), (5, 4), (9, 1), (11, 1)]) [.k (.int .i64 1), 55, 57, .k (.int .i64 0), .k (.int .i64 1)]
(q (.bslice false 13) [58]
(q (.call 37) []
(q (.build [(.str []), (.int .i64 0), (.int .i64 0), (.int .i64 0), (.int .i64 0), (.int .u64 0), (.int .i64 0), (.int .u64 0)] [(0, 1), (1, 7)]) [.k (.str [107, 101, 114, 110, 101, 108]), 60]
(q (.call 81) []
(q (.build [(.str []), (.int .i64 0), (.int .i64 0), (.int .i64 0), (.int .i64 0), (.int .u64 0), (.int .i64 0), (.int .u64 0)] [(0, 1), (1, 7)]) [.k (.str [114, 111, 111, 116]), 62]
(q (.call 81) []
(q (.build [(.str []), (.int .i64 0), (.int .i64 0), (.int .i64 0), (.int .i64 0), (.int .u64 0), (.int .i64 0), (.int .u64 0)] [(0, 1), (1, 7)]) [.k (.str [117, 110, 108, 97, 98, 101, 108, 101, 100]), 64]
(q (.bslice false 8) [61, 63, 65]
(q (.build [.nils, .nils, .nils, .nils, .nils, .nils, .nils, .nils, .nils, .nils, .nils, .nils, .nils, .nils, .nils, .nils, .nils] [(0, 1), (1, 1), (2, 1), (3, 1), (4, 1), (5, 1), (6, 1), (8, 1), (9, 1), (10, 1), (14, 1)]) [6, 11, 15, 20, 24, 26, 27, 29, 53, 59, 66]
(.p (.wr 0 17) [.k (.agg [.nils, .nils, .nils, .nils, .nils, .nils, .nils, .nils, .nils, .nils, .nils, .nils, .nils, .nils, .nils, .nils, .nils]), 67] none
(q (.fld 0 (some 17)) [68]
(.ret [69])))))))))))))))))))))))))))))))))))))))))))))))))))))))))))))))))))))))
def H36 : List (Nat × Nat) := [(0, 2)]
def T37 : T :=
(q (.build [(.int .i64 0), (.int .i64 0), (.int .i64 0), (.int .i64 0), (.int .u64 0), (.int .i64 0), (.int .u64 0)] [(1, 1), (2, 1)]) [.k (.int .i64 1), .k (.int .i64 0)]
(.p (.wr 0 7) [.k (.agg [(.int .i64 0), (.int .i64 0), (.int .i64 0), (.int .i64 0), (.int .u64 0), (.int .i64 0), (.int .u64 0)]), 0] none
(q (.fld 0 (some 7)) [1]
(.ret [2]))))
def H37 : List (Nat × Nat) := [(0, 2)]
def T38 : T :=
(q (.bin .geq) [0, .k (.int .i64 0)]
(qt (.mv) [0] 2
(qt (.mv) [1] 2
(qt (.bin .lss) [3, 4] 2
(q (.pick) [2, 5, .k (.bool false)]
(.ret [6]))))))
def H38 : List (Nat × Nat) := []
def T39 : T :=
(.s (.box) [0] none
(q (.call 82) [1]
(qt (.mv) [1] 3
(qt (.bin .quo) [4, .k (.int .i64 64)] 3
(qt (.idxA 4 1) [2, 5] 3
(.s (.ld none) [6] (some (3, true))
(qt (.mv) [1] 3
(qt (.bin .rem) [8, .k (.int .i64 64)] 3
(qt (.bin .shr) [7, 9] 3
(qt (.bin .and) [10, .k (.int .u64 1)] 3
(qt (.bin .eql) [11, .k (.int .u64 1)] 3
(q (.pick) [3, 12, .k (.bool false)]
(.ret [13])))))))))))))
def H39 : List (Nat × Nat) := []
def T40 : T :=
(.p .box [0] none
(.p .box [1] none
(q (.fld 0 (some 2)) [3]
(q (.fld 0 (some 2)) [2]
(q (.call 60) [4, 5]
(qt (.fld 2 (some 2)) [2] 6
(qt (.fld 2 (some 2)) [3] 6
(qt (.call 60) [7, 8] 6
(q (.pick) [6, 9, .k (.bool false)]
(.ret [10]))))))))))
def H40 : List (Nat × Nat) := [(13, 5), (11, 4), (7, 4), (5, 5), (3, 5), (2, 4)]
def T43 : T :=
(.s (.box) [0] none
(q (.bin .geq) [1, .k (.int .i64 0)]
(qt (.mv) [1] 3
(qt (.bin .lss) [4, .k (.int .i64 256)] 3
(q (.pick) [3, 5, .k (.bool false)]
(qt (.mv) [1] 6
(qt (.bin .quo) [7, .k (.int .i64 64)] 6
(qt (.idxA 4 1) [2, 8] 6
(.s (.ld none) [9] (some (6, true))
(qt (.mv) [1] 6
(qt (.call 61) [11] 6
(qt (.bin .and) [10, 12] 6
(qt (.bin .neq) [13, .k (.int .u64 0)] 6
(q (.pick) [6, 14, .k (.bool false)]
(.ret [15])))))))))))))))
def H43 : List (Nat × Nat) := []
def T46 : T :=
(.p .rng [0] none
(.loop 0 [.k (.int .i64 0), .k .nils, 1] (.p (.nx false) [4] none
(.p (.nx true) [4] none
(q (.ext 0) [5]
(.ite (.v 7) (q (.ext 1) [5]
(q (.ext 2) [5]
(q (.bin .eql) [9, .k (.int .i32 58)]
(qt (.mv) [3] 10
(qt (.lenSl) [11] 10
(qt (.bin .lss) [12, .k (.int .i64 3)] 10
(q (.pick) [10, 13, .k (.bool false)]
(.ite (.v 14) (q (.slcS true true) [0, 2, 8]
(q (.bslice false 1) [15]
(.s (.app false 1) [3, 16] none
(q (.bin .add) [8, .k (.int .i64 1)]
(.next 0 [18, 17, 6])))))
(.next 0 [2, 3, 6])))))))))
(q (.slcS true false) [0, 2]
(q (.bslice false 1) [8]
(.s (.app false 1) [3, 9] none
(q (.lenSl) [3]
(q (.bin .eql) [11, .k (.int .i64 3)]
(.ret [10, 12]))))))))))))
def H46 : List (Nat × Nat) := [(9, 11)]
def T47 : T :=
(.p .box [0] none
(.s (.box) [1] none
(q (.fld 4 none) [2]
(q (.mkfunc 88) [3]
(.s (.callI 87) [4, 5] none
(.ret [6]))))))
def H47 : List (Nat × Nat) := [(5, 4), (2, 4)]
def T48 : T :=
(.p .box [0] none
(.s (.box) [1] none
(q (.fld 3 none) [2]
(q (.mkfunc 90) [3]
(.s (.callI 89) [4, 5] none
(.ret [6]))))))
def H48 : List (Nat × Nat) := [(5, 4), (2, 4)]
def T49 : T :=
(.p .box [0] none
(.s (.box) [1] none
(q (.fld 1 none) [2]
(q (.mkfunc 92) [3]
(.s (.callI 91) [4, 5] none
(.ret [6]))))))
def H49 : List (Nat × Nat) := [(5, 4), (2, 4)]
def T53 : T :=
(q (.call 100) [0, .k (.int .i64 16)]
(qt (.mv) [1] 2
(qt (.call 100) [3, .k (.int .i64 64)] 2
(q (.pick) [2, 4, .k (.bool false)]
(.ret [5])))))
def H53 : List (Nat × Nat) := []
def T55 : T :=
(q (.call 54) [0, .k (.str [58])]
(q (.ext 0) [1]
(q (.ext 1) [1]
(q (.ext 2) [1]
(q (.build [(.str []), .nils] [(0, 1)]) [2]
(.p (.wr 0 2) [.k (.agg [(.str []), .nils]), 5] none
(q (.call 102) [2]
(q (.un .not) [7]
(.ite (.v 8) (q (.fld 0 (some 2)) [6]
(.p (.wr 0 2) [.k (.agg [(.str []), .nils]), 9] none
(q (.fld 0 (some 2)) [10]
(.ret [11, .k (.bool false)]))))
(q (.un .not) [4]
(.ite (.v 9) (q (.fld 0 (some 2)) [6]
(.p (.wr 0 2) [.k (.agg [(.str []), .nils]), 10] none
(q (.fld 0 (some 2)) [11]
(.ret [12, .k (.bool true)]))))
(q (.call 103) [3, .k (.str [44])]
(q (.lenSl) [10]
(.loop 0 [.k (.int .i64 0), .k (.bool false), 6, .k (.agg [(.str []), .nils])] (q (.bin .lss) [12, 11]
(.ite (.v 16) (q (.idxS 1) [10, 12]
(q (.ldE none) [17]
(q (.call 104) [18]
(q (.ext 0) [19]
(q (.ext 1) [19]
(.p (.wr 0 2) [.k (.agg [(.str []), (.str [])]), 20] none
(q (.un .not) [21]
(.ite (.v 23) (q (.fld 0 (some 2)) [14]
(.p (.wr 0 2) [15, 24] none
(q (.fld 0 (some 2)) [25]
(.ret [26, .k (.bool false)]))))
(q (.fld 1 none) [14]
(q (.fld 0 (some 2)) [22]
(q (.bslice false 2) [25]
(.s (.app false 2) [24, 26] none
(.p (.wr 1 1) [14, 27] none
(q (.bin .add) [12, .k (.int .i64 1)]
(.next 0 [29, 13, 28, 15])))))))))))))))
(q (.fld 0 (some 2)) [14]
(.p (.wr 0 2) [15, 17] none
(q (.fld 0 (some 2)) [18]
(.ret [19, .k (.bool true)]))))))))))))))))))))
def H55 : List (Nat × Nat) := [(47, 9), (42, 9), (10, 12), (32, 1), (7, 9), (2, 4)]
def T56 : T :=
(.p .box [0] none
(q (.fld 0 (some 2)) [3]
(q (.call 105) [4, 1, 2]
(q (.ext 0) [5]
(q (.ext 1) [5]
(.p (.wr 0 2) [.k (.agg [(.int .i64 0), (.int .u64 0)]), 6] none
(q (.bin .neq) [7, .k (.int .i64 0)]
(.ite (.v 9) (q (.build [(.int .i64 0), (.int .u64 0), (.int .i64 0), (.int .u64 0)] []) []
(.p (.wr 0 4) [.k (.agg [(.int .i64 0), (.int .u64 0), (.int .i64 0), (.int .u64 0)]), 10] none
(q (.fld 0 (some 4)) [11]
(.ret [12, 7]))))
(q (.fld 2 none) [3]
(q (.bin .eql) [10, .k (.str [])]
(qt (.fld 3 none) [3] 11
(qt (.lenSl) [12] 11
(qt (.bin .eql) [13, .k (.int .i64 0)] 11
(q (.pick) [11, 14, .k (.bool false)]
(.ite (.v 15) (q (.fld 0 (some 2)) [8]
(q (.fld 0 (some 2)) [8]
(q (.build [(.int .i64 0), (.int .u64 0), (.int .i64 0), (.int .u64 0)] [(0, 2), (2, 2)]) [16, 17]
(.p (.wr 0 4) [.k (.agg [(.int .i64 0), (.int .u64 0), (.int .i64 0), (.int .u64 0)]), 18] none
(q (.fld 0 (some 4)) [19]
(.ret [20, .k (.int .i64 0)]))))))
(q (.fld 2 (some 2)) [3]
(q (.call 105) [16, 1, 2]
(q (.ext 0) [17]
(q (.ext 1) [17]
(.p (.wr 0 2) [.k (.agg [(.int .i64 0), (.int .u64 0)]), 18] none
(q (.bin .neq) [19, .k (.int .i64 0)]
(.ite (.v 21) (q (.build [(.int .i64 0), (.int .u64 0), (.int .i64 0), (.int .u64 0)] []) []
(.p (.wr 0 4) [.k (.agg [(.int .i64 0), (.int .u64 0), (.int .i64 0), (.int .u64 0)]), 22] none
(q (.fld 0 (some 4)) [23]
(.ret [24, 19]))))
(q (.fld 0 (some 2)) [20]
(q (.fld 0 (some 2)) [8]
(q (.call 60) [22, 23]
(q (.un .not) [24]
(.ite (.v 25) (q (.build [(.int .i64 0), (.int .u64 0), (.int .i64 0), (.int .u64 0)] []) []
(.p (.wr 0 4) [.k (.agg [(.int .i64 0), (.int .u64 0), (.int .i64 0), (.int .u64 0)]), 26] none
(q (.fld 0 (some 4)) [27]
(.ret [28, .k (.int .i64 18)]))))
(q (.fld 0 (some 2)) [8]
(q (.fld 0 (some 2)) [20]
(q (.build [(.int .i64 0), (.int .u64 0), (.int .i64 0), (.int .u64 0)] [(0, 2), (2, 2)]) [26, 27]
(.p (.wr 0 4) [.k (.agg [(.int .i64 0), (.int .u64 0), (.int .i64 0), (.int .u64 0)]), 28] none
(q (.fld 0 (some 4)) [29]
(.ret [30, .k (.int .i64 0)])))))))))))))))))))))))))))))))))
def H56 : List (Nat × Nat) := [(10, 12), (38, 5), (29, 5), (28, 5), (24, 5), (23, 5), (8, 10), (12, 5), (6, 8), (3, 5)]
def T57 : T :=
(.p .box [0] none
(q (.call 53) [1, 2]
(q (.un .not) [4]
(.ite (.v 5) (.ret [.k (.int .i64 2)])
(q (.fld 0 (some 4)) [3]
(q (.lenSl) [1]
(q (.lenSl) [2]
(q (.call 28) [6, 7, 8]
(q (.un .not) [9]
(.ite (.v 10) (.ret [.k (.int .i64 18)])
(.ret [.k (.int .i64 0)])))))))))))
def H57 : List (Nat × Nat) := [(3, 5)]
def T58 : T :=
(.p .box [0] none
(q (.fld 1 none) [3]
(q (.call 106) [4]
(q (.lenSl) [5]
(.loop 0 [.k (.int .i64 0), .k .nils] (q (.bin .lss) [7, 6]
(.ite (.v 9) (q (.idxS 2) [5, 7]
(q (.ldE (some 2)) [10]
(.p (.wr 0 2) [.k (.agg [(.int .i64 0), (.int .i64 0)]), 11] none
(q (.fld 0 none) [12]
(q (.fld 1 none) [12]
(q (.bin .eql) [13, 14]
(.ite (.v 15) (q (.fld 0 none) [12]
(q (.idxS 1) [2, 16]
(q (.ldE none) [17]
(q (.bslice false 1) [18]
(.s (.app false 1) [8, 19] none
(q (.bin .add) [7, .k (.int .i64 1)]
(.next 0 [21, 20])))))))
(q (.fld 0 none) [12]
(q (.idxS 1) [2, 16]
(q (.ldE none) [17]
(q (.bin .add) [18, .k (.str [46])]
(q (.fld 1 none) [12]
(q (.idxS 1) [2, 20]
(q (.ldE none) [21]
(q (.bin .add) [19, 22]
(q (.bslice false 1) [23]
(.s (.app false 1) [8, 24] none
(q (.bin .add) [7, .k (.int .i64 1)]
(.next 0 [26, 25])))))))))))))))))))
(q (.lenSl) [8]
(q (.bin .eql) [10, .k (.int .i64 0)]
(.ite (.v 11) (q (.fld 0 none) [3]
(q (.idxS 1) [1, 12]
(q (.ldE none) [13]
(.ret [14]))))
(q (.fld 0 none) [3]
(q (.idxS 1) [1, 12]
(q (.ldE none) [13]
(q (.bin .add) [14, .k (.str [58])]
(q (.call 107) [8, .k (.str [44])]
(q (.bin .add) [15, 16]
(.ret [17])))))))))))))))))
def H58 : List (Nat × Nat) := [(58, 1), (56, 5), (53, 1), (51, 5), (41, 1), (39, 11), (35, 1), (33, 11), (27, 1), (25, 11), (20, 11), (18, 11), (9, 11), (16, 1), (10, 5), (3, 5)]
def T59 : T :=
(.p .box [0] none
(q (.fld 0 none) [3]
(q (.bin .lss) [4, .k (.int .i64 0)]
(qf (.fld 0 none) [3] 5
(qf (.mv) [1] 5
(qf (.bin .geq) [6, 7] 5
(q (.pick) [5, .k (.bool true), 8]
(.ite (.v 9) (.ret [.k (.bool false)])
(q (.bin .geq) [2, .k (.int .i64 64)]
(.ite (.v 10) (.ret [.k (.bool true)])
(q (.fld 1 none) [3]
(q (.mx) [2, .k (.int .i64 0)]
(q (.bin .shr) [11, 12]
(q (.bin .eql) [13, .k (.int .u64 0)]
(.ret [14])))))))))))))))
def H59 : List (Nat × Nat) := [(18, 5), (11, 5), (7, 5), (3, 5)]
def T60 : T :=
(.p .box [0] none
(.p .box [1] none
(q (.fld 0 none) [2]
(q (.fld 0 none) [3]
(q (.bin .geq) [4, 5]
(qt (.fld 1 none) [2] 6
(qt (.fld 1 none) [3] 6
(qt (.bin .and) [7, 8] 6
(qt (.fld 1 none) [3] 6
(qt (.bin .eql) [9, 10] 6
(q (.pick) [6, 11, .k (.bool false)]
(.ret [12]))))))))))))
def H60 : List (Nat × Nat) := [(16, 5), (13, 5), (11, 4), (7, 5), (5, 4), (3, 5), (2, 4)]
def T61 : T :=
(q (.bin .rem) [0, .k (.int .i64 64)]
(q (.bin .shl) [.k (.int .u64 1), 1]
(.ret [2])))
def H61 : List (Nat × Nat) := []
def T62 : T :=
(.s (.box) [0] none
(q (.bin .geq) [1, .k (.int .i64 0)]
(qt (.mv) [1] 3
(qt (.bin .lss) [4, .k (.int .i64 256)] 3
(q (.pick) [3, 5, .k (.bool false)]
(.ite (.v 6) (q (.bin .quo) [1, .k (.int .i64 64)]
(q (.bin .quo) [1, .k (.int .i64 64)]
(q (.idxA 4 1) [2, 8]
(.s (.ld none) [9] none
(q (.call 61) [1]
(q (.bin .or) [10, 11]
(q (.idxA 4 1) [2, 7]
(.s (.st 1) [13, 12] none
(.s (.ld (some 4)) [2] none
(.p (.wr 0 4) [.k (.agg [(.int .u64 0), (.int .u64 0), (.int .u64 0), (.int .u64 0)]), 15] none
(q (.fld 0 (some 4)) [16]
(.ret [17]))))))))))))
(.s (.ld (some 4)) [2] none
(.p (.wr 0 4) [.k (.agg [(.int .u64 0), (.int .u64 0), (.int .u64 0), (.int .u64 0)]), 7] none
(q (.fld 0 (some 4)) [8]
(.ret [9]))))))))))
def H62 : List (Nat × Nat) := [(4, 6)]
def T63 : T :=
(.p .box [0] none
(.p .box [1] none
(q (.fld 0 none) [2]
(q (.fld 0 none) [3]
(q (.mn) [4, 5]
(q (.fld 1 none) [2]
(q (.fld 1 none) [3]
(q (.bin .and) [7, 8]
(q (.build [(.int .i64 0), (.int .u64 0)] [(0, 1), (1, 1)]) [6, 9]
(.p (.wr 0 2) [.k (.agg [(.int .i64 0), (.int .u64 0)]), 10] none
(q (.fld 0 (some 2)) [11]
(.ret [12]))))))))))))
def H63 : List (Nat × Nat) := [(12, 5), (10, 4), (7, 5), (5, 4), (4, 6), (3, 5), (2, 4)]
def T64 : T :=
(.p .box [0] none
(.p .box [1] none
(q (.fld 0 none) [2]
(q (.fld 0 none) [3]
(q (.mx) [4, 5]
(q (.fld 1 none) [2]
(q (.fld 1 none) [3]
(q (.bin .or) [7, 8]
(q (.build [(.int .i64 0), (.int .u64 0)] [(0, 1), (1, 1)]) [6, 9]
(.p (.wr 0 2) [.k (.agg [(.int .i64 0), (.int .u64 0)]), 10] none
(q (.fld 0 (some 2)) [11]
(.ret [12]))))))))))))
def H64 : List (Nat × Nat) := [(12, 5), (10, 4), (7, 5), (5, 4), (4, 6), (3, 5), (2, 4)]
def T67 : T :=
(.p .box [0] none
(q (.fld 0 (some 10)) [1]
(q (.call 110) [2, .k (.int .i64 13)]
(.ret [3]))))
def H67 : List (Nat × Nat) := [(1, 3)]
def T68 : T :=
(.loop 0 [.k (.int .i64 0), .k (.int .i64 0)] (q (.lenSl) [0]
(q (.bin .lss) [1, 3]
(.ite (.v 4) (q (.idxS 1) [0, 1]
(q (.ldE none) [5]
(q (.bin .neq) [6, .k (.int .i64 0)]
(.ite (.v 7) (q (.idxS 1) [0, 1]
(q (.ldE none) [8]
(.ret [9])))
(q (.bin .add) [1, .k (.int .i64 1)]
(.next 0 [8, 2]))))))
(.ret [.k (.int .i64 0)])))))
def H68 : List (Nat × Nat) := [(17, 1), (12, 1)]
def T69 : T :=
(.p .box [0] none
(q (.fld 0 none) [1]
(q (.lenSl) [2]
(q (.bin .gtr) [3, .k (.int .i64 32)]
(.ite (.v 4) (.ret [.k (.int .i64 4)])
(.loop 0 [.k (.int .i64 0), .k .nils, .k (.int .i64 0)] (q (.fld 0 none) [1]
(q (.lenSl) [8]
(q (.bin .lss) [5, 9]
(.ite (.v 10) (q (.fld 0 none) [1]
(q (.idxS 2) [11, 5]
(q (.ldE (some 2)) [12]
(.p (.wr 0 2) [.k (.agg [(.str []), .nils]), 13] none
(q (.fld 0 none) [14]
(q (.bslice false 1) [15]
(q (.call 111) [16, 6]
(q (.bin .neq) [17, .k (.int .i64 0)]
(.ite (.v 18) (.ret [17])
(q (.fld 0 none) [14]
(q (.bslice false 1) [19]
(.s (.app false 1) [6, 20] none
(q (.fld 1 none) [14]
(q (.lenSl) [22]
(q (.bin .gtr) [23, .k (.int .i64 32)]
(.ite (.v 24) (.ret [.k (.int .i64 4)])
(q (.fld 1 none) [14]
(q (.lenSl) [25]
(q (.bin .eql) [26, .k (.int .i64 0)]
(.ite (.v 27) (.ret [.k (.int .i64 2)])
(q (.fld 1 none) [14]
(q (.call 111) [28, .k .nils]
(q (.bin .neq) [29, .k (.int .i64 0)]
(.ite (.v 30) (.ret [29])
(q (.bin .add) [5, .k (.int .i64 1)]
(.next 0 [31, 21, 7]))))))))))))))))))))))))))
(.ret [.k (.int .i64 0)])))))))))))
def H69 : List (Nat × Nat) := [(45, 7), (41, 7), (37, 7), (33, 7), (24, 7), (5, 7), (22, 1), (19, 3), (13, 3), (8, 3), (1, 3)]
def T70 : T :=
(.p .box [0] none
(q (.fld 1 none) [1]
(q (.lenSl) [2]
(q (.bin .gtr) [3, .k (.int .i64 256)]
(.ite (.v 4) (.ret [.k (.int .i64 4)])
(.loop 0 [.k (.int .i64 0), .k (.int .i64 0)] (q (.fld 1 none) [1]
(q (.lenSl) [7]
(q (.bin .lss) [5, 8]
(.ite (.v 9) (q (.fld 1 none) [1]
(q (.idxS 3) [10, 5]
(q (.off 0) [11]
(q (.ldE none) [12]
(q (.bslice false 1) [13]
(q (.fld 1 none) [1]
(q (.idxS 3) [15, 5]
(q (.off 1) [16]
(q (.ldE none) [17]
(.s (.app false 1) [14, 18] none
(q (.fld 0 (some 17)) [1]
(.s (.callF 112) [20, 5] none
(q (.call 111) [19, 21]
(q (.bin .neq) [22, .k (.int .i64 0)]
(.ite (.v 23) (.ret [22])
(q (.bin .add) [5, .k (.int .i64 1)]
(.next 0 [24, 6])))))))))))))))))
(q (.fld 2 none) [1]
(q (.lenSl) [10]
(q (.bin .gtr) [11, .k (.int .i64 64)]
(.ite (.v 12) (.ret [.k (.int .i64 4)])
(q (.fld 0 (some 17)) [1]
(q (.fld 1 none) [1]
(q (.lenSl) [14]
(.s (.callF 112) [13, 15] none
(.loop 1 [.k (.int .i64 0), 16, 6] (q (.fld 2 none) [1]
(q (.lenSl) [20]
(q (.bin .lss) [17, 21]
(.ite (.v 22) (q (.fld 2 none) [1]
(q (.idxS 5) [23, 17]
(q (.off 0) [24]
(q (.ldE none) [25]
(q (.bslice false 1) [26]
(q (.call 111) [27, 18]
(q (.bin .neq) [28, .k (.int .i64 0)]
(.ite (.v 29) (.ret [28])
(q (.fld 2 none) [1]
(q (.idxS 5) [30, 17]
(q (.off 0) [31]
(q (.ldE none) [32]
(q (.bslice false 1) [33]
(.s (.app false 1) [18, 34] none
(q (.fld 2 none) [1]
(q (.idxS 5) [36, 17]
(q (.off 1) [37]
(q (.ldE (some 4)) [38]
(q (.fld 1 none) [1]
(q (.lenSl) [40]
(q (.call 113) [39, 41]
(q (.ext 0) [42]
(q (.ext 1) [42]
(q (.un .not) [44]
(.ite (.v 45) (.ret [.k (.int .i64 3)])
(q (.bin .add) [17, .k (.int .i64 1)]
(.next 1 [46, 35, 19])))))))))))))))))))))))))))
(.ret [.k (.int .i64 0)]))))))))))))))))))))))))
def H70 : List (Nat × Nat) := [(88, 3), (86, 1), (85, 1), (82, 3), (77, 1), (76, 1), (73, 3), (64, 1), (63, 1), (60, 3), (54, 3), (49, 3), (44, 3), (33, 1), (32, 1), (29, 3), (26, 1), (25, 1), (22, 3), (16, 3), (11, 3), (1, 3)]
def T71 : T :=
(.p .box [0] none
(q (.fld 3 none) [1]
(q (.lenSl) [2]
(q (.bin .gtr) [3, .k (.int .i64 32)]
(.ite (.v 4) (.ret [.k (.int .i64 4)])
(q (.fld 1 none) [1]
(q (.lenSl) [5]
(q (.call 30) [6]
(.p (.wr 0 4) [.k (.agg [(.int .u64 0), (.int .u64 0), (.int .u64 0), (.int .u64 0)]), 7] none
(q (.fld 3 none) [1]
(q (.lenSl) [9]
(q (.bin .eql) [10, .k (.int .i64 0)]
(qf (.fld 3 none) [1] 11
(qf (.idxS 9) [12, .k (.int .i64 0)] 11
(qf (.ldE (some 9)) [13] 11
(qf (.build [(.str []), (.int .u64 0), (.int .u64 0), (.int .u64 0), (.int .u64 0), (.int .u64 0), (.int .u64 0), (.int .u64 0), (.int .u64 0)] [(0, 1)]) [.k (.str [111, 98, 106, 101, 99, 116, 95, 114])] 11
(qf (.eqa true [.s, .i .u64, .i .u64, .i .u64, .i .u64, .i .u64, .i .u64, .i .u64, .i .u64]) [14, 15] 11
(q (.pick) [11, .k (.bool true), 16]
(.ite (.v 17) (.ret [.k (.int .i64 2)])
(q (.bslice false 1) [.k (.str [111, 98, 106, 101, 99, 116, 95, 114])]
(.loop 0 [.k (.int .i64 1), 18, .k (.int .i64 0)] (q (.fld 3 none) [1]
(q (.lenSl) [22]
(q (.bin .lss) [19, 23]
(.ite (.v 24) (q (.fld 3 none) [1]
(q (.idxS 9) [25, 19]
(q (.ldE (some 9)) [26]
(.p (.wr 0 9) [.k (.agg [(.str []), (.int .u64 0), (.int .u64 0), (.int .u64 0), (.int .u64 0), (.int .u64 0), (.int .u64 0), (.int .u64 0), (.int .u64 0)]), 27] none
(q (.fld 0 none) [28]
(q (.bslice false 1) [29]
(q (.call 111) [30, 20]
(q (.bin .neq) [31, .k (.int .i64 0)]
(.ite (.v 32) (.ret [31])
(q (.fld 0 none) [28]
(q (.bslice false 1) [33]
(.s (.app false 1) [20, 34] none
(q (.fld 1 (some 4)) [28]
(q (.fld 0 (some 4)) [8]
(q (.call 114) [36, 37]
(q (.un .not) [38]
(qf (.fld 0 (some 17)) [1] 39
(qf (.fld 5 (some 4)) [28] 39
(qf (.call 115) [40, 41] 39
(qf (.un .not) [42] 39
(q (.pick) [39, .k (.bool true), 43]
(.ite (.v 44) (.ret [.k (.int .i64 3)])
(q (.bin .add) [19, .k (.int .i64 1)]
(.next 0 [45, 35, 21]))))))))))))))))))))))))
(.ret [.k (.int .i64 0)]))))))))))))))))))))))))))
def H71 : List (Nat × Nat) := [(61, 8), (54, 8), (50, 8), (41, 8), (6, 8), (39, 1), (36, 3), (30, 3), (23, 1), (21, 3), (16, 3), (3, 5), (12, 3), (8, 3), (1, 3)]
def T72 : T :=
(.p .box [0] none
(q (.fld 4 none) [1]
(q (.lenSl) [2]
(q (.bin .gtr) [3, .k (.int .i64 32)]
(.ite (.v 4) (.ret [.k (.int .i64 4)])
(.loop 0 [.k (.int .i64 0), .k .nils, .k (.int .i64 0)] (q (.fld 4 none) [1]
(q (.lenSl) [8]
(q (.bin .lss) [5, 9]
(.ite (.v 10) (q (.fld 4 none) [1]
(q (.idxS 11) [11, 5]
(q (.ldE (some 11)) [12]
(.p (.wr 0 11) [.k (.agg [(.str []), (.int .u64 0), (.int .u64 0), (.int .u64 0), (.int .u64 0), (.int .i64 0), (.int .u64 0), (.int .i64 0), (.int .u64 0), (.int .i64 0), (.int .u64 0)]), 13] none
(q (.fld 0 none) [14]
(q (.bslice false 1) [15]
(q (.call 111) [16, 6]
(q (.bin .neq) [17, .k (.int .i64 0)]
(.ite (.v 18) (.ret [17])
(q (.fld 0 none) [14]
(q (.bslice false 1) [19]
(.s (.app false 1) [6, 20] none
(q (.fld 0 (some 17)) [1]
(q (.fld 1 (some 4)) [14]
(q (.call 115) [22, 23]
(q (.un .not) [24]
(.ite (.v 25) (.ret [.k (.int .i64 3)])
(q (.fld 0 (some 17)) [1]
(q (.fld 7 (some 4)) [14]
(q (.call 116) [26, 27]
(q (.un .not) [28]
(qf (.fld 0 (some 17)) [1] 29
(qf (.fld 5 (some 2)) [14] 29
(qf (.call 117) [30, 31] 29
(qf (.un .not) [32] 29
(q (.pick) [29, .k (.bool true), 33]
(qf (.fld 9 (some 2)) [14] 34
(qf (.fld 5 (some 2)) [14] 34
(qf (.call 118) [35, 36] 34
(qf (.un .not) [37] 34
(q (.pick) [34, .k (.bool true), 38]
(qf (.fld 5 (some 2)) [14] 39
(qf (.fld 7 (some 2)) [14] 39
(qf (.call 118) [40, 41] 39
(qf (.un .not) [42] 39
(q (.pick) [39, .k (.bool true), 43]
(.ite (.v 44) (.ret [.k (.int .i64 18)])
(q (.bin .add) [5, .k (.int .i64 1)]
(.next 0 [45, 21, 7])))))))))))))))))))))))))))))))))))))))
(.ret [.k (.int .i64 0)])))))))))))
def H72 : List (Nat × Nat) := [(66, 7), (65, 7), (63, 7), (57, 7), (55, 7), (54, 7), (48, 7), (42, 7), (37, 7), (32, 7), (23, 7), (5, 7), (21, 1), (18, 3), (12, 3), (7, 3), (1, 3)]
def T73 : T :=
(.p .box [0] none
(q (.fld 5 none) [1]
(q (.lenSl) [2]
(q (.bin .gtr) [3, .k (.int .i64 16)]
(.ite (.v 4) (.ret [.k (.int .i64 4)])
(.loop 0 [.k (.int .i64 0), .k .nils] (q (.fld 5 none) [1]
(q (.lenSl) [7]
(q (.bin .lss) [5, 8]
(.ite (.v 9) (q (.fld 5 none) [1]
(q (.idxS 2) [10, 5]
(q (.off 0) [11]
(q (.ldE none) [12]
(q (.bslice false 1) [13]
(.s (.app false 1) [6, 14] none
(q (.bin .add) [5, .k (.int .i64 1)]
(.next 0 [16, 15]))))))))
(q (.call 111) [6, .k .nils]
(q (.bin .neq) [10, .k (.int .i64 0)]
(.ite (.v 11) (.ret [10])
(q (.fld 6 none) [1]
(q (.lenSl) [12]
(q (.bin .gtr) [13, .k (.int .i64 16)]
(.ite (.v 14) (.ret [.k (.int .i64 4)])
(q (.fld 6 none) [1]
(q (.call 111) [15, .k .nils]
(q (.bin .neq) [16, .k (.int .i64 0)]
(.ite (.v 17) (.ret [16])
(q (.fld 7 none) [1]
(q (.lenSl) [18]
(q (.bin .gtr) [19, .k (.int .i64 64)]
(.ite (.v 20) (.ret [.k (.int .i64 4)])
(q (.fld 7 none) [1]
(q (.call 111) [21, .k .nils]
(.ret [22]))))))))))))))))))))))))))))
def H73 : List (Nat × Nat) := [(46, 3), (42, 3), (36, 3), (32, 3), (23, 1), (22, 1), (19, 3), (12, 3), (7, 3), (1, 3)]
def T74 : T :=
(.p .box [0] none
(q (.fld 8 none) [1]
(q (.lenSl) [2]
(q (.bin .gtr) [3, .k (.int .i64 64)]
(.ite (.v 4) (.ret [.k (.int .i64 4)])
(.loop 0 [.k (.int .i64 0), .k (.int .i64 0)] (q (.fld 8 none) [1]
(q (.lenSl) [7]
(q (.bin .lss) [5, 8]
(.ite (.v 9) (q (.fld 0 (some 17)) [1]
(q (.fld 8 none) [1]
(q (.idxS 10) [11, 5]
(q (.ldE (some 10)) [12]
(q (.call 119) [10, 13]
(q (.bin .neq) [14, .k (.int .i64 0)]
(.ite (.v 15) (.ret [14])
(q (.bin .add) [5, .k (.int .i64 1)]
(.next 0 [16, 6])))))))))
(q (.fld 9 none) [1]
(q (.lenSl) [10]
(q (.bin .gtr) [11, .k (.int .i64 4096)]
(.ite (.v 12) (.ret [.k (.int .i64 4)])
(.loop 1 [.k (.int .i64 0), 6] (q (.fld 9 none) [1]
(q (.lenSl) [15]
(q (.bin .lss) [13, 16]
(.ite (.v 17) (q (.fld 9 none) [1]
(q (.idxS 13) [18, 13]
(q (.ldE (some 13)) [19]
(.p (.wr 0 13) [.k (.agg [(.int .i64 0), (.int .u64 0), (.int .u64 0), (.int .u64 0), (.int .u64 0), (.int .u64 0), (.int .u64 0), (.int .u64 0), (.int .u64 0), (.bool false), (.int .i64 0), (.int .u32 0), (.int .i64 0)]), 20] none
(q (.fld 0 none) [21]
(q (.bin .lss) [22, .k (.int .i64 1)]
(qf (.fld 0 none) [21] 23
(qf (.bin .gtr) [24, .k (.int .i64 4)] 23
(q (.pick) [23, .k (.bool true), 25]
(.ite (.v 26) (.ret [.k (.int .i64 13)])
(q (.fld 1 (some 4)) [21]
(q (.fld 1 none) [1]
(q (.lenSl) [28]
(q (.call 113) [27, 29]
(q (.ext 0) [30]
(q (.ext 1) [30]
(q (.fld 5 (some 4)) [21]
(q (.fld 1 none) [1]
(q (.lenSl) [34]
(q (.call 113) [33, 35]
(q (.ext 0) [36]
(q (.ext 1) [36]
(q (.un .not) [32]
(qf (.mv) [38] 39
(qf (.un .not) [40] 39
(q (.pick) [39, .k (.bool true), 41]
(qf (.fld 0 (some 17)) [1] 42
(qf (.fld 10 none) [21] 42
(qf (.fld 11 none) [21] 42
(qf (.call 120) [43, 44, 45] 42
(qf (.un .not) [46] 42
(q (.pick) [42, .k (.bool true), 47]
(qf (.fld 0 (some 17)) [1] 48
(qf (.fld 12 none) [21] 48
(qf (.call 121) [49, 50] 48
(qf (.un .not) [51] 48
(q (.pick) [48, .k (.bool true), 52]
(.ite (.v 53) (.ret [.k (.int .i64 3)])
(q (.un .not) [31]
(qf (.mv) [37] 54
(qf (.un .not) [55] 54
(qf (.mv) [56] 54
(qt (.fld 9 none) [21] 57
(qt (.un .not) [58] 57
(qf (.pick) [57, 59, .k (.bool false)] 54
(q (.pick) [54, .k (.bool true), 60]
(qf (.fld 11 none) [21] 61
(qf (.bin .eql) [62, .k (.int .u32 0)] 61
(q (.pick) [61, .k (.bool true), 63]
(qf (.fld 0 none) [21] 64
(qf (.bin .eql) [65, .k (.int .i64 4)] 64
(qf (.mv) [66] 64
(qt (.fld 12 none) [21] 67
(qt (.bin .neq) [68, .k (.int .i64 0)] 67
(qf (.pick) [67, 69, .k (.bool false)] 64
(q (.pick) [64, .k (.bool true), 70]
(.ite (.v 71) (.ret [.k (.int .i64 2)])
(q (.bin .add) [13, .k (.int .i64 1)]
(.next 1 [72, 14])))))))))))))))))))))))))))))))))))))))))))))))))))))))))))
(.ret [.k (.int .i64 0)]))))))))))))))))))))
def H74 : List (Nat × Nat) := [(117, 8), (113, 8), (108, 8), (102, 8), (91, 8), (84, 8), (82, 8), (68, 3), (66, 8), (59, 3), (57, 8), (52, 8), (48, 8), (6, 8), (46, 1), (43, 3), (37, 3), (32, 3), (26, 1), (23, 3), (16, 3), (11, 3), (1, 3)]
def T75 : T :=
(.p .box [0] none
(.s (.alloc [(.int .i64 0), (.int .i64 0), (.int .i64 0), (.int .i64 0)]) [] none
(.loop 0 [.k (.int .i64 0), .k (.int .i64 0)] (q (.fld 10 none) [1]
(q (.lenSl) [5]
(q (.bin .lss) [3, 6]
(.ite (.v 7) (q (.fld 10 none) [1]
(q (.idxS 13) [8, 3]
(q (.off 0) [9]
(q (.ldE none) [10]
(q (.bin .geq) [11, .k (.int .i64 1)]
(qt (.mv) [11] 12
(qt (.bin .leq) [13, .k (.int .i64 3)] 12
(q (.pick) [12, 14, .k (.bool false)]
(.ite (.v 15) (q (.idxA 4 1) [2, 11]
(.s (.ld none) [16] none
(q (.bin .add) [17, .k (.int .i64 1)]
(q (.idxA 4 1) [2, 11]
(.s (.st 1) [19, 18] none
(q (.idxA 4 1) [2, 11]
(.s (.ld none) [21] none
(q (.bin .gtr) [22, .k (.int .i64 1024)]
(.ite (.v 23) (.ret [.k (.int .i64 4)])
(q (.bin .add) [3, .k (.int .i64 1)]
(.next 0 [24, 4])))))))))))
(q (.bin .add) [3, .k (.int .i64 1)]
(.next 0 [16, 4])))))))))))
(.loop 1 [.k (.int .i64 0), 4] (q (.fld 10 none) [1]
(q (.lenSl) [10]
(q (.bin .lss) [8, 11]
(.ite (.v 12) (q (.fld 10 none) [1]
(q (.idxS 13) [13, 8]
(q (.ldE (some 13)) [14]
(.p (.wr 0 13) [.k (.agg [(.int .i64 0), (.int .u64 0), (.int .u64 0), (.int .u64 0), (.int .u64 0), (.int .u64 0), (.int .u64 0), (.int .u64 0), (.int .u64 0), (.int .i64 0), (.str []), (.int .i64 0), (.int .i64 0)]), 15] none
(q (.fld 0 none) [16]
(q (.bin .lss) [17, .k (.int .i64 1)]
(qf (.fld 0 none) [16] 18
(qf (.bin .gtr) [19, .k (.int .i64 3)] 18
(q (.pick) [18, .k (.bool true), 20]
(.ite (.v 21) (.ret [.k (.int .i64 13)])
(q (.fld 1 (some 4)) [16]
(q (.fld 1 none) [1]
(q (.lenSl) [23]
(q (.call 113) [22, 24]
(q (.ext 0) [25]
(q (.ext 1) [25]
(q (.fld 5 (some 4)) [16]
(q (.fld 1 none) [1]
(q (.lenSl) [29]
(q (.call 113) [28, 30]
(q (.ext 0) [31]
(q (.ext 1) [31]
(q (.un .not) [27]
(qf (.mv) [33] 34
(qf (.un .not) [35] 34
(q (.pick) [34, .k (.bool true), 36]
(qf (.fld 9 none) [16] 37
(qf (.fld 0 none) [1] 37
(qf (.lenSl) [39] 37
(qf (.call 122) [38, 40] 37
(qf (.un .not) [41] 37
(q (.pick) [37, .k (.bool true), 42]
(qf (.fld 11 none) [16] 43
(qf (.fld 1 none) [1] 43
(qf (.lenSl) [45] 43
(qf (.call 122) [44, 46] 43
(qf (.un .not) [47] 43
(q (.pick) [43, .k (.bool true), 48]
(qf (.fld 0 (some 17)) [1] 49
(qf (.fld 12 none) [16] 49
(qf (.call 121) [50, 51] 49
(qf (.un .not) [52] 49
(q (.pick) [49, .k (.bool true), 53]
(.ite (.v 54) (.ret [.k (.int .i64 3)])
(q (.un .not) [26]
(qf (.mv) [32] 55
(qf (.un .not) [56] 55
(q (.pick) [55, .k (.bool true), 57]
(qf (.fld 0 none) [16] 58
(qf (.bin .neq) [59, .k (.int .i64 1)] 58
(qf (.mv) [60] 58
(qt (.fld 10 none) [16] 61
(qt (.bin .neq) [62, .k (.str [])] 61
(qf (.pick) [61, 63, .k (.bool false)] 58
(q (.pick) [58, .k (.bool true), 64]
(.ite (.v 65) (.ret [.k (.int .i64 2)])
(q (.fld 10 none) [16]
(q (.bin .neq) [66, .k (.str [])]
(qt (.fld 10 none) [16] 67
(qt (.call 123) [68] 67
(qt (.un .not) [69] 67
(q (.pick) [67, 70, .k (.bool false)]
(.ite (.v 71) (.ret [.k (.int .i64 10)])
(q (.bin .add) [8, .k (.int .i64 1)]
(.next 1 [72, 9])))))))))))))))))))))))))))))))))))))))))))))))))))))))))))))))))
(.ret [.k (.int .i64 0)])))))))))))))
def H75 : List (Nat × Nat) := [(129, 9), (125, 9), (120, 9), (116, 9), (104, 9), (96, 3), (94, 9), (87, 3), (85, 9), (72, 3), (70, 9), (63, 3), (61, 9), (56, 9), (52, 9), (7, 9), (50, 1), (47, 3), (41, 3), (23, 1), (22, 1), (19, 3), (13, 3), (1, 3)]
def T76 : T :=
(.p .box [0] none
(q (.fld 11 none) [1]
(q (.lenSl) [2]
(q (.bin .gtr) [3, .k (.int .i64 1024)]
(.ite (.v 4) (.ret [.k (.int .i64 4)])
(.loop 0 [.k (.int .i64 0), .k (.int .i64 0)] (q (.fld 11 none) [1]
(q (.lenSl) [7]
(q (.bin .lss) [5, 8]
(.ite (.v 9) (q (.fld 11 none) [1]
(q (.idxS 10) [10, 5]
(q (.ldE (some 10)) [11]
(.p (.wr 0 10) [.k (.agg [(.int .u64 0), (.int .u64 0), (.int .u64 0), (.int .u64 0), (.int .u64 0), (.int .u64 0), (.int .u64 0), (.int .u64 0), (.int .i64 0), (.int .i64 0)]), 12] none
(q (.fld 0 (some 4)) [13]
(q (.build [(.int .u64 0), (.int .u64 0), (.int .u64 0), (.int .u64 0)] []) []
(q (.eqa true [.i .u64, .i .u64, .i .u64, .i .u64]) [14, 15]
(q (.fld 0 (some 17)) [1]
(q (.fld 0 (some 4)) [13]
(q (.call 115) [17, 18]
(q (.fld 4 (some 4)) [13]
(q (.fld 1 none) [1]
(q (.lenSl) [21]
(q (.call 113) [20, 22]
(q (.ext 0) [23]
(q (.ext 1) [23]
(q (.un .not) [19]
(qf (.mv) [25] 26
(qf (.un .not) [27] 26
(q (.pick) [26, .k (.bool true), 28]
(qf (.fld 8 none) [13] 29
(qf (.fld 0 none) [1] 29
(qf (.lenSl) [31] 29
(qf (.call 122) [30, 32] 29
(qf (.un .not) [33] 29
(q (.pick) [29, .k (.bool true), 34]
(qf (.fld 9 none) [13] 35
(qf (.fld 3 none) [1] 35
(qf (.lenSl) [37] 35
(qf (.call 122) [36, 38] 35
(qf (.un .not) [39] 35
(q (.pick) [35, .k (.bool true), 40]
(qf (.fld 9 none) [13] 41
(qf (.bin .eql) [42, .k (.int .i64 0)] 41
(q (.pick) [41, .k (.bool true), 43]
(.ite (.v 44) (.ret [.k (.int .i64 3)])
(q (.un .not) [16]
(qf (.mv) [24] 45
(qf (.un .not) [46] 45
(q (.pick) [45, .k (.bool true), 47]
(.ite (.v 48) (.ret [.k (.int .i64 2)])
(q (.bin .add) [5, .k (.int .i64 1)]
(.next 0 [49, 6])))))))))))))))))))))))))))))))))))))))))))
(q (.fld 12 none) [1]
(q (.lenSl) [10]
(q (.bin .gtr) [11, .k (.int .i64 1024)]
(.ite (.v 12) (.ret [.k (.int .i64 4)])
(.loop 1 [.k (.int .i64 0), 6] (q (.fld 12 none) [1]
(q (.lenSl) [15]
(q (.bin .lss) [13, 16]
(.ite (.v 17) (q (.fld 12 none) [1]
(q (.idxS 13) [18, 13]
(q (.ldE (some 13)) [19]
(.p (.wr 0 13) [.k (.agg [(.int .u64 0), (.int .u64 0), (.int .u64 0), (.int .u64 0), (.int .u64 0), (.int .u64 0), (.int .u64 0), (.int .u64 0), (.int .i64 0), (.int .i64 0), (.int .u64 0), (.int .i64 0), (.int .u64 0)]), 20] none
(q (.fld 0 (some 4)) [21]
(q (.fld 1 none) [1]
(q (.lenSl) [23]
(q (.call 113) [22, 24]
(q (.ext 0) [25]
(q (.ext 1) [25]
(q (.fld 4 (some 4)) [21]
(q (.fld 1 none) [1]
(q (.lenSl) [29]
(q (.call 113) [28, 30]
(q (.ext 0) [31]
(q (.ext 1) [31]
(q (.un .not) [27]
(qf (.mv) [33] 34
(qf (.un .not) [35] 34
(q (.pick) [34, .k (.bool true), 36]
(qf (.fld 8 none) [21] 37
(qf (.fld 0 none) [1] 37
(qf (.lenSl) [39] 37
(qf (.call 122) [38, 40] 37
(qf (.un .not) [41] 37
(q (.pick) [37, .k (.bool true), 42]
(.ite (.v 43) (.ret [.k (.int .i64 3)])
(q (.un .not) [26]
(qf (.mv) [32] 44
(qf (.un .not) [45] 44
(q (.pick) [44, .k (.bool true), 46]
(.ite (.v 47) (.ret [.k (.int .i64 2)])
(q (.fld 0 (some 17)) [1]
(q (.fld 9 (some 4)) [21]
(q (.call 116) [48, 49]
(q (.un .not) [50]
(.ite (.v 51) (.ret [.k (.int .i64 18)])
(q (.bin .add) [13, .k (.int .i64 1)]
(.next 1 [52, 14])))))))))))))))))))))))))))))))))))))))
(.ret [.k (.int .i64 0)]))))))))))))))))))))
def H76 : List (Nat × Nat) := [(139, 12), (126, 3), (124, 12), (111, 3), (109, 12), (102, 3), (100, 12), (10, 12), (97, 1), (94, 3), (88, 3), (83, 3), (73, 6), (66, 3), (64, 6), (57, 3), (55, 6), (42, 3), (40, 6), (36, 6), (31, 6), (4, 6), (29, 1), (26, 3), (20, 3), (15, 3), (1, 3)]
def T77 : T :=
(.p .box [0] none
(q (.fld 13 none) [1]
(q (.lenSl) [2]
(q (.bin .gtr) [3, .k (.int .i64 64)]
(.ite (.v 4) (.ret [.k (.int .i64 4)])
(.loop 0 [.k (.int .i64 0), .k (.int .i64 0)] (q (.fld 13 none) [1]
(q (.lenSl) [7]
(q (.bin .lss) [5, 8]
(.ite (.v 9) (q (.fld 13 none) [1]
(q (.idxS 13) [10, 5]
(q (.ldE (some 13)) [11]
(.p (.wr 0 13) [.k (.agg [(.int .i64 0), (.int .u32 0), (.bool false), (.int .i64 0), (.int .i64 0), (.int .i64 0), (.int .i64 0), .nils, (.int .u64 0), (.int .u64 0), (.int .u64 0), (.int .u64 0), .nils]), 12] none
(q (.fld 0 (some 17)) [1]
(q (.fld 0 none) [13]
(q (.fld 1 none) [13]
(q (.call 120) [14, 15, 16]
(q (.un .not) [17]
(.ite (.v 18) (.ret [.k (.int .i64 3)])
(q (.fld 2 none) [13]
(q (.fld 1 none) [13]
(q (.bin .eql) [20, .k (.int .u32 0)]
(q (.eqb true) [19, 21]
(.ite (.v 22) (.ret [.k (.int .i64 2)])
(q (.fld 0 (some 17)) [1]
(q (.fld 3 (some 10)) [13]
(q (.fld 2 none) [13]
(q (.call 124) [23, 24, 25]
(q (.bin .neq) [26, .k (.int .i64 0)]
(.ite (.v 27) (.ret [26])
(q (.bin .add) [5, .k (.int .i64 1)]
(.next 0 [28, 6])))))))))))))))))))))))
(.ret [.k (.int .i64 0)])))))))))))
def H77 : List (Nat × Nat) := [(38, 6), (36, 6), (31, 6), (29, 6), (25, 6), (23, 6), (4, 6), (20, 1), (17, 3), (11, 3), (6, 3), (1, 3)]
def T78 : T :=
(.p .box [0] none
(q (.fld 14 none) [1]
(q (.lenSl) [2]
(q (.bin .gtr) [3, .k (.int .i64 1024)]
(.ite (.v 4) (.ret [.k (.int .i64 4)])
(.loop 0 [.k (.int .i64 0), .k .nils, .k (.int .i64 0)] (q (.fld 14 none) [1]
(q (.lenSl) [8]
(q (.bin .lss) [5, 9]
(.ite (.v 10) (q (.fld 14 none) [1]
(q (.idxS 8) [11, 5]
(q (.off 0) [12]
(q (.ldE none) [13]
(q (.bslice false 1) [14]
(q (.call 111) [15, 6]
(q (.bin .neq) [16, .k (.int .i64 0)]
(.ite (.v 17) (.ret [16])
(q (.fld 14 none) [1]
(q (.idxS 8) [18, 5]
(q (.off 0) [19]
(q (.ldE none) [20]
(q (.bslice false 1) [21]
(.s (.app false 1) [6, 22] none
(q (.fld 0 (some 17)) [1]
(q (.fld 14 none) [1]
(q (.idxS 8) [25, 5]
(q (.off 1) [26]
(q (.ldE (some 7)) [27]
(q (.call 125) [24, 28]
(q (.bin .neq) [29, .k (.int .i64 0)]
(.ite (.v 30) (.ret [29])
(q (.bin .add) [5, .k (.int .i64 1)]
(.next 0 [31, 23, 7]))))))))))))))))))))))))
(q (.fld 15 none) [1]
(q (.lenSl) [11]
(q (.bin .gtr) [12, .k (.int .i64 256)]
(.ite (.v 13) (.ret [.k (.int .i64 4)])
(.loop 1 [.k (.int .i64 0), 7] (q (.fld 15 none) [1]
(q (.lenSl) [16]
(q (.bin .lss) [14, 17]
(.ite (.v 18) (q (.fld 15 none) [1]
(q (.idxS 9) [19, 14]
(q (.ldE (some 9)) [20]
(.p (.wr 0 9) [.k (.agg [(.str []), (.int .i64 0), (.int .i64 0), (.int .i64 0), (.int .i64 0), (.int .i64 0), (.int .u64 0), (.int .i64 0), (.int .u64 0)]), 21] none
(q (.fld 0 none) [22]
(q (.bin .eql) [23, .k (.str [])]
(qf (.fld 0 none) [22] 24
(qf (.build [(.int .i64 0), (.str []), (.int .i64 0), (.int .i64 0)] [(0, 1), (1, 1)]) [.k (.int .i64 3), 25] 24
(qf (.call 126) [26] 24
(qf (.un .not) [27] 24
(q (.pick) [24, .k (.bool true), 28]
(.ite (.v 29) (.ret [.k (.int .i64 10)])
(q (.fld 1 none) [22]
(q (.bin .lss) [30, .k (.int .i64 0)]
(qf (.fld 1 none) [22] 31
(qf (.bin .gtr) [32, .k (.int .i64 4)] 31
(q (.pick) [31, .k (.bool true), 33]
(.ite (.v 34) (.ret [.k (.int .i64 13)])
(q (.fld 0 (some 17)) [1]
(q (.fld 2 (some 7)) [22]
(q (.call 125) [35, 36]
(q (.bin .neq) [37, .k (.int .i64 0)]
(.ite (.v 38) (.ret [37])
(q (.bin .add) [14, .k (.int .i64 1)]
(.next 1 [39, 15])))))))))))))))))))))))))
(.ret [.k (.int .i64 0)]))))))))))))))))))))
def H78 : List (Nat × Nat) := [(88, 10), (83, 10), (79, 10), (73, 10), (69, 10), (8, 10), (67, 1), (64, 3), (58, 3), (53, 3), (47, 1), (46, 1), (43, 3), (38, 1), (37, 1), (34, 3), (25, 1), (24, 1), (21, 3), (15, 3), (10, 3), (1, 3)]
def T79 : T :=
(.p .box [0] none
(q (.fld 16 none) [1]
(q (.lenSl) [2]
(q (.bin .gtr) [3, .k (.int .i64 64)]
(.ite (.v 4) (.ret [.k (.int .i64 4)])
(.loop 0 [.k (.int .i64 0), .k .nils, .k (.int .i64 0)] (q (.fld 16 none) [1]
(q (.lenSl) [8]
(q (.bin .lss) [5, 9]
(.ite (.v 10) (q (.fld 16 none) [1]
(q (.idxS 10) [11, 5]
(q (.ldE (some 10)) [12]
(.p (.wr 0 10) [.k (.agg [(.str []), (.int .i64 0), (.int .u64 0), (.int .u64 0), (.int .u64 0), (.int .u64 0), (.int .u64 0), (.int .u64 0), (.int .u64 0), (.int .u64 0)]), 13] none
(q (.fld 0 none) [14]
(q (.bslice false 1) [15]
(q (.call 111) [16, 6]
(q (.bin .neq) [17, .k (.int .i64 0)]
(.ite (.v 18) (.ret [17])
(q (.fld 0 none) [14]
(q (.bslice false 1) [19]
(.s (.app false 1) [6, 20] none
(q (.fld 1 none) [14]
(q (.bin .lss) [22, .k (.int .i64 1)]
(qf (.fld 1 none) [14] 23
(qf (.bin .gtr) [24, .k (.int .i64 3)] 23
(q (.pick) [23, .k (.bool true), 25]
(.ite (.v 26) (.ret [.k (.int .i64 13)])
(q (.fld 2 (some 4)) [14]
(q (.fld 1 none) [1]
(q (.lenSl) [28]
(q (.call 113) [27, 29]
(q (.ext 0) [30]
(q (.ext 1) [30]
(q (.fld 6 (some 4)) [14]
(q (.fld 1 none) [1]
(q (.lenSl) [34]
(q (.call 113) [33, 35]
(q (.ext 0) [36]
(q (.ext 1) [36]
(q (.un .not) [32]
(qf (.mv) [38] 39
(qf (.un .not) [40] 39
(q (.pick) [39, .k (.bool true), 41]
(.ite (.v 42) (.ret [.k (.int .i64 3)])
(q (.un .not) [31]
(qf (.mv) [37] 43
(qf (.un .not) [44] 43
(q (.pick) [43, .k (.bool true), 45]
(.ite (.v 46) (.ret [.k (.int .i64 2)])
(q (.bin .add) [5, .k (.int .i64 1)]
(.next 0 [47, 21, 7]))))))))))))))))))))))))))))))))))))))))))
(.ret [.k (.int .i64 0)])))))))))))
def H79 : List (Nat × Nat) := [(60, 3), (58, 7), (51, 3), (49, 7), (44, 7), (40, 7), (36, 7), (27, 7), (5, 7), (25, 1), (22, 3), (16, 3), (11, 3), (1, 3)]
def T80 : T :=
(.s (.alloc [(.int .u64 0), (.int .u64 0), (.int .u64 0), (.int .u64 0)]) [] none
(.loop 0 [.k (.int .i64 0)] (q (.lenSl) [0]
(q (.bin .lss) [2, 3]
(.ite (.v 4) (q (.idxS 1) [0, 2]
(q (.ldE none) [5]
(q (.bin .quo) [6, .k (.int .i64 64)]
(q (.idxS 1) [0, 2]
(q (.ldE none) [8]
(q (.bin .quo) [9, .k (.int .i64 64)]
(q (.idxA 4 1) [1, 10]
(.s (.ld none) [11] none
(q (.idxS 1) [0, 2]
(q (.ldE none) [13]
(q (.bin .rem) [14, .k (.int .i64 64)]
(q (.bin .shl) [.k (.int .u64 1), 15]
(q (.bin .or) [12, 16]
(q (.idxA 4 1) [1, 7]
(.s (.st 1) [18, 17] none
(q (.bin .add) [2, .k (.int .i64 1)]
(.next 0 [20])))))))))))))))))
(.s (.ld (some 4)) [1] none
(.p (.wr 0 4) [.k (.agg [(.int .u64 0), (.int .u64 0), (.int .u64 0), (.int .u64 0)]), 5] none
(q (.fld 0 (some 4)) [6]
(.ret [7])))))))))
def H80 : List (Nat × Nat) := [(25, 1), (18, 1), (13, 1), (2, 4)]
def T81 : T :=
(q (.build [(.int .i64 0), (.int .i64 0), (.int .i64 0), (.int .i64 0), (.int .u64 0), (.int .i64 0), (.int .u64 0)] [(2, 1)]) [.k (.int .i64 2)]
(.p (.wr 0 7) [.k (.agg [(.int .i64 0), (.int .i64 0), (.int .i64 0), (.int .i64 0), (.int .u64 0), (.int .i64 0), (.int .u64 0)]), 0] none
(q (.fld 0 (some 7)) [1]
(.ret [2]))))
def H81 : List (Nat × Nat) := [(0, 2)]
def T82 : T :=
(q (.bin .geq) [0, .k (.int .i64 0)]
(qt (.mv) [0] 1
(qt (.bin .lss) [2, .k (.int .i64 256)] 1
(q (.pick) [1, 3, .k (.bool false)]
(.ret [4])))))
def H82 : List (Nat × Nat) := []
def T87 : T :=
(q (.lenSl) [0]
(.loop 0 [.k (.int .i64 0), .k (.int .i64 0)] (q (.bin .lss) [3, 2]
(.ite (.v 5) (q (.idxS 11) [0, 3]
(q (.ldE (some 11)) [6]
(.s (.callV) [1, 7] none
(.ite (.v 8) (.ret [3])
(q (.bin .add) [3, .k (.int .i64 1)]
(.next 0 [9, 4]))))))
(.ret [.k (.int .i64 (-1))])))))
def H87 : List (Nat × Nat) := [(14, 1)]
def T88 : T :=
(.p .box [0] none
(q (.fld 0 none) [2]
(.s (.ld none) [1] none
(q (.bin .eql) [3, 4]
(.ret [5])))))
def H88 : List (Nat × Nat) := [(4, 4), (2, 4)]
def T89 : T :=
(q (.lenSl) [0]
(.loop 0 [.k (.int .i64 0), .k (.int .i64 0)] (q (.bin .lss) [3, 2]
(.ite (.v 5) (q (.idxS 9) [0, 3]
(q (.ldE (some 9)) [6]
(.s (.callV) [1, 7] none
(.ite (.v 8) (.ret [3])
(q (.bin .add) [3, .k (.int .i64 1)]
(.next 0 [9, 4]))))))
(.ret [.k (.int .i64 (-1))])))))
def H89 : List (Nat × Nat) := [(14, 1)]
def T90 : T :=
(.p .box [0] none
(q (.fld 0 none) [2]
(.s (.ld none) [1] none
(q (.bin .eql) [3, 4]
(.ret [5])))))
def H90 : List (Nat × Nat) := [(4, 4), (2, 4)]
def T91 : T :=
(q (.lenSl) [0]
(.loop 0 [.k (.int .i64 0), .k (.int .i64 0)] (q (.bin .lss) [3, 2]
(.ite (.v 5) (q (.idxS 3) [0, 3]
(q (.ldE (some 3)) [6]
(.s (.callV) [1, 7] none
(.ite (.v 8) (.ret [3])
(q (.bin .add) [3, .k (.int .i64 1)]
(.next 0 [9, 4]))))))
(.ret [.k (.int .i64 (-1))])))))
def H91 : List (Nat × Nat) := [(14, 1)]
def T92 : T :=
(.p .box [0] none
(q (.fld 0 none) [2]
(.s (.ld none) [1] none
(q (.bin .eql) [3, 4]
(qf (.fld 1 none) [2] 5
(.s (.ld none) [1] (some (5, false))
(qf (.call 93) [6, 7] 5
(q (.pick) [5, .k (.bool true), 8]
(.ret [9])))))))))
def H92 : List (Nat × Nat) := [(9, 4), (4, 4), (2, 4)]
def T93 : T :=
(q (.call 108) [0, 1]
(q (.bin .geq) [2, .k (.int .i64 0)]
(.ret [3])))
def H93 : List (Nat × Nat) := []
def T100 : T :=
(q (.lenSl) [0]
(q (.bin .gtr) [2, 1]
(.ite (.v 3) (.ret [.k (.bool false)])
(q (.lenSl) [0]
(.loop 0 [.k (.int .i64 0), .k (.bool false)] (q (.bin .lss) [5, 4]
(.ite (.v 7) (q (.idxS 1) [0, 5]
(q (.ldE none) [8]
(q (.lenStr) [9]
(q (.bin .gtr) [10, .k (.int .i64 32)]
(qf (.mv) [9] 11
(qf (.call 102) [12] 11
(qf (.un .not) [13] 11
(q (.pick) [11, .k (.bool true), 14]
(qf (.mv) [0] 15
(qf (.mv) [5] 15
(qf (.slcV 1 false true false) [16, 17] 15
(qf (.mv) [9] 15
(qf (.call 93) [18, 19] 15
(q (.pick) [15, .k (.bool true), 20]
(.ite (.v 21) (.ret [.k (.bool false)])
(q (.bin .add) [5, .k (.int .i64 1)]
(.next 0 [22, 6])))))))))))))))))
(.ret [.k (.bool true)]))))))))
def H100 : List (Nat × Nat) := [(16, 1)]
def T102 : T :=
(q (.lenStr) [0]
(.loop 0 [.k (.int .i64 0), .k (.bool false)] (q (.bin .lss) [2, 1]
(.ite (.v 4) (q (.idxStr) [0, 2]
(q (.call 134) [5]
(q (.un .not) [6]
(.ite (.v 7) (.ret [.k (.bool false)])
(q (.bin .add) [2, .k (.int .i64 1)]
(.next 0 [8, 3]))))))
(q (.bin .neq) [0, .k (.str [])]
(.ret [5]))))))
def H102 : List (Nat × Nat) := []
def T103 : T :=
(q (.call 135) [0, 1, .k (.int .i64 0), .k (.int .i64 (-1))]
(.ret [2]))
def H103 : List (Nat × Nat) := []
def T104 : T :=
(q (.call 54) [0, .k (.str [46])]
(q (.ext 0) [1]
(q (.ext 1) [1]
(q (.ext 2) [1]
(q (.build [(.str []), (.str [])] [(0, 1), (1, 1)]) [2, 3]
(q (.call 102) [2]
(qt (.mv) [4] 6
(qt (.un .not) [7] 6
(qt (.mv) [8] 6
(qf (.mv) [3] 9
(qf (.call 102) [10] 9
(qt (.pick) [9, .k (.bool true), 11] 6
(q (.pick) [6, 12, .k (.bool false)]
(.p (.wr 0 2) [.k (.agg [(.str []), (.str [])]), 5] none
(q (.fld 0 (some 2)) [14]
(.ret [15, 13]))))))))))))))))
def H104 : List (Nat × Nat) := [(2, 4)]
def T105 : T :=
(.p .box [0] none
(q (.call 53) [1, 2]
(q (.un .not) [4]
(.ite (.v 5) (q (.build [(.int .i64 0), (.int .u64 0)] []) []
(.p (.wr 0 2) [.k (.agg [(.int .i64 0), (.int .u64 0)]), 6] none
(q (.fld 0 (some 2)) [7]
(.ret [8, .k (.int .i64 2)]))))
(q (.fld 0 none) [3]
(q (.call 108) [1, 6]
(q (.bin .lss) [7, .k (.int .i64 0)]
(.ite (.v 8) (q (.build [(.int .i64 0), (.int .u64 0)] []) []
(.p (.wr 0 2) [.k (.agg [(.int .i64 0), (.int .u64 0)]), 9] none
(q (.fld 0 (some 2)) [10]
(.ret [11, .k (.int .i64 11)]))))
(q (.build [(.int .i64 0), (.int .u64 0)] [(0, 1)]) [7]
(.p (.wr 0 2) [.k (.agg [(.int .i64 0), (.int .u64 0)]), 9] none
(q (.fld 1 none) [3]
(q (.lenSl) [11]
(.loop 0 [.k (.int .i64 0), .k (.int .i64 0), 10, .k (.agg [(.int .i64 0), (.int .u64 0)])] (q (.bin .lss) [13, 12]
(.ite (.v 17) (q (.idxS 2) [11, 13]
(q (.ldE (some 2)) [18]
(.p (.wr 0 2) [.k (.agg [(.str []), (.str [])]), 19] none
(q (.fld 0 none) [20]
(q (.call 108) [2, 21]
(q (.fld 1 none) [20]
(q (.bin .neq) [23, .k (.str [])]
(.join 1 1 (.ite (.v 24) (q (.fld 1 none) [20]
(q (.call 108) [2, 25]
(.next 1 [26])))
(.next 1 [22]))
(q (.bin .lss) [22, .k (.int .i64 0)]
(qf (.mv) [25] 26
(qf (.bin .lss) [27, .k (.int .i64 0)] 26
(q (.pick) [26, .k (.bool true), 28]
(.ite (.v 29) (q (.build [(.int .i64 0), (.int .u64 0)] []) []
(.p (.wr 0 2) [16, 30] none
(q (.fld 0 (some 2)) [31]
(.ret [32, .k (.int .i64 11)]))))
(q (.bin .lss) [25, 22]
(.ite (.v 30) (q (.build [(.int .i64 0), (.int .u64 0)] []) []
(.p (.wr 0 2) [16, 31] none
(q (.fld 0 (some 2)) [32]
(.ret [33, .k (.int .i64 18)]))))
(.loop 1 [22, 15] (q (.bin .leq) [31, 25]
(.ite (.v 33) (q (.fld 1 none) [32]
(q (.bin .shl) [.k (.int .u64 1), 31]
(q (.bin .or) [34, 35]
(.p (.wr 1 1) [32, 36] none
(q (.bin .add) [31, .k (.int .i64 1)]
(.next 1 [38, 37]))))))
(q (.bin .add) [13, .k (.int .i64 1)]
(.next 0 [34, 14, 32, 16]))))))))))))))))))))
(q (.fld 0 (some 2)) [15]
(.p (.wr 0 2) [16, 18] none
(q (.fld 0 (some 2)) [19]
(.ret [20, .k (.int .i64 0)])))))))))))))))))))
def H105 : List (Nat × Nat) := [(72, 11), (67, 11), (45, 13), (41, 13), (37, 13), (11, 13), (34, 1), (29, 5), (9, 11), (21, 5), (6, 8), (3, 5)]
def T106 : T :=
(.loop 0 [.k (.int .i64 0), .k .nils] (q (.bin .lss) [1, .k (.int .i64 64)]
(.ite (.v 3) (q (.bin .shr) [0, 1]
(q (.bin .and) [4, .k (.int .u64 1)]
(q (.bin .eql) [5, .k (.int .u64 0)]
(.ite (.v 6) (q (.bin .add) [1, .k (.int .i64 1)]
(.next 0 [7, 2]))
(q (.build [(.int .i64 0), (.int .i64 0)] [(0, 1), (1, 1)]) [1, 1]
(.p (.wr 0 2) [.k (.agg [(.int .i64 0), (.int .i64 0)]), 7] none
(.loop 1 [8] (q (.fld 1 none) [9]
(q (.bin .add) [10, .k (.int .i64 1)]
(q (.bin .lss) [11, .k (.int .i64 64)]
(qt (.mv) [0] 12
(qt (.fld 1 none) [9] 12
(qt (.bin .add) [14, .k (.int .i64 1)] 12
(qt (.bin .shr) [13, 15] 12
(qt (.bin .and) [16, .k (.int .u64 1)] 12
(qt (.bin .eql) [17, .k (.int .u64 1)] 12
(q (.pick) [12, 18, .k (.bool false)]
(.ite (.v 19) (q (.fld 1 none) [9]
(q (.bin .add) [20, .k (.int .i64 1)]
(.p (.wr 1 1) [9, 21] none
(.next 1 [22]))))
(q (.fld 0 (some 2)) [9]
(q (.bslice false 2) [20]
(.s (.app false 2) [2, 21] none
(q (.fld 1 none) [9]
(q (.bin .add) [23, .k (.int .i64 1)]
(.next 0 [24, 22]))))))))))))))))))))))))
(.ret [2]))))
def H106 : List (Nat × Nat) := [(39, 7), (34, 7), (31, 7), (24, 7), (18, 7), (5, 7)]
def T108 : T :=
(q (.lenSl) [0]
(.loop 0 [.k (.int .i64 0), .k (.int .i64 0)] (q (.bin .lss) [3, 2]
(.ite (.v 5) (q (.idxS 1) [0, 3]
(q (.ldE none) [6]
(q (.bin .eql) [1, 7]
(.ite (.v 8) (.ret [3])
(q (.bin .add) [3, .k (.int .i64 1)]
(.next 0 [9, 4]))))))
(.ret [.k (.int .i64 (-1))])))))
def H108 : List (Nat × Nat) := [(14, 1)]
def T110 : T :=
(.p .box [0] none
(q (.bin .eql) [1, .k (.int .i64 0)]
(.ite (.v 3) (.ret [.k (.int .i64 0)])
(.loop 0 [.k (.int .i64 0), .k (.int .i64 0)] (q (.fld 9 none) [2]
(q (.lenSl) [6]
(q (.bin .lss) [4, 7]
(.ite (.v 8) (q (.fld 9 none) [2]
(q (.idxS 10) [9, 4]
(q (.ldE (some 10)) [10]
(q (.bin .sub) [1, .k (.int .i64 1)]
(q (.call 110) [11, 12]
(q (.mx) [5, 13]
(q (.bin .add) [4, .k (.int .i64 1)]
(.next 0 [15, 14]))))))))
(q (.bin .add) [5, .k (.int .i64 1)]
(.ret [9]))))))))))
def H110 : List (Nat × Nat) := [(20, 1), (17, 4), (10, 4), (2, 4)]
def T111 : T :=
(.loop 0 [.k (.int .i64 0), .k (.int .i64 0)] (q (.lenSl) [0]
(q (.bin .lss) [2, 4]
(.ite (.v 5) (q (.idxS 1) [0, 2]
(q (.ldE none) [6]
(q (.call 139) [7]
(q (.un .not) [8]
(.ite (.v 9) (.ret [.k (.int .i64 10)])
(q (.idxS 1) [0, 2]
(q (.ldE none) [10]
(q (.slcV 1 false true false) [0, 2]
(q (.call 140) [11, 12]
(qf (.mv) [0] 13
(qf (.mv) [2] 13
(qf (.idxS 1) [14, 15] 13
(qf (.ldE none) [16] 13
(qf (.mv) [1] 13
(qf (.call 140) [17, 18] 13
(q (.pick) [13, .k (.bool true), 19]
(.ite (.v 20) (.ret [.k (.int .i64 12)])
(q (.bin .add) [2, .k (.int .i64 1)]
(.next 0 [21, 3])))))))))))))))))))
(.ret [.k (.int .i64 0)])))))
def H111 : List (Nat × Nat) := [(31, 1), (22, 1), (15, 1)]
def T112 : T :=
(.p .box [0] none
(.loop 0 [.k (.int .i64 0), .k .nils] (q (.bin .lss) [3, 1]
(.ite (.v 5) (q (.fld 1 none) [2]
(q (.idxS 3) [6, 3]
(q (.off 0) [7]
(q (.ldE none) [8]
(q (.bslice false 1) [9]
(.s (.app false 1) [4, 10] none
(q (.fld 1 none) [2]
(q (.idxS 3) [12, 3]
(q (.off 1) [13]
(q (.ldE none) [14]
(.s (.app false 1) [11, 15] none
(q (.bin .add) [3, .k (.int .i64 1)]
(.next 0 [17, 16])))))))))))))
(.ret [4])))))
def H112 : List (Nat × Nat) := [(26, 1), (25, 1), (22, 4), (17, 1), (16, 1), (13, 4), (2, 4)]
def T113 : T :=
(.p .box [0] none
(q (.fld 0 (some 4)) [2]
(q (.build [(.int .u64 0), (.int .u64 0), (.int .u64 0), (.int .u64 0)] []) []
(q (.eqa true [.i .u64, .i .u64, .i .u64, .i .u64]) [3, 4]
(q (.fld 0 (some 4)) [2]
(q (.call 30) [1]
(q (.call 114) [6, 7]
(.ret [5, 8]))))))))
def H113 : List (Nat × Nat) := [(2, 4)]
def T114 : T :=
(.p .box [0] none
(.p .box [1] none
(q (.fld 0 (some 4)) [2]
(q (.fld 0 (some 4)) [3]
(q (.call 141) [4, 5]
(q (.build [(.int .u64 0), (.int .u64 0), (.int .u64 0), (.int .u64 0)] []) []
(q (.eqa false [.i .u64, .i .u64, .i .u64, .i .u64]) [6, 7]
(.ret [8]))))))))
def H114 : List (Nat × Nat) := [(3, 5), (2, 4)]
def T115 : T :=
(.p .box [0] none
(.p .box [1] none
(q (.fld 0 (some 4)) [3]
(q (.fld 3 none) [2]
(q (.lenSl) [5]
(q (.call 30) [6]
(q (.call 29) [7, .k (.int .i64 0)]
(q (.call 114) [4, 8]
(.ret [9])))))))))
def H115 : List (Nat × Nat) := [(6, 4), (3, 5), (2, 4)]
def T116 : T :=
(.p .box [0] none
(.p .box [1] none
(q (.fld 0 (some 17)) [2]
(q (.fld 0 (some 2)) [3]
(q (.call 117) [4, 5]
(qt (.fld 0 (some 17)) [2] 6
(qt (.fld 2 (some 2)) [3] 6
(qt (.call 117) [7, 8] 6
(q (.pick) [6, 9, .k (.bool false)]
(qt (.fld 2 (some 2)) [3] 10
(qt (.fld 0 (some 2)) [3] 10
(qt (.call 118) [11, 12] 10
(q (.pick) [10, 13, .k (.bool false)]
(.ret [14]))))))))))))))
def H116 : List (Nat × Nat) := [(18, 5), (16, 5), (11, 5), (6, 5), (3, 5), (2, 4)]
def T117 : T :=
(.p .box [0] none
(.p .box [1] none
(q (.fld 0 none) [3]
(q (.fld 6 none) [2]
(q (.lenSl) [5]
(q (.call 122) [4, 6]
(qt (.fld 7 none) [2] 7
(qt (.lenSl) [8] 7
(qt (.bin .geq) [9, .k (.int .i64 64)] 7
(qt (.mv) [10] 7
(qf (.fld 1 none) [3] 11
(qf (.fld 7 none) [2] 11
(qf (.lenSl) [13] 11
(qf (.bin .shr) [12, 14] 11
(qf (.bin .eql) [15, .k (.int .u64 0)] 11
(qt (.pick) [11, .k (.bool true), 16] 7
(q (.pick) [7, 17, .k (.bool false)]
(.ret [18]))))))))))))))))))
def H117 : List (Nat × Nat) := [(19, 4), (17, 5), (12, 4), (7, 4), (5, 5), (3, 5), (2, 4)]
def T118 : T :=
(.p .box [0] none
(.p .box [1] none
(q (.fld 0 none) [2]
(q (.fld 0 none) [3]
(q (.bin .geq) [4, 5]
(qt (.fld 1 none) [3] 6
(qt (.fld 1 none) [2] 6
(qt (.bin .andNot) [7, 8] 6
(qt (.bin .eql) [9, .k (.int .u64 0)] 6
(q (.pick) [6, 10, .k (.bool false)]
(.ret [11])))))))))))
def H118 : List (Nat × Nat) := [(13, 4), (11, 5), (7, 5), (5, 4), (3, 5), (2, 4)]
def T119 : T :=
(.p .box [0] none
(.p .box [1] none
(q (.fld 0 (some 10)) [3]
(q (.call 67) [4]
(q (.bin .gtr) [5, .k (.int .i64 12)]
(.ite (.v 6) (.ret [.k (.int .i64 4)])
(q (.fld 0 (some 17)) [2]
(q (.fld 0 (some 10)) [3]
(q (.call 142) [7, 8]
(.ret [9]))))))))))
def H119 : List (Nat × Nat) := [(3, 5), (2, 4)]
def T120 : T :=
(.p .box [0] none
(q (.fld 0 none) [3]
(q (.lenSl) [4]
(q (.call 122) [1, 5]
(qt (.fld 0 none) [3] 6
(qt (.mv) [1] 6
(qt (.idxS 2) [7, 8] 6
(qt (.off 1) [9] 6
(qt (.ldE none) [10] 6
(qt (.lenSl) [11] 6
(qt (.bin .geq) [12, .k (.int .i64 32)] 6
(qt (.mv) [13] 6
(qf (.mv) [2] 14
(qf (.fld 0 none) [3] 14
(qf (.mv) [1] 14
(qf (.idxS 2) [16, 17] 14
(qf (.off 1) [18] 14
(qf (.ldE none) [19] 14
(qf (.lenSl) [20] 14
(qf (.bin .shr) [15, 21] 14
(qf (.bin .eql) [22, .k (.int .u32 0)] 14
(qt (.pick) [14, .k (.bool true), 23] 6
(q (.pick) [6, 24, .k (.bool false)]
(.ret [25]))))))))))))))))))))))))
def H120 : List (Nat × Nat) := [(27, 1), (26, 1), (23, 5), (17, 1), (16, 1), (13, 5), (8, 5), (3, 5)]
def T121 : T :=
(.p .box [0] none
(q (.fld 8 none) [2]
(q (.lenSl) [3]
(q (.un .neg) [4]
(q (.bin .geq) [1, 5]
(qt (.mv) [1] 6
(qt (.fld 8 none) [2] 6
(qt (.lenSl) [8] 6
(qt (.bin .leq) [7, 9] 6
(q (.pick) [6, 10, .k (.bool false)]
(.ret [11])))))))))))
def H121 : List (Nat × Nat) := [(13, 4), (6, 4), (2, 4)]
def T122 : T :=
(q (.bin .geq) [0, .k (.int .i64 0)]
(qt (.mv) [0] 2
(qt (.mv) [1] 2
(qt (.bin .lss) [3, 4] 2
(q (.pick) [2, 5, .k (.bool false)]
(.ret [6]))))))
def H122 : List (Nat × Nat) := []
def T123 : T :=
(.loop 0 [.k (.int .i64 0), .k (.bool false)] (q (.lenStr) [0]
(q (.bin .lss) [1, 3]
(.ite (.v 4) (q (.idxStr) [0, 1]
(q (.bin .lss) [5, .k (.int .u8 33)]
(qf (.mv) [0] 6
(qf (.mv) [1] 6
(qf (.idxStr) [7, 8] 6
(qf (.bin .gtr) [9, .k (.int .u8 126)] 6
(q (.pick) [6, .k (.bool true), 10]
(qf (.mv) [0] 11
(qf (.mv) [1] 11
(qf (.idxStr) [12, 13] 11
(qf (.bin .eql) [14, .k (.int .u8 34)] 11
(q (.pick) [11, .k (.bool true), 15]
(qf (.mv) [0] 16
(qf (.mv) [1] 16
(qf (.idxStr) [17, 18] 16
(qf (.bin .eql) [19, .k (.int .u8 47)] 16
(q (.pick) [16, .k (.bool true), 20]
(.ite (.v 21) (.ret [.k (.bool false)])
(q (.bin .add) [1, .k (.int .i64 1)]
(.next 0 [22, 2]))))))))))))))))))))
(q (.lenStr) [0]
(q (.bin .geq) [5, .k (.int .i64 1)]
(qt (.mv) [0] 6
(qt (.lenStr) [7] 6
(qt (.bin .leq) [8, .k (.int .i64 32)] 6
(q (.pick) [6, 9, .k (.bool false)]
(.ret [10])))))))))))
def H123 : List (Nat × Nat) := []
def T124 : T :=
(.p .box [0] none
(.p .box [1] none
(q (.fld 0 (some 10)) [4]
(q (.call 67) [5]
(q (.bin .gtr) [6, .k (.int .i64 12)]
(.ite (.v 7) (.ret [.k (.int .i64 4)])
(.ite (.v 2) (q (.fld 0 (some 17)) [3]
(q (.fld 0 (some 10)) [4]
(q (.call 143) [8, 9, .k (.int .i64 15)]
(.ret [10]))))
(q (.fld 0 (some 17)) [3]
(q (.fld 0 (some 10)) [4]
(q (.call 143) [8, 9, .k (.int .i64 10)]
(.ret [10])))))))))))
def H124 : List (Nat × Nat) := [(4, 6), (3, 5)]
def T125 : T :=
(.p .box [0] none
(.p .box [1] none
(q (.fld 0 none) [3]
(q (.fld 4 none) [2]
(q (.lenSl) [5]
(q (.call 122) [4, 6]
(q (.un .not) [7]
(qf (.fld 1 none) [3] 8
(qf (.fld 3 none) [2] 8
(qf (.lenSl) [10] 8
(qf (.call 122) [9, 11] 8
(qf (.un .not) [12] 8
(q (.pick) [8, .k (.bool true), 13]
(qf (.fld 2 none) [3] 14
(qf (.fld 1 none) [2] 14
(qf (.lenSl) [16] 14
(qf (.call 122) [15, 17] 14
(qf (.un .not) [18] 14
(q (.pick) [14, .k (.bool true), 19]
(.ite (.v 20) (.ret [.k (.int .i64 3)])
(q (.fld 0 (some 17)) [2]
(q (.fld 3 (some 4)) [3]
(q (.call 116) [21, 22]
(q (.un .not) [23]
(.ite (.v 24) (.ret [.k (.int .i64 18)])
(q (.fld 1 none) [3]
(q (.bin .eql) [25, .k (.int .i64 0)]
(.ite (.v 26) (.ret [.k (.int .i64 0)])
(q (.fld 4 none) [2]
(q (.fld 0 none) [3]
(q (.idxS 11) [27, 28]
(q (.ldE (some 11)) [29]
(.p (.wr 0 11) [.k (.agg [(.str []), (.int .u64 0), (.int .u64 0), (.int .u64 0), (.int .u64 0), (.int .i64 0), (.int .u64 0), (.int .i64 0), (.int .u64 0), (.int .i64 0), (.int .u64 0)]), 30] none
(q (.fld 3 (some 2)) [3]
(q (.fld 7 (some 2)) [31]
(q (.call 118) [32, 33]
(qt (.fld 9 (some 2)) [31] 34
(qt (.fld 5 (some 2)) [3] 34
(qt (.call 118) [35, 36] 34
(q (.pick) [34, 37, .k (.bool false)]
(q (.un .not) [38]
(qf (.fld 1 (some 4)) [31] 39
(qf (.fld 1 none) [3] 39
(qf (.call 43) [40, 41] 39
(qf (.un .not) [42] 39
(q (.pick) [39, .k (.bool true), 43]
(qf (.fld 3 none) [2] 44
(qf (.fld 1 none) [3] 44
(qf (.idxS 9) [45, 46] 44
(qf (.off 1) [47] 44
(qf (.ldE (some 4)) [48] 44
(qf (.fld 2 none) [3] 44
(qf (.call 43) [49, 50] 44
(qf (.un .not) [51] 44
(q (.pick) [44, .k (.bool true), 52]
(.ite (.v 53) (.ret [.k (.int .i64 19)])
(.ret [.k (.int .i64 0)])))))))))))))))))))))))))))))))))))))))))))))))))))))))))
def H125 : List (Nat × Nat) := [(80, 5), (78, 1), (77, 1), (75, 5), (73, 4), (67, 5), (65, 7), (58, 5), (57, 5), (55, 7), (54, 7), (50, 7), (49, 7), (47, 5), (46, 5), (5, 7), (44, 1), (42, 5), (40, 4), (37, 5), (33, 5), (26, 4), (24, 5), (17, 4), (15, 5), (9, 4), (7, 5), (3, 5), (2, 4)]
def T126 : T :=
(.p .box [0] none
(q (.fld 0 none) [1]
(q (.bin .eql) [2, .k (.int .i64 0)]
(.ite (.v 3) (q (.fld 1 none) [1]
(q (.bin .eql) [4, .k (.str [])]
(.ret [5])))
(q (.bin .eql) [2, .k (.int .i64 1)]
(.ite (.v 4) (q (.fld 1 none) [1]
(q (.call 144) [5]
(.ret [6])))
(q (.bin .eql) [2, .k (.int .i64 2)]
(.ite (.v 5) (q (.fld 1 none) [1]
(q (.call 145) [6]
(.ret [7])))
(q (.bin .eql) [2, .k (.int .i64 3)]
(.ite (.v 6) (q (.fld 1 none) [1]
(q (.call 146) [7]
(.ret [8])))
(q (.bin .eql) [2, .k (.int .i64 4)]
(.ite (.v 7) (q (.fld 1 none) [1]
(q (.call 147) [8, .k (.str [123, 32, 125, 32, 40, 32, 41, 32, 59, 32, 58, 32, 44, 32, 46, 32, 45, 32, 126, 32, 42, 32, 33, 32, 61, 61, 32, 33, 61, 32, 38, 38, 32, 124, 124, 32, 94, 32])]
(.ret [9])))
(.ret [.k (.bool false)])))))))))))))
def H126 : List (Nat × Nat) := [(27, 3), (22, 3), (17, 3), (12, 3), (7, 3), (3, 3), (1, 3)]
def T134 : T :=
(q (.bin .geq) [0, .k (.int .u8 97)]
(qt (.mv) [0] 1
(qt (.bin .leq) [2, .k (.int .u8 122)] 1
(q (.pick) [1, 3, .k (.bool false)]
(qf (.mv) [0] 4
(qf (.bin .geq) [5, .k (.int .u8 65)] 4
(qf (.mv) [6] 4
(qt (.mv) [0] 7
(qt (.bin .leq) [8, .k (.int .u8 90)] 7
(qf (.pick) [7, 9, .k (.bool false)] 4
(q (.pick) [4, .k (.bool true), 10]
(qf (.mv) [0] 11
(qf (.bin .geq) [12, .k (.int .u8 48)] 11
(qf (.mv) [13] 11
(qt (.mv) [0] 14
(qt (.bin .leq) [15, .k (.int .u8 57)] 14
(qf (.pick) [14, 16, .k (.bool false)] 11
(q (.pick) [11, .k (.bool true), 17]
(qf (.mv) [0] 18
(qf (.bin .eql) [19, .k (.int .u8 95)] 18
(q (.pick) [18, .k (.bool true), 20]
(.ret [21]))))))))))))))))))))))
def H134 : List (Nat × Nat) := []
def T139 : T :=
(q (.call 160) [0]
(.ret [1]))
def H139 : List (Nat × Nat) := []
def T140 : T :=
(.loop 0 [.k (.int .i64 0), .k (.bool false)] (q (.lenSl) [1]
(q (.bin .lss) [2, 4]
(.ite (.v 5) (q (.idxS 1) [1, 2]
(q (.ldE none) [6]
(q (.bin .eql) [7, 0]
(.ite (.v 8) (.ret [.k (.bool true)])
(q (.bin .add) [2, .k (.int .i64 1)]
(.next 0 [9, 3]))))))
(.ret [.k (.bool false)])))))
def H140 : List (Nat × Nat) := [(14, 1)]
def T141 : T :=
(.s (.box) [0] none
(.s (.box) [1] none
(.loop 0 [.k (.int .i64 0)] (q (.bin .lss) [4, .k (.int .i64 4)]
(.ite (.v 5) (q (.idxA 4 1) [2, 4]
(.s (.ld none) [6] none
(q (.idxA 4 1) [3, 4]
(.s (.ld none) [8] none
(q (.bin .andNot) [7, 9]
(q (.idxA 4 1) [2, 4]
(.s (.st 1) [11, 10] none
(q (.bin .add) [4, .k (.int .i64 1)]
(.next 0 [13])))))))))
(.s (.ld (some 4)) [2] none
(.p (.wr 0 4) [.k (.agg [(.int .u64 0), (.int .u64 0), (.int .u64 0), (.int .u64 0)]), 6] none
(q (.fld 0 (some 4)) [7]
(.ret [8])))))))))
def H141 : List (Nat × Nat) := [(4, 6)]
def T142 : T :=
(.p .box [0] none
(.p .box [1] none
(q (.fld 0 none) [3]
(q (.bin .eql) [4, .k (.int .i64 8)]
(qf (.fld 0 none) [3] 5
(qf (.bin .eql) [6, .k (.int .i64 9)] 5
(q (.pick) [5, .k (.bool true), 7]
(qf (.fld 0 none) [3] 8
(qf (.call 161) [9] 8
(qf (.fld 9 none) [3] 8
(qf (.lenSl) [11] 8
(qf (.bin .neq) [10, 12] 8
(q (.pick) [8, .k (.bool true), 13]
(qf (.fld 2 none) [3] 14
(qf (.bin .neq) [15, .k (.int .i64 0)] 14
(q (.pick) [14, .k (.bool true), 16]
(qf (.fld 3 none) [3] 17
(qf (.bin .neq) [18, .k (.int .i64 0)] 17
(q (.pick) [17, .k (.bool true), 19]
(qf (.fld 4 none) [3] 20
(qf (.lenSl) [21] 20
(qf (.bin .gtr) [22, .k (.int .i64 0)] 20
(q (.pick) [20, .k (.bool true), 23]
(qf (.fld 5 (some 4)) [3] 24
(qf (.build [(.int .u64 0), (.int .u64 0), (.int .u64 0), (.int .u64 0)] []) [] 24
(qf (.eqa true [.i .u64, .i .u64, .i .u64, .i .u64]) [25, 26] 24
(q (.pick) [24, .k (.bool true), 27]
(qf (.fld 0 none) [3] 28
(qf (.bin .neq) [29, .k (.int .i64 1)] 28
(qf (.mv) [30] 28
(qt (.fld 1 none) [3] 31
(qt (.bin .neq) [32, .k (.int .i64 0)] 31
(qf (.pick) [31, 33, .k (.bool false)] 28
(q (.pick) [28, .k (.bool true), 34]
(.ite (.v 35) (.ret [.k (.int .i64 2)])
(q (.fld 0 none) [3]
(q (.bin .eql) [36, .k (.int .i64 1)]
(qt (.fld 1 none) [3] 37
(qt (.fld 5 none) [2] 37
(qt (.lenSl) [39] 37
(qt (.call 122) [38, 40] 37
(qt (.un .not) [41] 37
(q (.pick) [37, 42, .k (.bool false)]
(.ite (.v 43) (.ret [.k (.int .i64 3)])
(.loop 0 [.k (.int .i64 0), .k (.int .i64 0)] (q (.fld 9 none) [3]
(q (.lenSl) [46]
(q (.bin .lss) [44, 47]
(.ite (.v 48) (q (.fld 0 (some 17)) [2]
(q (.fld 9 none) [3]
(q (.idxS 10) [50, 44]
(q (.ldE (some 10)) [51]
(q (.call 142) [49, 52]
(q (.bin .neq) [53, .k (.int .i64 0)]
(.ite (.v 54) (.ret [53])
(q (.bin .add) [44, .k (.int .i64 1)]
(.next 0 [55, 45])))))))))
(.ret [.k (.int .i64 0)]))))))))))))))))))))))))))))))))))))))))))))))))))
def H142 : List (Nat × Nat) := [(79, 1), (76, 5), (69, 5), (62, 4), (60, 5), (56, 5), (51, 5), (47, 5), (41, 5), (35, 5), (30, 5), (25, 5), (19, 5), (16, 5), (11, 5), (7, 5), (3, 5), (2, 4)]
def T143 : T :=
(.p .box [0] none
(.p .box [1] none
(q (.fld 0 (some 10)) [4]
(q (.call 162) [5]
(q (.un .not) [6]
(.ite (.v 7) (.ret [.k (.int .i64 2)])
(q (.fld 0 none) [4]
(q (.bin .eql) [8, .k (.int .i64 8)]
(.ite (.v 9) (q (.fld 0 (some 10)) [4]
(q (.call 163) [10, 2]
(.ret [11])))
(q (.fld 0 none) [4]
(q (.bin .eql) [10, .k (.int .i64 9)]
(.join 0 1 (.ite (.v 11) (q (.fld 1 none) [4]
(q (.call 122) [12, 2]
(q (.un .not) [13]
(.ite (.v 14) (.ret [.k (.int .i64 3)])
(q (.fld 0 (some 17)) [3]
(q (.fld 1 none) [4]
(q (.call 164) [15, 16]
(q (.bin .lss) [17, .k (.int .i64 0)]
(.ite (.v 18) (.ret [.k (.int .i64 13)])
(q (.fld 5 (some 4)) [4]
(q (.call 113) [19, 17]
(q (.ext 0) [20]
(q (.ext 1) [20]
(q (.un .not) [22]
(.ite (.v 23) (.ret [.k (.int .i64 3)])
(q (.un .not) [21]
(.ite (.v 24) (.ret [.k (.int .i64 2)])
(.next 0 [.k (.int .i64 0)]))))))))))))))))))
(.next 0 [.k (.int .i64 0)]))
(.loop 0 [.k (.int .i64 0), 12] (q (.fld 9 none) [4]
(q (.lenSl) [15]
(q (.bin .lss) [13, 16]
(.ite (.v 17) (q (.fld 0 (some 17)) [3]
(q (.fld 9 none) [4]
(q (.idxS 10) [19, 13]
(q (.ldE (some 10)) [20]
(q (.call 143) [18, 21, 2]
(q (.bin .neq) [22, .k (.int .i64 0)]
(.ite (.v 23) (.ret [22])
(q (.bin .add) [13, .k (.int .i64 1)]
(.next 0 [24, 14])))))))))
(.ret [.k (.int .i64 0)]))))))))))))))))))
def H143 : List (Nat × Nat) := [(57, 1), (54, 6), (47, 6), (36, 6), (30, 6), (24, 6), (21, 6), (15, 6), (4, 6), (3, 5)]
def T144 : T :=
(.loop 0 [.k (.int .i64 0), .k (.bool false)] (q (.lenStr) [0]
(q (.bin .lss) [1, 3]
(.ite (.v 4) (q (.idxStr) [0, 1]
(q (.call 165) [5]
(q (.un .not) [6]
(qt (.mv) [1] 7
(qt (.bin .eql) [8, .k (.int .i64 0)] 7
(qt (.mv) [9] 7
(qf (.mv) [0] 10
(qf (.mv) [1] 10
(qf (.idxStr) [11, 12] 10
(qf (.call 166) [13] 10
(qf (.un .not) [14] 10
(qt (.pick) [10, .k (.bool true), 15] 7
(q (.pick) [7, 16, .k (.bool false)]
(.ite (.v 17) (.ret [.k (.bool false)])
(q (.bin .add) [1, .k (.int .i64 1)]
(.next 0 [18, 2]))))))))))))))))
(q (.lenStr) [0]
(q (.bin .geq) [5, .k (.int .i64 1)]
(qt (.mv) [0] 6
(qt (.lenStr) [7] 6
(qt (.bin .leq) [8, .k (.int .i64 32)] 6
(q (.pick) [6, 9, .k (.bool false)]
(.ret [10])))))))))))
def H144 : List (Nat × Nat) := []
def T145 : T :=
(.loop 0 [.k (.int .i64 0), .k (.bool false)] (q (.lenStr) [0]
(q (.bin .lss) [1, 3]
(.ite (.v 4) (q (.idxStr) [0, 1]
(q (.call 166) [5]
(q (.un .not) [6]
(.ite (.v 7) (.ret [.k (.bool false)])
(q (.bin .add) [1, .k (.int .i64 1)]
(.next 0 [8, 2]))))))
(q (.lenStr) [0]
(q (.bin .geq) [5, .k (.int .i64 1)]
(qt (.mv) [0] 6
(qt (.lenStr) [7] 6
(qt (.bin .leq) [8, .k (.int .i64 9)] 6
(q (.pick) [6, 9, .k (.bool false)]
(qt (.mv) [0] 10
(qt (.lenStr) [11] 10
(qt (.bin .eql) [12, .k (.int .i64 1)] 10
(qt (.mv) [13] 10
(qf (.mv) [0] 14
(qf (.idxStr) [15, .k (.int .i64 0)] 14
(qf (.bin .neq) [16, .k (.int .u8 48)] 14
(qt (.pick) [14, .k (.bool true), 17] 10
(q (.pick) [10, 18, .k (.bool false)]
(.ret [19]))))))))))))))))))))
def H145 : List (Nat × Nat) := []
def T146 : T :=
(.loop 0 [.k (.int .i64 0), .k (.bool false)] (q (.lenStr) [0]
(q (.bin .lss) [1, 3]
(.ite (.v 4) (q (.idxStr) [0, 1]
(q (.bin .lss) [5, .k (.int .u8 32)]
(qf (.mv) [0] 6
(qf (.mv) [1] 6
(qf (.idxStr) [7, 8] 6
(qf (.bin .gtr) [9, .k (.int .u8 126)] 6
(q (.pick) [6, .k (.bool true), 10]
(qf (.mv) [0] 11
(qf (.mv) [1] 11
(qf (.idxStr) [12, 13] 11
(qf (.bin .eql) [14, .k (.int .u8 34)] 11
(q (.pick) [11, .k (.bool true), 15]
(.ite (.v 16) (.ret [.k (.bool false)])
(q (.bin .add) [1, .k (.int .i64 1)]
(.next 0 [17, 2])))))))))))))))
(q (.lenStr) [0]
(q (.bin .leq) [5, .k (.int .i64 256)]
(.ret [6])))))))
def H146 : List (Nat × Nat) := []
def T147 : T :=
(.loop 0 [.k (.int .i64 0), .k (.int .i64 0), .k (.bool false)] (q (.lenStr) [1]
(q (.bin .lss) [2, 5]
(.ite (.v 6) (q (.idxStr) [1, 2]
(q (.bin .neq) [7, .k (.int .u8 32)]
(.ite (.v 8) (q (.bin .add) [2, .k (.int .i64 1)]
(.next 0 [9, 3, 4]))
(q (.slcS true true) [1, 3, 2]
(q (.bin .eql) [9, 0]
(qt (.mv) [0] 10
(qt (.bin .neq) [11, .k (.str [])] 10
(q (.pick) [10, 12, .k (.bool false)]
(.ite (.v 13) (.ret [.k (.bool true)])
(q (.bin .add) [2, .k (.int .i64 1)]
(q (.bin .add) [2, .k (.int .i64 1)]
(.next 0 [15, 14, 4]))))))))))))
(.ret [.k (.bool false)])))))
def H147 : List (Nat × Nat) := []
def T160 : T :=
(q (.call 144) [0]
(qt (.mv) [0] 1
(qt (.call 174) [2] 1
(qt (.un .not) [3] 1
(q (.pick) [1, 4, .k (.bool false)]
(.ret [5]))))))
def H160 : List (Nat × Nat) := []
def T161 : T :=
(q (.bin .eql) [0, .k (.int .i64 1)]
(.join 0 1 (.ite (.v 1) (.next 0 [1])
(q (.bin .eql) [0, .k (.int .i64 8)]
(.ite (.v 2) (.next 0 [2])
(q (.bin .eql) [0, .k (.int .i64 9)]
(.next 0 [3])))))
(.ite (.v 2) (.ret [.k (.int .i64 0)])
(q (.bin .eql) [0, .k (.int .i64 2)]
(.ite (.v 3) (.ret [.k (.int .i64 1)])
(q (.bin .eql) [0, .k (.int .i64 3)]
(.ite (.v 4) (.ite (.v 4) (.ret [.k (.int .i64 2)])
(.ret [.k (.int .i64 (-1))]))
(q (.bin .eql) [0, .k (.int .i64 4)]
(.ite (.v 5) (.ite (.v 5) (.ret [.k (.int .i64 2)])
(.ret [.k (.int .i64 (-1))]))
(q (.bin .eql) [0, .k (.int .i64 5)]
(.ite (.v 6) (.ite (.v 6) (.ret [.k (.int .i64 2)])
(.ret [.k (.int .i64 (-1))]))
(q (.bin .eql) [0, .k (.int .i64 6)]
(.ite (.v 7) (.ite (.v 7) (.ret [.k (.int .i64 2)])
(.ret [.k (.int .i64 (-1))]))
(q (.bin .eql) [0, .k (.int .i64 7)]
(.ite (.v 8) (.ret [.k (.int .i64 2)])
(.ret [.k (.int .i64 (-1))]))))))))))))))))
def H161 : List (Nat × Nat) := []
def T162 : T :=
(.p .box [0] none
(q (.fld 0 none) [1]
(q (.bin .eql) [2, .k (.int .i64 2)]
(.join 0 1 (.ite (.v 3) (.next 0 [3])
(q (.bin .eql) [2, .k (.int .i64 3)]
(.ite (.v 4) (.next 0 [4])
(q (.bin .eql) [2, .k (.int .i64 4)]
(.next 0 [5])))))
(.ite (.v 4) (q (.fld 9 none) [1]
(q (.lenSl) [5]
(q (.fld 0 none) [1]
(q (.call 161) [7]
(q (.bin .eql) [6, 8]
(qt (.fld 1 none) [1] 9
(qt (.bin .eql) [10, .k (.int .i64 0)] 9
(q (.pick) [9, 11, .k (.bool false)]
(qt (.fld 2 none) [1] 12
(qt (.bin .eql) [13, .k (.int .i64 0)] 12
(q (.pick) [12, 14, .k (.bool false)]
(qt (.fld 3 none) [1] 15
(qt (.bin .eql) [16, .k (.int .i64 0)] 15
(q (.pick) [15, 17, .k (.bool false)]
(qt (.fld 4 none) [1] 18
(qt (.lenSl) [19] 18
(qt (.bin .eql) [20, .k (.int .i64 0)] 18
(q (.pick) [18, 21, .k (.bool false)]
(qt (.fld 5 (some 4)) [1] 22
(qt (.build [(.int .u64 0), (.int .u64 0), (.int .u64 0), (.int .u64 0)] []) [] 22
(qt (.eqa false [.i .u64, .i .u64, .i .u64, .i .u64]) [23, 24] 22
(q (.pick) [22, 25, .k (.bool false)]
(.ret [26])))))))))))))))))))))))
(q (.bin .eql) [2, .k (.int .i64 8)]
(.ite (.v 5) (q (.fld 9 none) [1]
(q (.lenSl) [6]
(q (.bin .eql) [7, .k (.int .i64 0)]
(qt (.fld 4 none) [1] 8
(qt (.lenSl) [9] 8
(qt (.bin .eql) [10, .k (.int .i64 0)] 8
(q (.pick) [8, 11, .k (.bool false)]
(qt (.fld 5 (some 4)) [1] 12
(qt (.build [(.int .u64 0), (.int .u64 0), (.int .u64 0), (.int .u64 0)] []) [] 12
(qt (.eqa false [.i .u64, .i .u64, .i .u64, .i .u64]) [13, 14] 12
(q (.pick) [12, 15, .k (.bool false)]
(.ret [16]))))))))))))
(q (.bin .eql) [2, .k (.int .i64 9)]
(.ite (.v 6) (q (.fld 9 none) [1]
(q (.lenSl) [7]
(q (.bin .eql) [8, .k (.int .i64 0)]
(qt (.fld 2 none) [1] 9
(qt (.bin .eql) [10, .k (.int .i64 0)] 9
(q (.pick) [9, 11, .k (.bool false)]
(qt (.fld 3 none) [1] 12
(qt (.bin .eql) [13, .k (.int .i64 0)] 12
(q (.pick) [12, 14, .k (.bool false)]
(qt (.fld 4 none) [1] 15
(qt (.lenSl) [16] 15
(qt (.bin .eql) [17, .k (.int .i64 0)] 15
(q (.pick) [15, 18, .k (.bool false)]
(.ret [19]))))))))))))))
(.ret [.k (.bool false)]))))))))))
def H162 : List (Nat × Nat) := [(78, 3), (73, 3), (68, 3), (63, 3), (56, 3), (50, 3), (45, 3), (38, 3), (32, 3), (27, 3), (22, 3), (17, 3), (12, 3), (9, 3), (3, 3), (1, 3)]
def T163 : T :=
(.p .box [0] none
(q (.fld 1 none) [2]
(q (.call 122) [3, 1]
(q (.un .not) [4]
(qf (.fld 3 none) [2] 5
(qf (.mv) [1] 5
(qf (.call 122) [6, 7] 5
(qf (.un .not) [8] 5
(q (.pick) [5, .k (.bool true), 9]
(qf (.fld 2 none) [2] 10
(qf (.call 122) [11, .k (.int .i64 5)] 10
(qf (.un .not) [12] 10
(q (.pick) [10, .k (.bool true), 13]
(.ite (.v 14) (.ret [.k (.int .i64 3)])
(q (.fld 1 none) [2]
(q (.bin .rem) [15, .k (.int .i64 5)]
(q (.fld 3 none) [2]
(q (.bin .rem) [17, .k (.int .i64 5)]
(q (.bin .geq) [16, .k (.int .i64 3)]
(qt (.mv) [18] 19
(qt (.bin .geq) [20, .k (.int .i64 3)] 19
(q (.pick) [19, 21, .k (.bool false)]
(.ite (.v 22) (.ret [.k (.int .i64 0)])
(q (.bin .neq) [16, 18]
(qf (.fld 2 none) [2] 23
(qf (.bin .gtr) [24, .k (.int .i64 1)] 23
(q (.pick) [23, .k (.bool true), 25]
(.ite (.v 26) (.ret [.k (.int .i64 13)])
(.ret [.k (.int .i64 0)])))))))))))))))))))))))))))))
def H163 : List (Nat × Nat) := [(41, 4), (28, 4), (25, 4), (20, 4), (13, 4), (7, 4), (2, 4)]
def T164 : T :=
(.p .box [0] none
(q (.bin .rem) [1, .k (.int .i64 5)]
(q (.bin .eql) [3, .k (.int .i64 0)]
(.ite (.v 4) (q (.fld 4 none) [2]
(q (.lenSl) [5]
(.ret [6])))
(q (.bin .eql) [3, .k (.int .i64 1)]
(.ite (.v 5) (q (.fld 3 none) [2]
(q (.lenSl) [6]
(.ret [7])))
(q (.bin .eql) [3, .k (.int .i64 2)]
(.ite (.v 6) (q (.fld 1 none) [2]
(q (.lenSl) [7]
(.ret [8])))
(.ret [.k (.int .i64 (-1))])))))))))
def H164 : List (Nat × Nat) := [(19, 4), (14, 4), (9, 4), (2, 4)]
def T165 : T :=
(q (.bin .geq) [0, .k (.int .u8 65)]
(qt (.mv) [0] 1
(qt (.bin .leq) [2, .k (.int .u8 90)] 1
(q (.pick) [1, 3, .k (.bool false)]
(qf (.mv) [0] 4
(qf (.bin .geq) [5, .k (.int .u8 97)] 4
(qf (.mv) [6] 4
(qt (.mv) [0] 7
(qt (.bin .leq) [8, .k (.int .u8 122)] 7
(qf (.pick) [7, 9, .k (.bool false)] 4
(q (.pick) [4, .k (.bool true), 10]
(qf (.mv) [0] 11
(qf (.bin .eql) [12, .k (.int .u8 95)] 11
(q (.pick) [11, .k (.bool true), 13]
(.ret [14])))))))))))))))
def H165 : List (Nat × Nat) := []
def T166 : T :=
(q (.bin .geq) [0, .k (.int .u8 48)]
(qt (.mv) [0] 1
(qt (.bin .leq) [2, .k (.int .u8 57)] 1
(q (.pick) [1, 3, .k (.bool false)]
(.ret [4])))))
def H166 : List (Nat × Nat) := []
def T174 : T :=
(q (.call 147) [0, .k (.str [109, 111, 100, 117, 108, 101, 32, 99, 108, 97, 115, 115, 32, 116, 121, 112, 101, 32, 97, 108, 105, 97, 115, 32, 116, 121, 112, 101, 97, 116, 116, 114, 105, 98, 117, 116, 101, 32, 97, 116, 116, 114, 105, 98, 117, 116, 101, 32, 114, 111, 108, 101, 32, 116, 121, 112, 101, 115, 32, 114, 111, 108, 101, 97, 108, 108, 111, 119, 32, 114, 111, 108, 101, 95, 116, 114, 97, 110, 115, 105, 116, 105, 111, 110, 32, 117, 115, 101, 114, 32, 114, 111, 108, 101, 115, 32, 108, 101, 118, 101, 108, 32, 114, 97, 110, 103, 101, 32, 98, 111, 111, 108, 32, 116, 114, 117, 101, 32, 102, 97, 108, 115, 101, 32, 115, 101, 110, 115, 105, 116, 105, 118, 105, 116, 121, 32, 99, 97, 116, 101, 103, 111, 114, 121, 32, 97, 108, 108, 111, 119, 32, 97, 117, 100, 105, 116, 97, 108, 108, 111, 119, 32, 100, 111, 110, 116, 97, 117, 100, 105, 116, 32, 110, 101, 118, 101, 114, 97, 108, 108, 111, 119, 32, 116, 121, 112, 101, 95, 116, 114, 97, 110, 115, 105, 116, 105, 111, 110, 32, 116, 121, 112, 101, 95, 99, 104, 97, 110, 103, 101, 32, 116, 121, 112, 101, 95, 109, 101, 109, 98, 101, 114, 32, 114, 97, 110, 103, 101, 95, 116, 114, 97, 110, 115, 105, 116, 105, 111, 110, 32, 99, 111, 110, 115, 116, 114, 97, 105, 110, 32, 118, 97, 108, 105, 100, 97, 116, 101, 116, 114, 97, 110, 115, 32, 105, 102, 32, 101, 108, 115, 101, 32, 111, 112, 116, 105, 111, 110, 97, 108, 32, 114, 101, 113, 117, 105, 114, 101, 32, 115, 105, 100, 32, 102, 105, 108, 101, 99, 111, 110, 32, 112, 101, 114, 109, 105, 115, 115, 105, 118, 101, 32, 97, 115, 115, 101, 114, 116, 32, 115, 101, 108, 102, 32, 105, 110, 32])]
(.ret [1]))
def H174 : List (Nat × Nat) := []
end Go.Proofs.YthpccimmmfonjaaGreatDoor
namespace Go.Proofs.YthpccimmmfonjaaGreatDoor
set_option linter.unusedVariables false
set_option linter.unusedSimpArgs false
open Go
abbrev CallP := Nat → List DVal → Option DVal
abbrev CallI := Nat → List DVal → Sto → Option (DVal × Sto)
def wantP (x : DVal) (b : Bool) (o : Option DVal) : Option DVal := if x.isB b then o else some .undef
def wantS (x : DVal) (b : Bool) (σ : Sto) (o : Option (DVal × Sto)) : Option (DVal × Sto) := if x.isB b then o else some (.undef, σ)
def callPS (C : CallP) (f : Nat) (xs : List DVal) : Option DVal := (sealVals xs).bind fun ys => (C f ys).map DVal.stale
def callFS (C : CallP) (f : Nat) (σ : Sto) (xs : List DVal) : Option (DVal × Sto) := (sealVals xs).bind fun ys => (C f ys).map (importVal σ)
def callIS (I : CallI) (f : Nat) (σ : Sto) (xs : List DVal) : Option (DVal × Sto) := if xs.all DVal.okVal then I f xs σ else none
class Kt (α : Type) where
  f : α
def bnd (x : Option DVal) [k : Kt (DVal → Option Out)] : Option Out := bndP x k.f
def bns (x : Option (DVal × Sto)) [k : Kt (DVal → Sto → Option Out)] : Option Out := bndS x k.f
def itK (c : DVal) [a : Kt (Option Out)] [b : Kt (Option Out)] : Option Out := iteJ c a.f b.f
def wnP (x : DVal) (b : Bool) [o : Kt (Option DVal)] : Option DVal := wantP x b o.f
def wnS (x : DVal) (b : Bool) (σ : Sto) [o : Kt (Option (DVal × Sto))] : Option (DVal × Sto) := wantS x b σ o.f
def finP (o : Option Out) : Option DVal :=
  (match o with
  | some (.done v σ) => (v.handBack σ).map fun u => (u, emptySto)
  | _ => none).map Prod.fst
def finI (o : Option Out) : Option (DVal × Sto) :=
  match o with
  | some (.done v σ') => some (v, σ')
  | _ => none
@[simp] theorem finP_done (v : DVal) (σ : Sto) : finP (some (.done v σ)) = v.handBack σ := by simp [finP, Function.comp_def]
@[simp] theorem finI_done (v : DVal) (σ : Sto) : finI (some (.done v σ)) = some (v, σ) := rfl
@[simp] theorem bnd_some (v : DVal) (k : Kt (DVal → Option Out)) : @bnd (some v) k = k.f v := rfl
@[simp] theorem bns_some (v : DVal) (σ : Sto) (k : Kt (DVal → Sto → Option Out)) : @bns (some (v, σ)) k = k.f v σ := rfl
noncomputable def iteQ {α : Type} (p : Prop) (a b : α) : α := @ite α p (Classical.propDecidable p) a b
@[simp] theorem iteQ_true {α : Type} (a b : α) : iteQ True a b = a := by simp [iteQ]
@[simp] theorem iteQ_false {α : Type} (a b : α) : iteQ False a b = b := by simp [iteQ]
theorem iteQ_pos {α : Type} {p : Prop} {a b : α} (h : p) : iteQ p a b = a := by simp [iteQ, h]
theorem iteQ_neg {α : Type} {p : Prop} {a b : α} (h : ¬ p) : iteQ p a b = b := by simp [iteQ, h]
@[simp] theorem iteQ_same {α : Type} (p : Prop) (a : α) : iteQ p a a = a := by simp [iteQ]
theorem iteQ_eq {α : Type} (p : Prop) [Decidable p] (a b : α) : iteQ p a b = if p then a else b := by by_cases h : p <;> simp [iteQ, h]
theorem iteQ_apply {α β : Type} (f : α → β) (p : Prop) (a b : α) : f (iteQ p a b) = iteQ p (f a) (f b) := by by_cases h : p <;> simp [iteQ, h]
@[congr] theorem iteQ_congr {α : Type} {p p' n' : Prop} {a a' b b' : α} (hp : p = p') (hn : (¬ p) = n') (ha : p' → a = a') (hb : n' → b = b') : iteQ p a b = iteQ p' a' b' := by
  subst hp
  by_cases h : p
  · rw [iteQ_pos h, iteQ_pos h, ha h]
  · rw [iteQ_neg h, iteQ_neg h, hb (by rw [← hn]; exact h)]
@[simp] theorem itK_bool (c : Bool) (a b : Kt (Option Out)) : @itK (.bool c) a b = iteQ (c = true) a.f b.f := by cases c <;> simp [itK, iteJ]
@[simp] theorem retJ_some (v : DVal) (σ : Sto) : retJ (some v) σ = some (.done v σ) := rfl
@[simp] theorem joinJ_next (l : Nat) (k : List DVal → Sto → Option Out) (vs : List DVal) (σ : Sto) : joinJ l k (some (.next l vs σ)) = k vs σ := by simp [joinJ]
@[simp] theorem joinJ_done (l : Nat) (k : List DVal → Sto → Option Out) (v : DVal) (σ : Sto) : joinJ l k (some (.done v σ)) = some (.done v σ) := rfl
theorem joinJ_other (l i : Nat) (k : List DVal → Sto → Option Out) (vs : List DVal) (σ : Sto) (h : i ≠ l) : joinJ l k (some (.next i vs σ)) = some (.next i vs σ) := by simp [joinJ, h]
theorem iterJ_succ (l : Nat) (f : List DVal → Sto → Option Out) (m : Nat) (vs : List DVal) (σ : Sto) : iterJ l f (m + 1) vs σ = match f vs σ with
    | some (.next i vs' σ') => if i = l then iterJ l f m vs' σ' else some (.next i vs' σ')
    | r => r := rfl
theorem iterJ_next' {l : Nat} {f : List DVal → Sto → Option Out} {m : Nat} {vs vs' : List DVal} {σ σ' : Sto} (h : f vs σ = some (.next l vs' σ')) : iterJ l f (m + 1) vs σ = iterJ l f m vs' σ' := by
  rw [iterJ_succ, h]; simp
theorem iterJ_done {l : Nat} {f : List DVal → Sto → Option Out} {m : Nat} {vs : List DVal} {σ σ' : Sto} {v : DVal} (h : f vs σ = some (.done v σ')) : iterJ l f (m + 1) vs σ = some (.done v σ') := by
  rw [iterJ_succ, h]
theorem iterJ_out {l i : Nat} {f : List DVal → Sto → Option Out} {m : Nat} {vs vs' : List DVal} {σ σ' : Sto} (h : f vs σ = some (.next i vs' σ')) (hi : i ≠ l) : iterJ l f (m + 1) vs σ = some (.next i vs' σ') := by
  rw [iterJ_succ, h]; simp [hi]
noncomputable def gv (p : Prop) (v : DVal) : DVal := iteQ p v .undef
@[simp] theorem gv_true (v : DVal) : gv True v = v := by simp [gv]
@[simp] theorem gv_false (v : DVal) : gv False v = .undef := by simp [gv]
noncomputable def wantQ (p : Prop) (o : Option DVal) : Option DVal := iteQ p o (some .undef)
@[simp] theorem wantQ_true (o : Option DVal) : wantQ True o = o := by simp [wantQ]
@[simp] theorem wantQ_false (o : Option DVal) : wantQ False o = some .undef := by simp [wantQ]
@[simp] theorem wantQ_some (p : Prop) (v : DVal) : wantQ p (some v) = some (gv p v) := by by_cases h : p <;> simp [h]
@[congr] theorem wantQ_congr {p p' : Prop} {o o' : Option DVal} (hp : p = p') (ho : p' → o = o') : wantQ p o = wantQ p' o' := by
  subst hp
  by_cases h : p
  · rw [ho h]
  · simp [h]
@[simp] theorem wnP_t (c : Bool) (o : Kt (Option DVal)) : @wnP (.bool c) true o = wantQ (c = true) o.f := by cases c <;> simp [wnP, wantP, DVal.isB]
@[simp] theorem wnP_f (c : Bool) (o : Kt (Option DVal)) : @wnP (.bool c) false o = wantQ (c = false) o.f := by cases c <;> simp [wnP, wantP, DVal.isB]
@[simp] theorem wnS_t (c : Bool) (σ : Sto) (o : Kt (Option (DVal × Sto))) : @wnS (.bool c) true σ o = iteQ (c = true) o.f (some (.undef, σ)) := by cases c <;> simp [wnS, wantS, DVal.isB]
@[simp] theorem wnS_f (c : Bool) (σ : Sto) (o : Kt (Option (DVal × Sto))) : @wnS (.bool c) false σ o = iteQ (c = false) o.f (some (.undef, σ)) := by cases c <;> simp [wnS, wantS, DVal.isB]
@[simp] theorem wnP_gt (q : Prop) (c : Bool) (o : Kt (Option DVal)) : @wnP (gv q (.bool c)) true o = wantQ (q ∧ c = true) o.f := by
  by_cases h : q <;> cases c <;> simp [h, wnP, wantP, DVal.isB]
@[simp] theorem wnP_gf (q : Prop) (c : Bool) (o : Kt (Option DVal)) : @wnP (gv q (.bool c)) false o = wantQ (q ∧ c = false) o.f := by
  by_cases h : q <;> cases c <;> simp [h, wnP, wantP, DVal.isB]
@[simp] theorem pick_true (a b : DVal) : pickSem [.bool true, a, b] = some a := rfl
@[simp] theorem pick_false (a b : DVal) : pickSem [.bool false, a, b] = some b := rfl
@[simp] theorem pick_and {c a : Bool} {p : Prop} (h : (c = true) ↔ p) : pickSem [.bool c, gv p (.bool a), .bool false] = some (.bool (c && a)) := by
  cases c
  · rfl
  · have : p := h.1 rfl
    simp [this]
@[simp] theorem pick_or {c a : Bool} {p : Prop} (h : (c = false) ↔ p) : pickSem [.bool c, .bool true, gv p (.bool a)] = some (.bool (c || a)) := by
  cases c
  · have : p := h.1 rfl
    simp [this]
  · rfl
@[simp] theorem joinJ_ite (l : Nat) (k : List DVal → Sto → Option Out) (p : Prop) (a b : Option Out) : joinJ l k (iteQ p a b) = iteQ p (joinJ l k a) (joinJ l k b) := iteQ_apply _ _ _ _
@[simp] theorem finP_ite (p : Prop) (a b : Option Out) : finP (iteQ p a b) = iteQ p (finP a) (finP b) := iteQ_apply _ _ _ _
@[simp] theorem finI_ite (p : Prop) (a b : Option Out) : finI (iteQ p a b) = iteQ p (finI a) (finI b) := iteQ_apply _ _ _ _
@[simp] theorem bns_ite (p : Prop) (a b : Option (DVal × Sto)) (k : Kt (DVal → Sto → Option Out)) : @bns (iteQ p a b) k = iteQ p (@bns a k) (@bns b k) := iteQ_apply (fun x => @bns x k) _ _ _
theorem upd_apply' {α : Type} (f : Nat → α) (a b : Nat) (v : α) : upd f a v b = if b = a then v else f b := rfl
@[simp] theorem upd_upd {α : Type} (f : Nat → α) (a : Nat) (v u : α) : upd (upd f a v) a u = upd f a u := by funext b; simp only [upd]; split <;> rfl
attribute [simp] jboxSem.eq_1 jwrSem.eq_1 jrngSem.eq_1 jnxSem.eq_1 resEx.eq_1 resEx.eq_2 POp.sem.eq_1 POp.sem.eq_2 POp.sem.eq_3 POp.sem.eq_4 POp.sem.eq_5 POp.sem.eq_6 POp.sem.eq_7 POp.sem.eq_8 POp.sem.eq_9 POp.sem.eq_10 POp.sem.eq_11 POp.sem.eq_12 POp.sem.eq_13 POp.sem.eq_14 POp.sem.eq_15 POp.sem.eq_16 POp.sem.eq_17 POp.sem.eq_18 POp.sem.eq_19 POp.sem.eq_20 POp.sem.eq_21 POp.sem.eq_22 POp.sem.eq_23 POp.sem.eq_24 POp.sem.eq_25 POp.sem.eq_26 POp.sem.eq_27 POp.sem.eq_28 POp.sem.eq_29 POp.sem.eq_30 POp.sem.eq_31 POp.sem.eq_32 DVal.cells.eq_1 DVal.cells.eq_2 DVal.okCell.eq_1 DVal.okCell.eq_2 DVal.okCell.eq_3 DVal.okCell.eq_4 DVal.okCell.eq_5 DVal.okCell.eq_6 DVal.okCell.eq_7 DVal.okCell.eq_8 readCells.eq_1 readCells.eq_2 writeCells.eq_1 offSem.eq_1 DVal.shift.eq_1 DVal.shift.eq_2 DVal.shift.eq_3 mvSem.eq_1 bin2Sem.eq_1 binSem.eq_1 binSem.eq_2 binSem.eq_3 binSem.eq_4 binInt.eq_1 binInt.eq_2 binInt.eq_3 binInt.eq_4 binInt.eq_5 binInt.eq_6 binInt.eq_7 binInt.eq_8 binInt.eq_9 binInt.eq_10 binInt.eq_11 binInt.eq_12 binInt.eq_13 binInt.eq_14 binInt.eq_15 binStr.eq_1 binStr.eq_2 binStr.eq_3 binStr.eq_4 binStr.eq_5 binStr.eq_6 binStr.eq_7 convSem.eq_1 convSSem.eq_1 eqbSem.eq_1 eqaSem.eq_1 cellsEq.eq_1 cellsEq.eq_2 cellEq.eq_1 cellEq.eq_2 cellEq.eq_3 isnilSem.eq_1 DVal.isNil.eq_1 DVal.isNil.eq_2 DVal.isNil.eq_3 DVal.isNil.eq_4 DVal.isNil.eq_5 DVal.isNil.eq_6 DVal.isNil.eq_7 DVal.isNil.eq_8 DVal.isNil.eq_9 DVal.isNil.eq_10 DVal.isNil.eq_11 DVal.isNil.eq_12 DVal.isNil.eq_13 DVal.isNil.eq_14 unSem.eq_1 unSem.eq_2 unSem.eq_3 unSem.eq_4 unSem.eq_5 DVal.okVal.eq_1 DVal.okVal.eq_2 DVal.handBack.eq_1 DVal.handBack.eq_2 DVal.handBack.eq_3 DVal.sealVal.eq_1 DVal.sealVal.eq_2 DVal.sealCell.eq_1 DVal.sealCell.eq_2 DVal.sealCell.eq_3 DVal.sealCell.eq_4 DVal.sealCell.eq_5 DVal.sealCell.eq_6 DVal.sealCell.eq_7 DVal.sealCell.eq_8 DVal.sealCell.eq_9 DVal.sealCell.eq_10 DVal.sealCell.eq_11 sealVals.eq_1 sealVals.eq_2 sealCells.eq_1 sealCells.eq_2 DVal.stale.eq_1 DVal.stale.eq_2 mxSem.eq_1 mnSem.eq_1 idxSSem.eq_1 idxSSem.eq_2 idxASem.eq_1 idxStrSem.eq_1 fldSem.eq_1 ldESem.eq_1 extSem.eq_1 fillCells.eq_1 fillCells.eq_2 sealElems.eq_1 sealElems.eq_2 slcSSem.eq_1 slcVSem.eq_1 slcVSem.eq_2 slcVSem.eq_3 lenStrSem.eq_1 lenSlSem.eq_1 lenSlSem.eq_2 lenSlSem.eq_3 lenSlSem.eq_4 nilchkSem.eq_1 nilchkSem.eq_2 nilchkSem.eq_3 nilchkSem.eq_4 nilchkSem.eq_5 importVal.eq_1 importVal.eq_2 ldOSem.eq_2 callVSem.eq_1 bounds.eq_1 bounds.eq_2 bounds.eq_3 bounds.eq_4 bounds.eq_5 bounds.eq_6 goI.eq_1 callPS.eq_1 callFS.eq_1 callIS.eq_1 upd_apply' mkISem.eq_1 tyASem.eq_1 tyASem.eq_2 callMSem.eq_1 DVal.plain.eq_1 DVal.plain.eq_2 DVal.plainCell.eq_1 DVal.plainCell.eq_2 DVal.plainCell.eq_3
end Go.Proofs.YthpccimmmfonjaaGreatDoor
