/- What a tree answers, the function that it was made of answers: code with loops and joins. -/
import Derived.Test.YtdnoonnanhnkaaaDoorTreeSound
set_option linter.unusedVariables false
set_option linter.unusedSimpArgs false
namespace Go.Proofs.YtdnoonnanhnkaaaDoor
open Go

/-! What code leaves alone -/

/-- Between two states: slots outside W, contents of roots outside WR and addresses of roots outside WB are as they were. -/
structure Fr (W WR WB : List Nat) (st st' : St) : Prop where
  env : ∀ t, t ∉ W → st'.env t = st.env t
  loc : ∀ r, r ∉ WR → (st'.loc r).2 = (st.loc r).2
  ep : ∀ r, r ∉ WB → (st'.loc r).1 = (st.loc r).1

theorem Fr.refl (W WR WB : List Nat) (st : St) : Fr W WR WB st st := ⟨fun _ _ => rfl, fun _ _ => rfl, fun _ _ => rfl⟩
theorem Fr.trans {W WR WB : List Nat} {a b c : St} (h : Fr W WR WB a b) (h' : Fr W WR WB b c) : Fr W WR WB a c :=
  ⟨fun t ht => (h'.env t ht).trans (h.env t ht), fun r hr => (h'.loc r hr).trans (h.loc r hr), fun r hr => (h'.ep r hr).trans (h.ep r hr)⟩
theorem Fr.wider {W WR WB W' WR' WB' : List Nat} {a b : St} (h : Fr W WR WB a b) (h1 : ∀ x, x ∈ W → x ∈ W') (h2 : ∀ x, x ∈ WR → x ∈ WR') (h3 : ∀ x, x ∈ WB → x ∈ WB') : Fr W' WR' WB' a b :=
  ⟨fun t ht => h.env t fun hm => ht (h1 t hm), fun r hr => h.loc r fun hm => hr (h2 r hm), fun r hr => h.ep r fun hm => hr (h3 r hm)⟩

def frCode (c : ICode) (st st' : St) : Prop := Fr (c.wr IOper.dst) (c.wr IOper.root) (c.wr IOper.boxed) st st'

section
variable {cp : Nat → List DVal → Option DVal} {ci : Nat → List DVal → Sto → Option (DVal × Sto)} {n : Nat}

theorem put_env {st : St} {d : Option Nat} {x : DVal} {t : Nat} (h : d ≠ some t) : (st.put d x).env t = st.env t := by
  cases d with
  | none => rfl
  | some u =>
    have : t ≠ u := fun e => h (by rw [e])
    simp [St.put, upd, this]

theorem op_frame {o : IOper} {st st' : St} (h : stepOp cp ci o st = some st') : (∀ t, o.dst ≠ some t → st'.env t = st.env t) ∧ (∀ r, o.root ≠ some r → (st'.loc r).2 = (st.loc r).2) ∧ (∀ r, o.boxed ≠ some r → (st'.loc r).1 = (st.loc r).1) := by
  have hput : ∀ (st0 : St) (x : DVal), st0.loc = st.loc → st0.env = st.env → st' = st0.put o.dst x → (∀ t, o.dst ≠ some t → st'.env t = st.env t) ∧ (∀ r, o.root ≠ some r → (st'.loc r).2 = (st.loc r).2) ∧ (∀ r, o.boxed ≠ some r → (st'.loc r).1 = (st.loc r).1) := by
    rintro st0 x h1 h2 rfl
    exact ⟨fun t ht => by rw [put_env ht, h2], fun r _ => by rw [put_loc, h1], fun r _ => by rw [put_loc, h1]⟩
  have hexec : execOp' cp ci o.dst o.op o.xs st = some st' → (∀ t, o.dst ≠ some t → st'.env t = st.env t) ∧ (∀ r, o.root ≠ some r → (st'.loc r).2 = (st.loc r).2) ∧ (∀ r, o.boxed ≠ some r → (st'.loc r).1 = (st.loc r).1) := by
    clear h
    intro h
    obtain ⟨dst, op, xs, g⟩ := o
    simp only at h hput
    unfold execOp' at h
    split at h
    · simp only [Option.map_eq_some_iff] at h
      obtain ⟨x, -, rfl⟩ := h
      exact hput st x rfl rfl rfl
    · simp only [Option.map_eq_some_iff] at h
      obtain ⟨x, -, rfl⟩ := h
      exact hput st x rfl rfl rfl
    · rename_i r q
      simp only [Option.map_eq_some_iff] at h
      obtain ⟨x, hx, rfl⟩ := h
      refine ⟨fun t ht => put_env (st := { st with loc := upd st.loc r x.2 }) ht, fun p hp => ?_, fun p hp => ?_⟩
      · have : p ≠ r := fun e => hp (by simp [IOper.root, e])
        rw [put_loc]; simp [upd, this]
      · by_cases e : p = r
        · subst e
          rw [put_loc]
          simp only [upd, if_true]
          cases q with
          | box => simp [IOper.boxed] at hp
          | alloc z => simp [IOper.boxed] at hp
          | rng => simp [IOper.boxed] at hp
          | st k =>
            simp only [LOp.sem] at hx
            unfold stLSem at hx
            split at hx
            · split at hx
              · split at hx
                · simp only [Option.map_eq_some_iff] at hx
                  obtain ⟨_, -, rfl⟩ := hx
                  rfl
                · cases hx
              · cases hx
            · cases hx
          | next =>
            simp only [LOp.sem] at hx
            unfold nextSem at hx
            split at hx
            · split at hx
              · split at hx
                · split at hx <;> (simp only [Option.some.injEq] at hx; rw [← hx])
                · cases hx
              · cases hx
            · cases hx
        · rw [put_loc]; simp [upd, e]
    · simp only [Option.map_eq_some_iff] at h
      obtain ⟨x, -, rfl⟩ := h
      exact hput { st with sto := x.2 } x.1 rfl rfl rfl
  unfold stepOp at h
  split at h
  · exact hexec h
  · split at h
    · exact hexec h
    · simp only [Option.some.injEq] at h
      exact hput st .undef rfl rfl h.symm

theorem ops_frame : ∀ {ops : List IOper} {st st' : St}, runOps cp ci ops st = some st' → Fr (ops.filterMap IOper.dst) (ops.filterMap IOper.root) (ops.filterMap IOper.boxed) st st'
  | [], st, st', h => by simp only [runOps, Option.some.injEq] at h; subst h; exact Fr.refl ..
  | o :: os, st, st', h => by
    simp only [runOps, Option.bind_eq_some_iff] at h
    obtain ⟨st1, h1, h2⟩ := h
    obtain ⟨a1, a2, a3⟩ := op_frame h1
    have b := ops_frame h2
    have sub : ∀ (f : IOper → Option Nat) x, x ∈ os.filterMap f → x ∈ (o :: os).filterMap f := fun f x hx => by
      simp only [List.mem_filterMap] at hx ⊢
      obtain ⟨y, h1, h2⟩ := hx
      exact ⟨y, List.mem_cons_of_mem _ h1, h2⟩
    have hd : ∀ (f : IOper → Option Nat) x, x ∉ (o :: os).filterMap f → f o ≠ some x := fun f x hx e => hx (by simp only [List.mem_filterMap]; exact ⟨o, List.mem_cons_self, e⟩)
    exact Fr.trans ⟨fun t ht => a1 t (hd _ t ht), fun r hr => a2 r (hd _ r hr), fun r hr => a3 r (hd _ r hr)⟩ (b.wider (sub _) (sub _) (sub _))

theorem code_frame : ∀ (c : ICode) {st st' : St} {e : Exit}, runCode cp ci n c st = some (e, st') → frCode c st st'
  | .skip, st, st', e, h => by simp only [runCode, Option.some.injEq, Prod.mk.injEq] at h; obtain ⟨-, rfl⟩ := h; exact Fr.refl ..
  | .ret, st, st', e, h => by simp only [runCode, Option.some.injEq, Prod.mk.injEq] at h; obtain ⟨-, rfl⟩ := h; exact Fr.refl ..
  | .exit i, st, st', e, h => by simp only [runCode, Option.some.injEq, Prod.mk.injEq] at h; obtain ⟨-, rfl⟩ := h; exact Fr.refl ..
  | .reg ops, st, st', e, h => by
    simp only [runCode, Option.map_eq_some_iff, Prod.mk.injEq] at h
    obtain ⟨s, h1, -, rfl⟩ := h
    exact ops_frame h1
  | .seq a b, st, st', e, h => by
    have wl : ∀ {x y : St}, frCode a x y → frCode (.seq a b) x y := fun h => h.wider (fun x hx => by simp [ICode.wr, hx]) (fun x hx => by simp [ICode.wr, hx]) (fun x hx => by simp [ICode.wr, hx])
    have wr : ∀ {x y : St}, frCode b x y → frCode (.seq a b) x y := fun h => h.wider (fun x hx => by simp [ICode.wr, hx]) (fun x hx => by simp [ICode.wr, hx]) (fun x hx => by simp [ICode.wr, hx])
    simp only [runCode] at h
    split at h
    · rename_i s hs
      exact (wl (code_frame a hs)).trans (wr (code_frame b h))
    · exact wl (code_frame a h)
  | .cond c a b, st, st', e, h => by
    simp only [runCode] at h
    split at h
    · exact (code_frame a h).wider (fun x hx => by simp [ICode.wr, hx]) (fun x hx => by simp [ICode.wr, hx]) (fun x hx => by simp [ICode.wr, hx])
    · exact (code_frame b h).wider (fun x hx => by simp [ICode.wr, hx]) (fun x hx => by simp [ICode.wr, hx]) (fun x hx => by simp [ICode.wr, hx])
    · cases h
  | .block id a, st, st', e, h => by
    simp only [runCode] at h
    split at h
    · rename_i i s hs
      have := code_frame a hs
      split at h <;> (simp only [Option.some.injEq, Prod.mk.injEq] at h; obtain ⟨-, rfl⟩ := h; exact this)
    · exact code_frame a h
  | .loop a, st, st', e, h => by
    simp only [runCode] at h
    have aux : ∀ m st, iter (runCode cp ci n a) m st = some (e, st') → frCode a st st' := by
      intro m
      induction m with
      | zero => intro st h; simp [iter] at h
      | succ m ih =>
        intro st h
        simp only [iter] at h
        split at h
        · rename_i s hs
          exact (code_frame a hs).trans (ih s h)
        · exact code_frame a h
    exact aux n st h

/-! The head of a loop, and what stands behind a join -/

theorem mem_slotVars {w : List Nat} {t : Nat} : ∀ {l : List (Nat × SV)}, t ∈ slotVars w l → t ∈ w
  | [], h => by simp [slotVars] at h
  | (u, sv) :: ps, h => by
    unfold slotVars at h
    split at h
    · rename_i e; cases e
    · rename_i u' e ps' eq
      simp only [List.cons.injEq, Prod.mk.injEq] at eq
      obtain ⟨⟨rfl, rfl⟩, rfl⟩ := eq
      split at h
      · rename_i hc
        simp only [List.mem_cons] at h
        rcases h with rfl | h
        · simpa using hc
        · exact mem_slotVars h
      · exact mem_slotVars h
    · rename_i eq; simp only [List.cons.injEq] at eq; obtain ⟨rfl, rfl⟩ := eq; exact mem_slotVars h

theorem varsEnv_ok {ρ : List DVal} {L : Nat → Nat × DVal} {env : Nat → DVal} {vs us : List DVal} : ∀ {ts : List Nat} {b : Nat}, ρ.length + vs.length = b → ∀ t sv, (t, sv) ∈ varsEnv b ts → SVok (ρ ++ (vs ++ (ts.map env ++ us))) L (env t) sv
  | [], b, hb, t, sv, hm => by simp [varsEnv] at hm
  | d :: ds, b, hb, t, sv, hm => by
    simp only [varsEnv, List.mem_cons, Prod.mk.injEq] at hm
    rcases hm with ⟨rfl, rfl⟩ | hm
    · refine ⟨by simp [Ex.ok, Nat.blt_eq]; omega, ?_⟩
      subst hb
      simp [Ex.val, List.getD_eq_getElem?_getD]
    · have := varsEnv_ok (ρ := ρ) (vs := vs ++ [env d]) (us := us) (ts := ds) (b := b + 1) (L := L) (env := env) (by simp; omega) t sv hm
      simpa using this

theorem varsLoc_ok {ρ : List DVal} {f : Nat → DVal} {vs : List DVal} : ∀ {rs : List Nat} {b : Nat}, ρ.length + vs.length = b → ∀ r e g, (r, (e, g)) ∈ varsLoc b rs → g = none ∧ e.ok (ρ ++ (vs ++ rs.map f)).length = true ∧ f r = e.val (ρ ++ (vs ++ rs.map f))
  | [], b, hb, r, e, g, hm => by simp [varsLoc] at hm
  | d :: ds, b, hb, r, e, g, hm => by
    simp only [varsLoc, List.mem_cons, Prod.mk.injEq] at hm
    rcases hm with ⟨rfl, rfl, rfl⟩ | hm
    · refine ⟨rfl, by simp [Ex.ok, Nat.blt_eq]; omega, ?_⟩
      subst hb
      simp [Ex.val, List.getD_eq_getElem?_getD]
    · have := varsLoc_ok (ρ := ρ) (f := f) (vs := vs ++ [f d]) (rs := ds) (b := b + 1) (by simp; omega) r e g hm
      simpa using this

def valsOf (a : ICode) (s : SS) (st : St) : List DVal :=
  (slotVars (a.wr IOper.dst) s.env).map st.env ++ (rootVars (a.wr IOper.root) s.loc).map fun r => (st.loc r).2

theorem valsOf_length {a : ICode} {s : SS} {st : St} : (valsOf a s st).length = numVals a s := by simp [valsOf, numVals]

theorem padFrom_drop {vs : List DVal} : ∀ {m i : Nat}, i + m = vs.length → padFrom vs i m = vs.drop i
  | 0, i, h => by rw [List.drop_eq_nil_of_le (by omega)]; rfl
  | m + 1, i, h => by
    rw [padFrom, padFrom_drop (by omega), List.drop_eq_getElem_cons (by omega : i < vs.length)]
    rw [List.getD_eq_getElem?_getD, List.getElem?_eq_getElem (by omega : i < vs.length)]
    rfl

@[simp] theorem padFrom_vals {a : ICode} {s : SS} {st : St} : padFrom (valsOf a s st) 0 (numVals a s) = valsOf a s st := by
  rw [padFrom_drop (by rw [valsOf_length]; omega)]; rfl

def PtrsOk (a : ICode) (s : SS) (st : St) : Prop := ∀ t r off, (t, (r, off)) ∈ ptrVars (a.wr IOper.dst) s.env → st.env t = .loc r (st.loc r).1 off

theorem head_corr {a : ICode} {s : SS} {ρ : List DVal} {st0 st : St} (h : Corr s ρ st0) (hf : frCode a st0 st) (hp : PtrsOk a s st) (dep : Nat) : Corr (headOf a s dep) (ρ ++ valsOf a s st) st := by
  refine ⟨?_, fun t sv hm => ?_, fun r e g hm => ?_⟩
  · simp [headOf, valsOf, h.len]
  · simp only [headOf, List.mem_append, List.mem_map] at hm
    rcases hm with (hm | ⟨⟨t', r, off⟩, hm, he⟩) | hm
    · have := varsEnv_ok (ρ := ρ) (vs := []) (us := (rootVars (a.wr IOper.root) s.loc).map fun r => (st.loc r).2) (L := st.loc) (env := st.env) (by simp [h.len]) t sv hm
      simpa [valsOf] using this
    · simp only [Prod.mk.injEq] at he
      obtain ⟨rfl, rfl⟩ := he
      exact ⟨trivial, fun _ => hp _ _ _ hm⟩
    · simp only [keepEnv, List.mem_filter, Bool.and_eq_true, Bool.not_eq_true', List.contains_eq_mem, decide_eq_false_iff_not] at hm
      obtain ⟨hm, hw, hb⟩ := hm
      have := (h.env t sv hm).append (vs := valsOf a s st)
      rw [hf.env t hw]
      cases sv with
      | ex e => exact this
      | ptr r off g =>
        simp only at hb
        refine ⟨this.1, fun hg => ?_⟩
        rw [hf.ep r (by simpa using hb)]
        exact this.2 hg
  · simp only [headOf, List.mem_append] at hm
    rcases hm with hm | hm
    · have := varsLoc_ok (ρ := ρ) (f := fun r => (st.loc r).2) (vs := (slotVars (a.wr IOper.dst) s.env).map st.env) (by simp [h.len]) r e g hm
      obtain ⟨rfl, h1, h2⟩ := this
      exact ⟨h1, trivial, fun _ => h2⟩
    · simp only [keepLoc, List.mem_filter, Bool.not_eq_true', List.contains_eq_mem, decide_eq_false_iff_not] at hm
      obtain ⟨h1, h2, h3⟩ := h.loc r e g hm.1
      refine ⟨(ok_append h1).1, (gok_append h2).1, fun hg => ?_⟩
      rw [(gok_append h2).2] at hg
      rw [hf.loc r hm.2, (ok_append h1).2]
      exact h3 hg

theorem getSlots_ok {s : SS} {ρ : List DVal} {st : St} (h : Corr s ρ st) : ∀ {ts : List Nat} {es : List Ex}, getSlots s ts = some es → es.map (Ex.val ρ) = ts.map st.env
  | [], es, hs => by simp only [getSlots, Option.some.injEq] at hs; subst hs; rfl
  | t :: ts, es, hs => by
    simp only [getSlots] at hs
    split at hs
    · rename_i e es' h1 h2
      simp only [Option.some.injEq] at hs
      subst hs
      simp only [List.map_cons, getSlots_ok h h2, ← (h.ex h1).2, Opd.val]
    · cases hs

theorem getRoots_ok {s : SS} {ρ : List DVal} {st : St} (h : Corr s ρ st) : ∀ {ts : List Nat} {es : List Ex}, getRoots s ts = some es → es.map (Ex.val ρ) = ts.map fun r => (st.loc r).2
  | [], es, hs => by simp only [getRoots, Option.some.injEq] at hs; subst hs; rfl
  | t :: ts, es, hs => by
    simp only [getRoots] at hs
    split at hs
    · rename_i e es' h1 h2
      simp only [Option.some.injEq] at hs
      subst hs
      simp only [List.map_cons, getRoots_ok h h2, (h.cont h1).2 rfl]
    · cases hs

theorem samePtrs_ok {s : SS} {ρ : List DVal} {st : St} (h : Corr s ρ st) : ∀ {ps : List (Nat × (Nat × Nat))}, samePtrs s ps = true → ∀ t r off, (t, (r, off)) ∈ ps → st.env t = .loc r (st.loc r).1 off
  | [], _, t, r, off, hm => by simp at hm
  | (u, (q, o)) :: ps, hs, t, r, off, hm => by
    simp only [samePtrs, Bool.and_eq_true] at hs
    simp only [List.mem_cons, Prod.mk.injEq] at hm
    rcases hm with ⟨rfl, rfl, rfl⟩ | hm
    · have h1 := hs.1
      split at h1
      · rename_i q' o' hp
        simp only [Bool.and_eq_true] at h1
        have e1 := Nat.eq_of_beq_eq_true h1.1
        have e2 := Nat.eq_of_beq_eq_true h1.2
        subst e1 e2
        exact h.ptr hp rfl
      · cases h1
    · exact samePtrs_ok h hs.2 t r off hm

theorem nowVals_ok {a : ICode} {s0 s : SS} {ρ : List DVal} {st : St} {es : List Ex} (h : Corr s ρ st) (hs : nowVals a s0 s = some es) : es.map (Ex.val ρ) = valsOf a s0 st ∧ PtrsOk a s0 st := by
  simp only [nowVals] at hs
  split at hs
  · rename_i e1 e2 h1 h2
    split at hs
    · rename_i h3
      simp only [Option.some.injEq] at hs
      subst hs
      exact ⟨by rw [List.map_append, getSlots_ok h h1, getRoots_ok h h2]; rfl, samePtrs_ok h h3⟩
    · cases hs
  · cases hs

/-! No 'next' gets out -/

theorem iterJ_next {l i : Nat} {f : List DVal → Sto → Option Out} {vs' : List DVal} {σ' : Sto} : ∀ {m : Nat} {vs : List DVal} {σ : Sto}, iterJ l f m vs σ = some (.next i vs' σ') → i ≠ l ∧ ∃ us τ, f us τ = some (.next i vs' σ')
  | 0, vs, σ, h => by simp [iterJ] at h
  | m + 1, vs, σ, h => by
    simp only [iterJ] at h
    split at h
    · rename_i j ws τ e
      split at h
      · exact iterJ_next h
      · rename_i hne
        simp only [Option.some.injEq, Out.next.injEq] at h
        obtain ⟨rfl, rfl, rfl⟩ := h
        exact ⟨hne, _, _, e⟩
    · rename_i hne
      exact absurd h (hne i vs' σ')

theorem esc_next {l i : Nat} {vs : List DVal} {τ : Sto} : ∀ (t : T) (ρ : List DVal) (σ : Sto), t.esc l = true → den cp ci n t ρ σ = some (.next i vs τ) → i ≠ l
  | .ret xs, ρ, σ, he, h => by
    simp only [den, retJ] at h
    split at h <;> simp at h
  | .p o xs g k, ρ, σ, he, h => by
    simp only [den, bndP] at h
    split at h
    · exact esc_next k _ _ he h
    · cases h
  | .s o xs g k, ρ, σ, he, h => by
    simp only [den, bndS] at h
    split at h
    · exact esc_next k _ _ he h
    · cases h
  | .ite c a b, ρ, σ, he, h => by
    simp only [T.esc, Bool.and_eq_true] at he
    simp only [den, iteJ] at h
    split at h
    · exact esc_next a _ _ he.1 h
    · exact esc_next b _ _ he.2 h
    · cases h
  | .loop j init body, ρ, σ, he, h => by
    simp only [T.esc, Bool.or_eq_true, beq_iff_eq] at he
    simp only [den] at h
    obtain ⟨h1, us, τ', h2⟩ := iterJ_next h
    rcases he with rfl | he
    · exact h1
    · exact esc_next body _ _ he h2
  | .join j m body k, ρ, σ, he, h => by
    simp only [T.esc, Bool.and_eq_true, Bool.or_eq_true, beq_iff_eq] at he
    simp only [den, joinJ] at h
    split at h
    · rename_i i' vs' σ' e
      split at h
      · exact esc_next k _ _ he.2 h
      · rename_i hne
        simp only [Option.some.injEq, Out.next.injEq] at h
        obtain ⟨rfl, rfl, rfl⟩ := h
        rcases he.1 with rfl | he
        · exact hne
        · exact esc_next body _ _ he e
    · exact absurd h (by rename_i hne; exact hne _ _ _)
  | .next j xs, ρ, σ, he, h => by
    simp only [T.esc, bne_iff_ne, ne_eq] at he
    simp only [den, Option.some.injEq, Out.next.injEq] at h
    rw [← h.1]
    exact he

theorem noEsc_some {l : Nat} {t t' : T} (h : noEsc l t = some t') : t' = t ∧ t.esc l = true := by
  unfold noEsc at h
  split at h
  · rename_i he; simp only [Option.some.injEq] at h; exact ⟨h.symm, he⟩
  · cases h

/-- Where code leads. -/
def Leads (cp : Nat → List DVal → Option DVal) (ci : Nat → List DVal → Sto → Option (DVal × Sto)) (n : Nat) (k : Exit → SS → Option T) (out : Out) (e : Exit) (st' : St) : Prop :=
  ∃ s' t' ρ', k e s' = some t' ∧ Corr s' ρ' st' ∧ den cp ci n t' ρ' st'.sto = some out

/-- An end within a loop or a join: round again, or out of it. -/
theorem joinAt_leads {a : ICode} {s : SS} {k : Exit → SS → Option T} {out : Out} {e : Exit} {st' : St} (h : Leads cp ci n (joinAt a s k) out e st') :
    (e = .normal ∧ out = .next s.dep (valsOf a s st') st'.sto ∧ PtrsOk a s st') ∨ (e ≠ .normal ∧ (∀ vs τ, out ≠ .next s.dep vs τ) ∧ Leads cp ci n k out e st') := by
  obtain ⟨s', t', ρ', h1, h2, h3⟩ := h
  have other : e ≠ .normal → (k e s').bind (noEsc s.dep) = some t' → (e = .normal ∧ out = .next s.dep (valsOf a s st') st'.sto ∧ PtrsOk a s st') ∨ (e ≠ .normal ∧ (∀ vs τ, out ≠ .next s.dep vs τ) ∧ Leads cp ci n k out e st') := by
    intro hne h1
    simp only [Option.bind_eq_some_iff] at h1
    obtain ⟨t, ht, hn⟩ := h1
    obtain ⟨rfl, hesc⟩ := noEsc_some hn
    refine .inr ⟨hne, fun vs τ e => ?_, s', t', ρ', ht, h2, h3⟩
    rw [e] at h3
    exact esc_next _ _ _ hesc h3 rfl
  unfold joinAt at h1
  split at h1
  · simp only [Option.map_eq_some_iff] at h1
    obtain ⟨es, he, rfl⟩ := h1
    simp only [den, Option.some.injEq] at h3
    obtain ⟨a1, a2⟩ := nowVals_ok h2 he
    rw [a1] at h3
    exact .inl ⟨rfl, h3.symm, a2⟩
  · rename_i hne
    exact other (fun e => hne e) h1

theorem symb_sound : ∀ (c : ICode) (rs : Nat) (s : SS) (k : Exit → SS → Option T) (t : T), symb c rs s k = some t → ∀ (ρ : List DVal) (st : St) (out : Out), Corr s ρ st → den cp ci n t ρ st.sto = some out →
    ∃ e st', runCode cp ci n c st = some (e, st') ∧ Leads cp ci n k out e st'
  | .skip, rs, s, k, t, hs, ρ, st, out, h, hd => ⟨.normal, st, rfl, s, t, ρ, hs, h, hd⟩
  | .ret, rs, s, k, t, hs, ρ, st, out, h, hd => ⟨.ret, st, rfl, s, t, ρ, hs, h, hd⟩
  | .exit i, rs, s, k, t, hs, ρ, st, out, h, hd => ⟨.exit i, st, rfl, s, t, ρ, hs, h, hd⟩
  | .reg ops, rs, s, k, t, hs, ρ, st, out, h, hd => by
    simp only [symb] at hs
    split at hs
    · rename_i is s' h1
      simp only [Option.map_eq_some_iff] at hs
      obtain ⟨t', hk, rfl⟩ := hs
      rw [den_insTree] at hd
      simp only [Option.bind_eq_some_iff] at hd
      obtain ⟨⟨ρ', σ'⟩, hr, hd⟩ := hd
      obtain ⟨st', a1, rfl, a3⟩ := symbOps_sound h1 h hr
      exact ⟨.normal, st', by simp only [runCode, a1, Option.map_some], s', t', ρ', hk, a3, hd⟩
    · cases hs
  | .seq a b, rs, s, k, t, hs, ρ, st, out, h, hd => by
    simp only [symb] at hs
    obtain ⟨e, st1, h1, s1, t1, ρ1, h2, h3, h4⟩ := symb_sound a _ _ _ _ hs ρ st out h hd
    simp only at h2
    split at h2
    · obtain ⟨e2, st2, g1, g2⟩ := symb_sound b _ _ _ _ h2 ρ1 st1 out h3 h4
      exact ⟨e2, st2, by simp only [runCode, h1, g1], g2⟩
    · rename_i hne
      refine ⟨e, st1, ?_, s1, t1, ρ1, h2, h3, h4⟩
      simp only [runCode, h1]
      cases e <;> first | exact absurd rfl hne | rfl
  | .cond c a b, rs, s, k, t, hs, ρ, st, out, h, hd => by
    simp only [symb] at hs
    split at hs
    · rename_i e he
      have hc := (h.ex he).2
      split at hs
      · split at hs
        · rename_i ta tb tk h1 h2 h3
          simp only [Option.some.injEq] at hs
          subst hs
          simp only [den, joinJ] at hd
          have key : ∀ (x : ICode) (tx : T), (∀ (ρ : List DVal) (st : St) (out : Out), Corr { s with dep := s.dep + 1 } ρ st → den cp ci n tx ρ st.sto = some out → ∃ e st', runCode cp ci n x st = some (e, st') ∧ Leads cp ci n (joinAt (.cond c a b) s k) out e st') → runCode cp ci n (.cond c a b) st = runCode cp ci n x st →
              ∀ o, den cp ci n tx ρ st.sto = some o → (match some o with | some (.next i vs' σ') => if i = s.dep then den cp ci n tk (ρ ++ padFrom vs' 0 (numVals (.cond c a b) s)) σ' else some (.next i vs' σ') | r => r) = some out → ∃ e st', runCode cp ci n (.cond c a b) st = some (e, st') ∧ Leads cp ci n k out e st' := by
            intro x tx hx hrun o ho hd
            obtain ⟨e1, st1, g1, g2⟩ := hx ρ st o (h.dep _) ho
            rw [← hrun] at g1
            rcases joinAt_leads g2 with ⟨rfl, rfl, g3⟩ | ⟨g3, g4, g5⟩
            · simp only [if_true, padFrom_vals] at hd
              exact ⟨.normal, st1, g1, _, tk, _, h3, head_corr h (code_frame _ g1) g3 _, hd⟩
            · refine ⟨e1, st1, g1, ?_⟩
              cases o with
              | done v σ => simp only [Option.some.injEq] at hd; rw [← hd]; exact g5
              | next i vs τ =>
                have : i ≠ s.dep := fun e => g4 vs τ (by rw [e])
                simp only [this, if_false, Option.some.injEq] at hd
                rw [← hd]; exact g5
          simp only [iteJ] at hd
          rw [← hc] at hd
          split at hd
          all_goals rename_i heq
          · split at heq
            · rename_i hv
              exact key a ta (symb_sound a _ _ _ _ h1) (by simp only [runCode, hv]) _ heq (by simpa using hd)
            · rename_i hv
              exact key b tb (symb_sound b _ _ _ _ h2) (by simp only [runCode, hv]) _ heq (by simpa using hd)
            · cases heq
          · split at hd
            · rename_i hv
              exact key a ta (symb_sound a _ _ _ _ h1) (by simp only [runCode, hv]) out hd (by
                cases out with
                | done v σ => rfl
                | next i vs τ => exact absurd (by simp only [hv]; exact hd) (heq i vs τ))
            · rename_i hv
              exact key b tb (symb_sound b _ _ _ _ h2) (by simp only [runCode, hv]) out hd (by
                cases out with
                | done v σ => rfl
                | next i vs τ => exact absurd (by simp only [hv]; exact hd) (heq i vs τ))
            · cases hd
        · cases hs
      · split at hs
        · rename_i ta tb h1 h2
          simp only [Option.some.injEq] at hs
          subst hs
          simp only [den, iteJ] at hd
          rw [← hc] at hd
          split at hd
          · rename_i hv
            obtain ⟨e1, st1, g1, g2⟩ := symb_sound a _ _ _ _ h1 ρ st out h hd
            exact ⟨e1, st1, by simp only [runCode, hv, g1], g2⟩
          · rename_i hv
            obtain ⟨e1, st1, g1, g2⟩ := symb_sound b _ _ _ _ h2 ρ st out h hd
            exact ⟨e1, st1, by simp only [runCode, hv, g1], g2⟩
          · cases hd
        · cases hs
    · cases hs
  | .block id a, rs, s, k, t, hs, ρ, st, out, h, hd => by
    -- an end of the body is an end of the block
    have conv : ∀ (k0 : Exit → SS → Option T) (o : Out) (e1 : Exit) (st1 : St), runCode cp ci n a st = some (e1, st1) → Leads cp ci n (fun e s' => match e with | .exit i => if i = id then k0 .normal s' else k0 (.exit i) s' | e => k0 e s') o e1 st1 →
        ∃ e st', runCode cp ci n (.block id a) st = some (e, st') ∧ Leads cp ci n k0 o e st' := by
      intro k0 o e1 st1 g1 g2
      obtain ⟨s', t', ρ', g2, g3, g4⟩ := g2
      simp only at g2
      split at g2
      · rename_i i
        split at g2
        · rename_i hi
          exact ⟨.normal, st1, by simp only [runCode, g1, hi, if_true], s', t', ρ', g2, g3, g4⟩
        · rename_i hi
          exact ⟨.exit i, st1, by simp only [runCode, g1, hi, if_false], s', t', ρ', g2, g3, g4⟩
      · rename_i hne
        refine ⟨e1, st1, ?_, s', t', ρ', g2, g3, g4⟩
        simp only [runCode, g1]
        try (cases e1 <;> first | exact absurd rfl (hne _) | rfl)
    simp only [symb] at hs
    split at hs
    · split at hs
      · rename_i ta tk h1 h2
        simp only [Option.some.injEq] at hs
        subst hs
        simp only [den, joinJ] at hd
        have key : ∀ o, den cp ci n ta ρ st.sto = some o → (match some o with | some (.next i vs' σ') => if i = s.dep then den cp ci n tk (ρ ++ padFrom vs' 0 (numVals (.block id a) s)) σ' else some (.next i vs' σ') | r => r) = some out → ∃ e st', runCode cp ci n (.block id a) st = some (e, st') ∧ Leads cp ci n k out e st' := by
          intro o ho hd
          obtain ⟨e1, st1, g1, g2⟩ := symb_sound a _ _ _ _ h1 ρ st o (h.dep _) ho
          obtain ⟨e1, st1, g1, g2⟩ := conv _ o e1 st1 g1 g2
          rcases joinAt_leads g2 with ⟨rfl, rfl, g3⟩ | ⟨g3, g4, g5⟩
          · simp only [if_true, padFrom_vals] at hd
            exact ⟨.normal, st1, g1, _, tk, _, h2, head_corr h (code_frame _ g1) g3 _, hd⟩
          · refine ⟨e1, st1, g1, ?_⟩
            cases o with
            | done v σ => simp only [Option.some.injEq] at hd; rw [← hd]; exact g5
            | next i vs τ =>
              have : i ≠ s.dep := fun e => g4 vs τ (by rw [e])
              simp only [this, if_false, Option.some.injEq] at hd
              rw [← hd]; exact g5
        split at hd
        · rename_i heq
          exact key _ heq (by simpa using hd)
        · rename_i heq
          exact key out hd (by
            cases out with
            | done v σ => rfl
            | next i vs τ => exact absurd hd (heq i vs τ))
      · cases hs
    · obtain ⟨e1, st1, g1, g2⟩ := symb_sound a _ _ _ _ hs ρ st out h hd
      exact conv k out e1 st1 g1 g2
  | .loop a, rs, s, k, t, hs, ρ, st, out, h, hd => by
    simp only [symb] at hs
    split at hs
    · rename_i init hinit
      simp only [Option.map_eq_some_iff] at hs
      obtain ⟨body, hb, rfl⟩ := hs
      obtain ⟨i1, i2⟩ := nowVals_ok h hinit
      simp only [den] at hd
      have hlen : init.length = numVals a s := by rw [← valsOf_length (a := a) (s := s) (st := st), ← i1, List.length_map]
      rw [i1, hlen] at hd
      have aux : ∀ m st1, frCode a st st1 → PtrsOk a s st1 → iterJ s.dep (fun vs σ => den cp ci n body (ρ ++ padFrom vs 0 (numVals a s)) σ) m (valsOf a s st1) st1.sto = some out →
          ∃ e st', iter (runCode cp ci n a) m st1 = some (e, st') ∧ Leads cp ci n k out e st' := by
        intro m
        induction m with
        | zero => intro st1 _ _ hd; simp [iterJ] at hd
        | succ m ih =>
          intro st1 hf hp hd
          simp only [iterJ, padFrom_vals] at hd
          have hcorr := head_corr h hf hp (s.dep + 1)
          cases ho : den cp ci n body (ρ ++ valsOf a s st1) st1.sto with
          | none => rw [ho] at hd; simp at hd
          | some o =>
            rw [ho] at hd
            obtain ⟨e1, st2, g1, g2⟩ := symb_sound a _ _ _ _ hb _ st1 o hcorr ho
            rcases joinAt_leads g2 with ⟨rfl, rfl, g3⟩ | ⟨g3, g4, g5⟩
            · simp only [if_true] at hd
              obtain ⟨e3, st3, q1, q2⟩ := ih st2 (hf.trans (code_frame a g1)) g3 hd
              exact ⟨e3, st3, by simp only [iter, g1, q1], q2⟩
            · refine ⟨e1, st2, ?_, ?_⟩
              · simp only [iter, g1]
                cases e1 <;> first | exact absurd rfl g3 | rfl
              · cases o with
                | done v σ => simp only [Option.some.injEq] at hd; rw [← hd]; exact g5
                | next i vs τ =>
                  have : i ≠ s.dep := fun e => g4 vs τ (by rw [e])
                  simp only [this, if_false, Option.some.injEq] at hd
                  rw [← hd]; exact g5
      obtain ⟨e, st', g1, g2⟩ := aux n st (Fr.refl ..) i2 hd
      exact ⟨e, st', by simp only [runCode, g1], g2⟩
    · cases hs

/-! Functions -/

theorem resTree_sound : ∀ {rs : List IRes} {s : SS} {es : List Ex} {t : T} {ρ : List DVal} {st : St} {out : Out}, resTree rs s es = some t → Corr s ρ st → (∀ e, e ∈ es → e.ok ρ.length = true) → den cp ci n t ρ st.sto = some out →
    ∃ vs d, out = .done d st.sto ∧ resEx (es.map (Ex.val ρ) ++ vs) = some d ∧ (rs.length = vs.length) ∧ ((es.map (Ex.val ρ) ++ vs).all DVal.okVal = true → resVals st rs = some vs)
  | [], s, es, t, ρ, st, out, hs, h, hok, hd => by
    simp only [resTree, Option.some.injEq] at hs
    subst hs
    simp only [den, retJ] at hd
    split at hd
    · rename_i d e
      simp only [Option.some.injEq] at hd
      exact ⟨[], d, hd.symm, by simpa using e, rfl, fun _ => rfl⟩
    · cases hd
  | .t i :: rs, s, es, t, ρ, st, out, hs, h, hok, hd => by
    simp only [resTree, Option.bind_eq_some_iff] at hs
    obtain ⟨e, he, hs⟩ := hs
    obtain ⟨a1, a2⟩ := h.ex he
    obtain ⟨vs, d, g1, g2, g3, g4⟩ := resTree_sound hs h (fun x hx => by
      simp only [List.mem_append, List.mem_singleton] at hx
      rcases hx with hx | rfl
      · exact hok x hx
      · exact a1) hd
    refine ⟨e.val ρ :: vs, d, g1, by simpa using g2, by simp [g3], fun hall => ?_⟩
    have hrest := g4 (by simpa using hall)
    have hv : DVal.okVal (e.val ρ) = true := by simp only [List.all_append, List.all_cons, Bool.and_eq_true] at hall; exact hall.2.1
    simp only [Opd.val] at a2
    simp only [resVals, IRes.val, hrest, a2, hv, if_true]
  | .cell r sz :: rs, s, es, t, ρ, st, out, hs, h, hok, hd => by
    simp only [resTree] at hs
    split at hs
    · rename_i q off c hp hc
      split at hs
      · rename_i hq
        subst hq
        simp only [Option.map_eq_some_iff] at hs
        obtain ⟨t', hs, rfl⟩ := hs
        simp only [den, bndP, guarded] at hd
        split at hd
        · rename_i v hv
          have hp' := h.ptr hp rfl
          obtain ⟨hcok, hc'⟩ := h.cont hc
          have hc' := hc' rfl
          have hmap : es.map (Ex.val (ρ ++ [v])) = es.map (Ex.val ρ) := List.map_congr_left fun x hx => (ok_append (hok x hx)).2
          obtain ⟨vs, d, g1, g2, g3, g4⟩ := resTree_sound (es := es ++ [.v s.nv]) hs (h.more (vs := [v]) rfl) (fun x hx => by
            simp only [List.mem_append, List.mem_singleton] at hx
            rcases hx with hx | rfl
            · exact (ok_append (hok x hx)).1
            · rw [← h.len]; exact v_ok) hd
          rw [List.map_append, hmap] at g2 g4
          have hlast : [Ex.v s.nv].map (Ex.val (ρ ++ [v])) = [v] := by rw [← h.len]; simp [v_last]
          rw [hlast] at g2 g4
          refine ⟨v :: vs, d, g1, by simpa using g2, by simp [g3], fun hall => ?_⟩
          have hrest := g4 (by simpa using hall)
          have hvok : DVal.okVal v = true := by simp only [List.all_append, List.all_cons, Bool.and_eq_true] at hall; exact hall.2.1
          have hrd : readLoc q sz (st.loc q) [st.env q] = some v := by
            simp only [Opd.val] at hp'
            simp only [JOp.sem, POp.sem, List.map_cons, List.map_nil, ← hc'] at hv
            unfold fldSem at hv
            split at hv
            · rename_i cs hcs
              simp only [List.cons.injEq, and_true] at hcs
              simp only [hp', readLoc, true_and, if_true, hcs, hv]
            · cases hv
          simp only [resVals, IRes.val, hrd, hrest, hvok, if_true]
        · cases hd
      · cases hs
    · cases hs

theorem resEx_sound {st : St} {rs : List IRes} {vs : List DVal} {d : DVal} (h1 : resEx vs = some d) (h2 : rs.length = vs.length) (h3 : vs.all DVal.okVal = true → resVals st rs = some vs) : resVal st rs = some d := by
  unfold resEx at h1
  split at h1
  · rename_i v
    split at h1
    · rename_i hok
      simp only [Option.some.injEq] at h1
      subst h1
      have := h3 (by simpa using hok)
      simp only [resVal, this]
    · cases h1
  · rename_i hne
    split at h1
    · rename_i hok
      simp only [Option.some.injEq] at h1
      subst h1
      have := h3 hok
      unfold resVal
      rw [this]
      split
      · rename_i v e; exact absurd (Option.some.inj e) (hne v)
      · rename_i us _ e; rw [Option.some.inj e]
      · rename_i e; cases e
    · cases h1

theorem parEnv_mem : ∀ {n t : Nat} {sv : SV}, (t, sv) ∈ parEnv n → t < n ∧ sv = .ex (.v t)
  | 0, t, sv, h => by simp [parEnv] at h
  | n + 1, t, sv, h => by
    simp only [parEnv, List.mem_cons, Prod.mk.injEq] at h
    rcases h with ⟨rfl, rfl⟩ | h
    · exact ⟨by omega, rfl⟩
    · have := parEnv_mem h; exact ⟨by omega, this.2⟩

theorem symbFun_sound {F : IFunc} {t : T} {args : List DVal} {σ σ' : Sto} {v : DVal} (hs : symbFun F = some t) (hlen : args.length = F.npar) (hd : den cp ci n t args σ = some (.done v σ')) : runFun cp ci n F args σ = some (v, σ') := by
  have h0 : Corr { env := parEnv F.npar, loc := [], nv := F.npar, dep := 0 } args (enter args σ) := by
    refine ⟨hlen, fun t sv hm => ?_, fun r e g hm => by simp at hm⟩
    obtain ⟨h1, rfl⟩ := parEnv_mem hm
    exact ⟨by simp [Ex.ok, Nat.blt_eq, hlen, h1], rfl⟩
  obtain ⟨e, st', g1, s', t', ρ', g2, g3, g4⟩ := symb_sound (cp := cp) (ci := ci) (n := n) _ _ _ _ _ hs args (enter args σ) _ h0 hd
  have fin : resTree F.res s' [] = some t' → (resVal st' F.res).map (fun v => (v, st'.sto)) = some (v, σ') := by
    intro hr
    obtain ⟨vs, d, a1, a2, a3, a4⟩ := resTree_sound hr g3 (by simp) g4
    simp only [List.map_nil, List.nil_append] at a2 a4
    simp only [Out.done.injEq] at a1
    obtain ⟨rfl, rfl⟩ := a1
    rw [resEx_sound a2 a3 a4]
    rfl
  unfold runFun
  rw [if_pos hlen, g1]
  simp only at g2
  split at g2
  · exact fin g2
  · exact fin g2
  · cases g2

end

end Go.Proofs.YtdnoonnanhnkaaaDoor
