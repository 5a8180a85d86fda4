/- Regions whose order is open: independent operations may change places. -/
import Derived.Test.YtdnoonnanhnkaaaDoorSimStep
import Derived.Orders
set_option linter.unusedVariables false
set_option linter.unusedSimpArgs false
namespace Go.Proofs.YtdnoonnanhnkaaaDoor
open Go Go.RowKit

section
variable {cp : Nat → List DVal → Option DVal} {ci : Nat → List DVal → Sto → Option (DVal × Sto)}

/-- What an operation does: its result, the root that it writes, the store that it leaves. -/
def effOp (cp : Nat → List DVal → Option DVal) (ci : Nat → List DVal → Sto → Option (DVal × Sto)) (op : IOp) (xs : List Opd) (st : St) : Option (DVal × Option (Nat × (Nat × DVal)) × Option Sto) :=
  match op with
  | .p o => (o.sem cp (xs.map (Opd.val st.env))).map fun d => (d, none, none)
  | .lr r sz => (readLoc r sz (st.loc r) (xs.map (Opd.val st.env))).map fun d => (d, none, none)
  | .lw r o => (o.sem r (st.loc r) (xs.map (Opd.val st.env))).map fun x => (x.1, some (r, x.2), none)
  | .s _ (.ld sz) => (ldOSem st.sto sz (xs.map (Opd.val st.env))).map fun x => (x.1, none, none)
  | .s _ o => (o.sem cp ci st.sto (xs.map (Opd.val st.env))).map fun x => (x.1, none, some x.2)

def eff (cp : Nat → List DVal → Option DVal) (ci : Nat → List DVal → Sto → Option (DVal × Sto)) (o : IOper) (st : St) : Option (DVal × Option (Nat × (Nat × DVal)) × Option Sto) :=
  match o.guard with
  | none => effOp cp ci o.op o.xs st
  | some (g, b) => if (st.env g).isB b then effOp cp ci o.op o.xs st else some (.undef, none, none)

def locPut (L : Nat → Nat × DVal) : Option (Nat × (Nat × DVal)) → Nat → Nat × DVal
  | none => L
  | some (r, m) => upd L r m

def envPut (env : Nat → DVal) : Option Nat → DVal → Nat → DVal
  | none, _ => env
  | some d, v => upd env d v

def applyEff (dst : Option Nat) (st : St) (x : DVal × Option (Nat × (Nat × DVal)) × Option Sto) : St :=
  { env := envPut st.env dst x.1, loc := locPut st.loc x.2.1, sto := x.2.2.getD st.sto }

theorem ldOSem_same {σ σ' : Sto} {sz : Option Nat} {xs : List DVal} {d : DVal} (h : ldOSem σ sz xs = some (d, σ')) : σ' = σ := by
  unfold ldOSem at h
  split at h
  · split at h
    · split at h
      · simp only [Option.map_eq_some_iff, Prod.mk.injEq] at h
        obtain ⟨_, _, _, rfl⟩ := h
        rfl
      · cases h
    · cases h
  · simp only [Option.map_eq_some_iff, Prod.mk.injEq] at h
    obtain ⟨_, _, _, rfl⟩ := h
    rfl
  · cases h

theorem execOp'_eff (dst : Option Nat) (op : IOp) (xs : List Opd) (st : St) : execOp' cp ci dst op xs st = (effOp cp ci op xs st).map (applyEff dst st) := by
  cases op with
  | p o =>
    simp only [execOp', effOp, Option.map_map]
    congr 1
    funext d
    cases dst <;> rfl
  | lr r sz =>
    simp only [execOp', effOp, Option.map_map]
    congr 1
    funext d
    cases dst <;> rfl
  | lw r o =>
    simp only [execOp', effOp, Option.map_map]
    congr 1
    funext d
    cases dst <;> rfl
  | s w o =>
    cases o with
    | ld sz =>
      simp only [execOp', effOp, SOp.sem, Option.map_map]
      cases h : ldOSem st.sto sz (xs.map (Opd.val st.env)) with
      | none => rfl
      | some x =>
        obtain ⟨d, σ'⟩ := x
        have := ldOSem_same h
        subst this
        cases dst <;> rfl
    | _ =>
      simp only [execOp', effOp, Option.map_map]
      congr 1
      funext d
      cases dst <;> rfl

theorem stepOp_eff (o : IOper) (st : St) : stepOp cp ci o st = (eff cp ci o st).map (applyEff o.dst st) := by
  unfold stepOp eff
  cases o.guard with
  | none => exact execOp'_eff _ _ _ _
  | some g =>
    obtain ⟨g, b⟩ := g
    simp only
    split
    · exact execOp'_eff _ _ _ _
    · cases h : o.dst <;> simp [applyEff, St.put, envPut, locPut]

theorem vals_congr {xs : List Opd} {e e' : Nat → DVal} (h : ∀ n, n ∈ (xs.filterMap fun | .t n => some n | _ => none) → e n = e' n) : xs.map (Opd.val e) = xs.map (Opd.val e') := by
  apply List.map_congr_left
  intro x hx
  cases x with
  | t n => exact h n (List.mem_filterMap.2 ⟨.t n, hx, rfl⟩)
  | c v => rfl

/-- The root that an operation looks at or writes. -/
def rootOf : IOp → Option Nat
  | .lr r _ | .lw r _ => some r
  | _ => none

def usesSto : IOp → Bool
  | .s _ _ => true
  | _ => false

theorem eff_congr {o : IOper} {st st' : St} (henv : ∀ n, n ∈ o.uses → st.env n = st'.env n) (hloc : ∀ r, rootOf o.op = some r → st.loc r = st'.loc r) (hsto : usesSto o.op = true → st.sto = st'.sto) : eff cp ci o st = eff cp ci o st' := by
  have hv : o.xs.map (Opd.val st.env) = o.xs.map (Opd.val st'.env) := vals_congr fun n hn => henv n (by unfold IOper.uses; exact List.mem_append_left _ hn)
  have hop : effOp cp ci o.op o.xs st = effOp cp ci o.op o.xs st' := by
    cases hop : o.op with
    | p po => simp only [effOp, hv]
    | lr r sz => simp only [effOp, hv, hloc r (by rw [hop]; rfl)]
    | lw r lo => simp only [effOp, hv, hloc r (by rw [hop]; rfl)]
    | s w so => cases so <;> simp only [effOp, hv, hsto (by rw [hop]; rfl)]
  unfold eff
  cases hg : o.guard with
  | none => exact hop
  | some g =>
    obtain ⟨g, b⟩ := g
    have := henv g (by unfold IOper.uses; rw [hg]; simp)
    simp only [this, hop]

theorem eff_loc {o : IOper} {st : St} {x : DVal × Option (Nat × (Nat × DVal)) × Option Sto} (h : eff cp ci o st = some x) : ∀ r m, x.2.1 = some (r, m) → ∃ lo, o.op = .lw r lo := by
  intro r m hx
  have key : ∀ y, effOp cp ci o.op o.xs st = some y → y.2.1 = some (r, m) → ∃ lo, o.op = .lw r lo := by
    intro y hy hm
    cases hop : o.op with
    | p po => rw [hop] at hy; simp only [effOp, Option.map_eq_some_iff] at hy; obtain ⟨_, _, rfl⟩ := hy; simp at hm
    | lr r sz => rw [hop] at hy; simp only [effOp, Option.map_eq_some_iff] at hy; obtain ⟨_, _, rfl⟩ := hy; simp at hm
    | lw q lo => rw [hop] at hy; simp only [effOp, Option.map_eq_some_iff] at hy; obtain ⟨_, _, rfl⟩ := hy; simp at hm; exact ⟨lo, by rw [hm.1]⟩
    | s w so => rw [hop] at hy; cases so <;> simp only [effOp, Option.map_eq_some_iff] at hy <;> (obtain ⟨_, _, rfl⟩ := hy; simp at hm)
  unfold eff at h
  split at h
  · exact key x h hx
  · split at h
    · exact key x h hx
    · simp only [Option.some.injEq] at h; subst h; simp at hx

theorem eff_sto {o : IOper} {st : St} {x : DVal × Option (Nat × (Nat × DVal)) × Option Sto} (h : eff cp ci o st = some x) : ∀ σ, x.2.2 = some σ → ∃ w so, o.op = .s w so ∧ ∀ sz, so ≠ .ld sz := by
  intro σ hx
  have key : ∀ y, effOp cp ci o.op o.xs st = some y → y.2.2 = some σ → ∃ w so, o.op = .s w so ∧ ∀ sz, so ≠ .ld sz := by
    intro y hy hm
    cases hop : o.op with
    | p po => rw [hop] at hy; simp only [effOp, Option.map_eq_some_iff] at hy; obtain ⟨_, _, rfl⟩ := hy; simp at hm
    | lr r sz => rw [hop] at hy; simp only [effOp, Option.map_eq_some_iff] at hy; obtain ⟨_, _, rfl⟩ := hy; simp at hm
    | lw q lo => rw [hop] at hy; simp only [effOp, Option.map_eq_some_iff] at hy; obtain ⟨_, _, rfl⟩ := hy; simp at hm
    | s w so =>
      refine ⟨w, so, rfl, fun sz e => ?_⟩
      subst e
      rw [hop] at hy
      simp only [effOp, Option.map_eq_some_iff] at hy
      obtain ⟨_, _, rfl⟩ := hy
      simp at hm
  unfold eff at h
  split at h
  · exact key x h hx
  · split at h
    · exact key x h hx
    · simp only [Option.some.injEq] at h; subst h; simp at hx

theorem envPut_other {env : Nat → DVal} {d : Option Nat} {v : DVal} {n : Nat} (h : d ≠ some n) : envPut env d v n = env n := by
  cases d with
  | none => rfl
  | some m => simp only [envPut, upd]; rw [if_neg (fun e => h (by rw [e]))]

theorem envPut_comm {env : Nat → DVal} {d e : Option Nat} {v u : DVal} (h : ∀ n, d = some n → e ≠ some n) : envPut (envPut env d v) e u = envPut (envPut env e u) d v := by
  cases d with
  | none => rfl
  | some m =>
    cases e with
    | none => rfl
    | some k =>
      have hne : k ≠ m := fun e => h m rfl (by rw [e])
      funext n
      simp only [envPut, upd]
      by_cases h1 : n = k
      · by_cases h2 : n = m
        · omega
        · simp [h1, h2, hne]
      · simp [h1]

theorem freeOf_iff {d : Option Nat} {l : List Nat} (h : freeOf d l = true) : ∀ n, d = some n → n ∉ l := by
  rintro n rfl
  simpa [freeOf] using h

/-- Two independent operations change places. -/
theorem step_swap {o p : IOper} (h : indep o p = true) {st s1 s2 : St} (h1 : stepOp cp ci o st = some s1) (h2 : stepOp cp ci p s1 = some s2) : ∃ s1', stepOp cp ci p st = some s1' ∧ stepOp cp ci o s1' = some s2 := by
  simp only [indep, Bool.and_eq_true] at h
  obtain ⟨⟨⟨hacc, hd1⟩, hd2⟩, hd3⟩ := h
  have hd1 := freeOf_iff hd1
  have hd2 := freeOf_iff hd2
  have hd3' : ∀ n, o.dst = some n → p.dst ≠ some n := fun n hn hp => (freeOf_iff hd3 n hn) (by rw [hp]; simp)
  rw [stepOp_eff] at h1 h2
  simp only [Option.map_eq_some_iff] at h1 h2
  obtain ⟨x, hx, rfl⟩ := h1
  obtain ⟨y, hy, rfl⟩ := h2
  have lx := eff_loc hx
  have sx := eff_sto hx
  have ly := eff_loc hy
  have sy := eff_sto hy
  have hy' : eff cp ci p st = some y := by
    rw [← hy]
    refine eff_congr (fun n hn => ?_) (fun r hr => ?_) (fun hs => ?_)
    · exact (envPut_other fun e => hd1 n e hn).symm
    · show st.loc r = locPut st.loc x.2.1 r
      cases hm : x.2.1 with
      | none => rfl
      | some q =>
        obtain ⟨q, m⟩ := q
        obtain ⟨lo, hlo⟩ := lx q m hm
        simp only [locPut, upd]
        rw [if_neg]
        rintro rfl
        rw [hlo] at hacc
        cases hp : p.op <;> rw [hp] at hr hacc <;> simp [rootOf, accOk] at hr hacc <;> omega
    · show st.sto = x.2.2.getD st.sto
      cases hm : x.2.2 with
      | none => rfl
      | some σ =>
        obtain ⟨w, so, hso, hne⟩ := sx σ hm
        rw [hso] at hacc
        cases hp : p.op <;> rw [hp] at hs hacc <;> simp only [usesSto, Bool.false_eq_true] at hs
        rename_i w' so'
        exfalso
        cases so <;> first | exact absurd rfl (hne _) | (cases w <;> cases w' <;> cases so' <;> simp [accOk] at hacc)
  have hx' : eff cp ci o (applyEff p.dst st y) = some x := by
    rw [← hx]
    refine eff_congr (fun n hn => ?_) (fun r hr => ?_) (fun hs => ?_)
    · exact envPut_other fun e => hd2 n e hn
    · show locPut st.loc y.2.1 r = st.loc r
      cases hm : y.2.1 with
      | none => rfl
      | some q =>
        obtain ⟨q, m⟩ := q
        obtain ⟨lo, hlo⟩ := ly q m hm
        simp only [locPut, upd]
        rw [if_neg]
        rintro rfl
        rw [hlo] at hacc
        cases hp : o.op <;> rw [hp] at hr hacc <;> simp [rootOf, accOk] at hr hacc <;> omega
    · show y.2.2.getD st.sto = st.sto
      cases hm : y.2.2 with
      | none => rfl
      | some σ =>
        obtain ⟨w, so, hso, hne⟩ := sy σ hm
        rw [hso] at hacc
        cases hp : o.op <;> rw [hp] at hs hacc <;> simp only [usesSto, Bool.false_eq_true] at hs
        rename_i w' so'
        exfalso
        cases so <;> first | exact absurd rfl (hne _) | (cases w <;> cases w' <;> cases so' <;> simp [accOk] at hacc)
  refine ⟨applyEff p.dst st y, by rw [stepOp_eff, hy']; rfl, ?_⟩
  rw [stepOp_eff, hx']
  simp only [Option.map_some, Option.some.injEq]
  have hloc : locPut (locPut st.loc y.2.1) x.2.1 = locPut (locPut st.loc x.2.1) y.2.1 := by
    cases hm : x.2.1 with
    | none => rfl
    | some q =>
      cases hm' : y.2.1 with
      | none => rfl
      | some q' =>
        obtain ⟨q, m⟩ := q
        obtain ⟨q', m'⟩ := q'
        obtain ⟨lo, hlo⟩ := lx q m hm
        obtain ⟨lo', hlo'⟩ := ly q' m' hm'
        rw [hlo, hlo'] at hacc
        simp [accOk] at hacc
        funext n
        simp only [locPut, upd]
        by_cases e1 : n = q
        · by_cases e2 : n = q'
          · omega
          · simp [e1, hacc]
        · simp [e1]
  have hsto : x.2.2.getD (y.2.2.getD st.sto) = y.2.2.getD (x.2.2.getD st.sto) := by
    cases hm : x.2.2 with
    | none => rfl
    | some σ =>
      cases hm' : y.2.2 with
      | none => rfl
      | some σ' =>
        exfalso
        obtain ⟨w, so, hso, hne⟩ := sx σ hm
        obtain ⟨w', so', hso', hne'⟩ := sy σ' hm'
        rw [hso, hso'] at hacc
        cases so <;> first | exact absurd rfl (hne _) | (cases w <;> cases w' <;> cases so' <;> simp [accOk] at hacc)
  simp only [applyEff, St.mk.injEq]
  exact ⟨(envPut_comm hd3').symm, hloc, hsto⟩

/-- The operations of a region, by their numbers. -/
def runIdx (cp : Nat → List DVal → Option DVal) (ci : Nat → List DVal → Sto → Option (DVal × Sto)) (ios : List IOper) : List Nat → St → Option St
  | [], st => some st
  | i :: is, st => match ios[i]? with
    | some o => (stepOp cp ci o st).bind (runIdx cp ci ios is)
    | none => none

theorem runIdx_append (ios : List IOper) : ∀ (l m : List Nat) (st : St), runIdx cp ci ios (l ++ m) st = (runIdx cp ci ios l st).bind (runIdx cp ci ios m)
  | [], m, st => rfl
  | i :: l, m, st => by
    simp only [List.cons_append, runIdx]
    cases ios[i]? with
    | none => rfl
    | some o =>
      simp only
      cases stepOp cp ci o st with
      | none => rfl
      | some s => simp only [Option.bind_some]; exact runIdx_append ios l m s

theorem runOps_idx (ios : List IOper) : ∀ (n k : Nat) (st : St), k + n = ios.length → runOps cp ci (ios.drop k) st = runIdx cp ci ios (List.range' k n) st
  | 0, k, st, h => by rw [List.drop_eq_nil_of_le (by omega)]; rfl
  | n + 1, k, st, h => by
    have hk : k < ios.length := by omega
    rw [List.drop_eq_getElem_cons hk, List.range'_succ]
    simp only [runOps, runIdx, List.getElem?_eq_getElem hk]
    cases stepOp cp ci ios[k] st with
    | none => rfl
    | some s => simp only [Option.bind_some]; exact runOps_idx ios n (k + 1) s (by omega)

/-- An operation that is independent of those ahead of it may come first. -/
theorem to_front (ios : List IOper) {i : Nat} {o : IOper} (ho : ios[i]? = some o) : ∀ (l : List Nat) (st st' : St), (∀ j ∈ l, ∀ p, ios[j]? = some p → indep p o = true) → runIdx cp ci ios (l ++ [i]) st = some st' →
    ∃ s1, stepOp cp ci o st = some s1 ∧ runIdx cp ci ios l s1 = some st'
  | [], st, st', _, h => by
    simp only [List.nil_append, runIdx, ho, Option.bind_eq_some_iff, Option.some.injEq] at h
    obtain ⟨s, h1, rfl⟩ := h
    exact ⟨s, h1, rfl⟩
  | j :: l, st, st', hl, h => by
    simp only [List.cons_append, runIdx] at h
    cases hj : ios[j]? with
    | none => rw [hj] at h; simp at h
    | some p =>
      rw [hj] at h
      simp only [Option.bind_eq_some_iff] at h
      obtain ⟨s, h1, h2⟩ := h
      obtain ⟨s1, h3, h4⟩ := to_front ios ho l s st' (fun k hk => hl k (by simp [hk])) h2
      obtain ⟨s2, h5, h6⟩ := step_swap (hl j (by simp) p hj) h1 h3
      refine ⟨s2, h5, ?_⟩
      simp only [runIdx, hj, h6, Option.bind_some, h4]

end

end Go.Proofs.YtdnoonnanhnkaaaDoor
