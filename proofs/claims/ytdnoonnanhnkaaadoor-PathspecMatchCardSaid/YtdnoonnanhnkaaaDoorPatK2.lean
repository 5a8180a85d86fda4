/- Lookup and its law. -/
import Derived.Test.YtdnoonnanhnkaaaDoorPatL2
set_option linter.unusedVariables false
set_option linter.unusedSimpArgs false
set_option maxRecDepth 20000
set_option maxHeartbeats 4000000
namespace Go.Proofs.YtdnoonnanhnkaaaDoor
open Go

/-- A rule: pattern, kind, and what stands in its context. -/
structure Rule where
  p : Bs
  k : Int
  x1 : Int
  x2 : Int
  x3 : Int
  x4 : Int
  x5 : Int
  x6 : Int
  x7 : Int

instance : Inhabited Rule := ⟨⟨[], 0, 0, 0, 0, 0, 0, 0, 0⟩⟩

def Rule.row (r : Rule) : List DVal := [.str r.p, .int .i64 r.k, .int .i64 r.x1, .int .i64 r.x2, .int .i64 r.x3, .int .i64 r.x4, .int .u64 r.x5, .int .i64 r.x6, .int .u64 r.x7]
def ruleRows (rs : List Rule) : List (List DVal) := rs.map Rule.row
@[simp] theorem ruleRows_len (rs : List Rule) : (ruleRows rs).length = rs.length := by simp [ruleRows]
@[simp] theorem ruleRows_get (rs : List Rule) (i : Nat) : (ruleRows rs)[i]? = (rs[i]?).map Rule.row := by simp [ruleRows]
abbrev rulesD (z : Bool) (rs : List Rule) : DVal := slD z 9 (ruleRows rs)

/-- Does a rule become the best one? -/
def takes (rs : List Rule) (path : Bs) (kind : Int) (r : Rule) (best : Int) : Bool :=
  (r.k == 0 || r.k == kind) && matchV r.p path && (decide (best < 0) || !lessV r.p (rs.getD best.toNat default).p)
def lookV (rs : List Rule) (path : Bs) (kind : Int) : List Rule → Nat → Int → Int
  | [], _, best => best
  | r :: t, i, best => lookV rs path kind t (i + 1) (if takes rs path kind r best then i else best)

section
variable {n : Nat} (v : DVal) (rs : List Rule) (hiv : ∀ (k : IntKind) (i : Int), idxSSem 9 [v, .int k i] = if 0 ≤ i then ((ruleRows rs)[i.toNat]?).map fun e => .elem e 0 else none) (hrs : rs.length ≤ 1000) (hp : ∀ r ∈ rs, r.p.length ≤ 90000) (path : Bs) (hpath : path.length ≤ 90000) (kind : Int) (hn : 100300 ≤ n)
include hiv hrs hp hpath hn

theorem l26v (σ : Sto) : ∀ (k i m : Nat) (best : Int), i + k = rs.length → k < m → -1 ≤ best → best < i →
    iterJ 0 (L26_0 (cpJ PR n) (ciJ PR n) n (v) (.str path) (.int .i64 kind) (.int .i64 rs.length)) m [.int .i64 i, .int .i64 best] σ =
      some (.done (.int .i64 (lookV rs path kind (rs.drop i) i best)) σ) := by
  intro k
  induction k with
  | zero =>
    intro i m best hi hm hb hb2
    obtain ⟨m, rfl⟩ : ∃ q, m = q + 1 := ⟨m - 1, by omega⟩
    have hi' : ¬ ((i : Int) < rs.length) := by omega
    rw [List.drop_eq_nil_of_le (by omega)]
    refine iterJ_done ?_
    simp -implicitDefEqProofs [L26_0, B26_0, hiv, hi', lookV]
  | succ k ih =>
    intro i m best hi hm hb hb2
    obtain ⟨m, rfl⟩ : ∃ q, m = q + 1 := ⟨m - 1, by omega⟩
    have hi' : ((i : Int) < rs.length) := by omega
    have hw := wrap_succ (i := i) (by omega)
    simp only [Int.natCast_add, Int.natCast_one] at hw
    obtain ⟨r, hr⟩ := get_some (by omega : i < rs.length)
    have hrm := List.mem_of_getElem? hr
    have hm1 := e22 (n := n) (by omega) r.p path (hp r hrm) hpath
    rw [drop_get hr]
    simp only [lookV]
    rw [← ih (i + 1) m (if takes rs path kind r best then i else best) (by omega) (by omega) (by split <;> omega) (by split <;> omega)]
    refine iterJ_next' ?_
    unfold takes
    cases c1 : (r.k == 0) <;> cases c2 : (r.k == kind) <;> cases c3 : matchV r.p path <;> rw [c3] at hm1
    all_goals try (simp -implicitDefEqProofs [L26_0, B26_0, hiv, hi', hr, Rule.row, c1, c2, hm1, hw]; done)
    all_goals
      by_cases c4 : best < 0
      · simp -implicitDefEqProofs [L26_0, B26_0, hiv, hi', hr, Rule.row, c1, c2, hm1, hw, c4]
      · have c4' : 0 ≤ best := by omega
        obtain ⟨rb, hrb⟩ := get_some (by omega : best.toNat < rs.length)
        have hg : rs.getD best.toNat default = rb := by simp [List.getD_eq_getElem?_getD, hrb]
        have hl := e24 (n := n) (by omega) r.p rb.p (hp r hrm) (hp rb (List.mem_of_getElem? hrb))
        rw [hg]
        cases c5 : lessV r.p rb.p <;> rw [c5] at hl <;> simp -implicitDefEqProofs [L26_0, B26_0, hiv, hi', hr, hrb, Rule.row, c1, c2, hm1, hw, c4, c4', hl]

end

section
variable {n : Nat} (z : Bool) (rs : List Rule) (hrs : rs.length ≤ 1000) (hp : ∀ r ∈ rs, r.p.length ≤ 90000) (path : Bs) (hpath : path.length ≤ 90000) (kind : Int) (hn : 100300 ≤ n)
include hrs hp hpath hn

theorem l27 (σ : Sto) : ∀ (k i m : Nat) (best : Int), i + k = rs.length → k < m → -1 ≤ best → best < i →
    iterJ 0 (L27_0 (cpJ PR n) (ciJ PR n) n (rulesD z rs) (.str path) (.int .i64 kind)) m [.int .i64 i, .int .i64 best] σ =
      some (.done (.int .i64 (lookV rs path kind (rs.drop i) i best)) σ) := by
  intro k
  induction k with
  | zero =>
    intro i m best hi hm hb hb2
    obtain ⟨m, rfl⟩ : ∃ q, m = q + 1 := ⟨m - 1, by omega⟩
    have hi' : ¬ ((i : Int) < rs.length) := by omega
    rw [List.drop_eq_nil_of_le (by omega)]
    refine iterJ_done ?_
    simp -implicitDefEqProofs [L27_0, B27_0, hi', lookV]
  | succ k ih =>
    intro i m best hi hm hb hb2
    obtain ⟨m, rfl⟩ : ∃ q, m = q + 1 := ⟨m - 1, by omega⟩
    have hi' : ((i : Int) < rs.length) := by omega
    have hw := wrap_succ (i := i) (by omega)
    simp only [Int.natCast_add, Int.natCast_one] at hw
    obtain ⟨r, hr⟩ := get_some (by omega : i < rs.length)
    have hrm := List.mem_of_getElem? hr
    have hm1 := e23 (n := n) (by omega) r.p path (hp r hrm) hpath
    rw [drop_get hr]
    simp only [lookV]
    rw [← ih (i + 1) m (if takes rs path kind r best then i else best) (by omega) (by omega) (by split <;> omega) (by split <;> omega)]
    refine iterJ_next' ?_
    unfold takes
    cases c1 : (r.k == 0) <;> cases c2 : (r.k == kind) <;> cases c3 : matchV r.p path <;> rw [c3] at hm1
    all_goals try (simp -implicitDefEqProofs [L27_0, B27_0, hi', hr, Rule.row, bne, c1, c2, hm1, hw]; done)
    all_goals
      by_cases c4 : best < 0
      · simp -implicitDefEqProofs [L27_0, B27_0, hi', hr, Rule.row, bne, c1, c2, hm1, hw, c4]
      · have c4' : 0 ≤ best := by omega
        obtain ⟨rb, hrb⟩ := get_some (by omega : best.toNat < rs.length)
        have hg : rs.getD best.toNat default = rb := by simp [List.getD_eq_getElem?_getD, hrb]
        have hl := e25 (n := n) (by omega) r.p rb.p (hp r hrm) (hp rb (List.mem_of_getElem? hrb))
        rw [hg]
        cases c5 : lessV r.p rb.p <;> rw [c5] at hl <;> simp -implicitDefEqProofs [L27_0, B27_0, hi', hr, hrb, Rule.row, bne, c1, c2, hm1, hw, c4, c4', hl]

end

theorem e26v {n : Nat} (v : DVal) (rs : List Rule) (hlv : lenSlSem [v] = some (.int .i64 rs.length)) (hiv : ∀ (k : IntKind) (i : Int), idxSSem 9 [v, .int k i] = if 0 ≤ i then ((ruleRows rs)[i.toNat]?).map fun e => .elem e 0 else none) (hrs : rs.length ≤ 1000) (hp : ∀ r ∈ rs, r.p.length ≤ 90000) (path : Bs) (hpath : path.length ≤ 90000) (kind : Int) (hn : 100301 ≤ n) :
    cpJ PR n 26 [v, .str path, .int .i64 kind] = some (.int .i64 (lookV rs path kind rs 0 (-1))) := by
  obtain ⟨n, rfl⟩ : ∃ m, n = m + 1 := ⟨n - 1, by omega⟩
  have h := l26v (n := n) v rs hiv hrs hp path hpath kind (by omega) emptySto rs.length 0 n (-1) (by omega) (by omega) (by omega) (by omega)
  simp only [Int.natCast_zero, List.drop_zero] at h
  rw [u26]
  simp -implicitDefEqProofs [D26, hlv, h]

theorem e26 {n : Nat} (z : Bool) (rs : List Rule) (hrs : rs.length ≤ 1000) (hp : ∀ r ∈ rs, r.p.length ≤ 90000) (path : Bs) (hpath : path.length ≤ 90000) (kind : Int) (hn : 100301 ≤ n) :
    cpJ PR n 26 [rulesD z rs, .str path, .int .i64 kind] = some (.int .i64 (lookV rs path kind rs 0 (-1))) :=
  e26v (rulesD z rs) rs (by simp) (fun k i => idx_slD) hrs hp path hpath kind hn

theorem e26s {n : Nat} (own : Nat) (rs : List Rule) (hrs : rs.length ≤ 1000) (hp : ∀ r ∈ rs, r.p.length ≤ 90000) (path : Bs) (hpath : path.length ≤ 90000) (kind : Int) (hn : 100301 ≤ n) :
    cpJ PR n 26 [.slice false own 9 (ruleRows rs), .str path, .int .i64 kind] = some (.int .i64 (lookV rs path kind rs 0 (-1))) :=
  e26v _ rs (by simp) (fun k i => by simp only [idxSSem, true_and]) hrs hp path hpath kind hn

theorem e27 {n : Nat} (z : Bool) (rs : List Rule) (hrs : rs.length ≤ 1000) (hp : ∀ r ∈ rs, r.p.length ≤ 90000) (path : Bs) (hpath : path.length ≤ 90000) (kind : Int) (hn : 100301 ≤ n) :
    cpJ PR n 27 [rulesD z rs, .str path, .int .i64 kind] = some (.int .i64 (lookV rs path kind rs 0 (-1))) := by
  obtain ⟨n, rfl⟩ : ∃ m, n = m + 1 := ⟨n - 1, by omega⟩
  have h := l27 (n := n) z rs hrs hp path hpath kind (by omega) emptySto rs.length 0 n (-1) (by omega) (by omega) (by omega) (by omega)
  simp only [Int.natCast_zero, List.drop_zero] at h
  rw [u27]
  simp -implicitDefEqProofs [D27, h]

theorem l6 {n : Nat} (hn : 100400 ≤ n) (aw : cpJ PR n 11 [] = some (.bool true)) (z : Bool) (rs : List Rule) (hrs : rs.length ≤ 30) (path : Bs) (hpath : path.length ≤ 300) (kind : Int) (u : DVal) (σ : Sto) :
    ∀ (k i m : Nat), i + k = rs.length → k < m → (∀ r ∈ rs.take i, r.p.length ≤ 300) →
    iterJ 0 (L6_0 (cpJ PR n) (ciJ PR n) n (rulesD z rs) (.str path) (.int .i64 kind) (.int .i64 rs.length)) m [.int .i64 i, u] σ = some (.done (.bool true) σ) := by
  intro k
  induction k with
  | zero =>
    intro i m hi hm hall
    obtain ⟨m, rfl⟩ : ∃ q, m = q + 1 := ⟨m - 1, by omega⟩
    have hi' : ¬ ((i : Int) < rs.length) := by omega
    rw [List.take_of_length_le (by omega)] at hall
    have h1 := e26 (n := n) z rs (by omega) (fun r hr => by have := hall r hr; omega) path (by omega) kind (by omega)
    have h2 := e27 (n := n) z rs (by omega) (fun r hr => by have := hall r hr; omega) path (by omega) kind (by omega)
    refine iterJ_done ?_
    simp -implicitDefEqProofs [L6_0, B6_0, hi', h1, h2, aw]
  | succ k ih =>
    intro i m hi hm hall
    obtain ⟨m, rfl⟩ : ∃ q, m = q + 1 := ⟨m - 1, by omega⟩
    have hi' : ((i : Int) < rs.length) := by omega
    have hw := wrap_succ (i := i) (by omega)
    simp only [Int.natCast_add, Int.natCast_one] at hw
    obtain ⟨r, hr⟩ := get_some (by omega : i < rs.length)
    have hs := short1 (n := n) (by omega) r.p
    cases hsh : shortV [r.p] with
    | false =>
      rw [hsh] at hs
      refine iterJ_done ?_
      simp -implicitDefEqProofs [L6_0, B6_0, hi', hr, Rule.row, hs, aw]
    | true =>
      rw [hsh] at hs
      have hle : r.p.length ≤ 300 := by simpa [shortV] using hsh
      rw [iterJ_next' (vs' := [.int .i64 ((i + 1 : Nat) : Int), u]) (σ' := σ) (by simp -implicitDefEqProofs [L6_0, B6_0, hi', hr, Rule.row, hs, hw])]
      refine ih (i + 1) m (by omega) (by omega) (fun q hq => ?_)
      rw [take_get hr, List.mem_append, List.mem_singleton] at hq
      rcases hq with hq | rfl
      · exact hall q hq
      · exact hle

/-- The law of Lookup. -/
theorem e6 {n : Nat} (hn : 100400 ≤ n) (aw : cpJ PR n 11 [] = some (.bool true)) (z : Bool) (rs : List Rule) (path : Bs) (kind : Int) :
    cpJ PR (n + 1) 6 [rulesD z rs, .str path, .int .i64 kind] = some (.bool true) := by
  have hs := short1 (n := n) (by omega) path
  rw [u6]
  by_cases h30 : rs.length ≤ 30
  · have h30' : ¬ (30 : Int) < rs.length := by omega
    cases hsh : shortV [path] with
    | false =>
      rw [hsh] at hs
      simp -implicitDefEqProofs [D6, h30', hs, aw]
    | true =>
      rw [hsh] at hs
      have hle : path.length ≤ 300 := by simpa [shortV] using hsh
      have h := l6 hn aw z rs h30 path hle kind (.bool false) emptySto rs.length 0 n (by omega) (by omega) (by simp)
      simp only [Int.natCast_zero] at h
      simp -implicitDefEqProofs [D6, h30', hs, h]
  · have h30' : (30 : Int) < rs.length := by omega
    simp -implicitDefEqProofs [D6, h30', aw]

end Go.Proofs.YtdnoonnanhnkaaaDoor
