/- Kinds and their words; what is asked of sizes. -/
import Derived.Test.YtdnoonnanhnkaaaDoorPatS
set_option linter.unusedVariables false
set_option linter.unusedSimpArgs false
set_option maxRecDepth 20000
set_option maxHeartbeats 2000000
namespace Go.Proofs.YtdnoonnanhnkaaaDoor
open Go

def w0 : Bs := [97, 110, 121]
def w1 : Bs := [114, 101, 103, 117, 108, 97, 114]
def w2 : Bs := [100, 105, 114, 101, 99, 116, 111, 114, 121]
def w3 : Bs := [108, 105, 110, 107]
def w4 : Bs := [115, 111, 99, 107, 101, 116]

/-- The word for a kind. -/
def kindV (k : Int) : DVal :=
  if k = 0 then .tup [.str w0, .bool true] else if k = 1 then .tup [.str w1, .bool true] else if k = 2 then .tup [.str w2, .bool true] else if k = 3 then .tup [.str w3, .bool true] else if k = 4 then .tup [.str w4, .bool true] else .tup [.str [], .bool false]

theorem e12 {n : Nat} (hn : 1 ≤ n) (k : Int) : cpJ PR n 12 [.int .i64 k] = some (kindV k) := by
  obtain ⟨n, rfl⟩ : ∃ m, n = m + 1 := ⟨n - 1, by omega⟩
  rw [u12]
  unfold kindV
  by_cases h0 : k = 0
  · subst h0; simp -implicitDefEqProofs [D12, w0]
  by_cases h1 : k = 1
  · subst h1; simp -implicitDefEqProofs [D12, w1]
  by_cases h2 : k = 2
  · subst h2; simp -implicitDefEqProofs [D12, w2]
  by_cases h3 : k = 3
  · subst h3; simp -implicitDefEqProofs [D12, w3]
  by_cases h4 : k = 4
  · subst h4; simp -implicitDefEqProofs [D12, w4]
  have e : ∀ j : Int, k ≠ j → (k == j) = false := fun j h => beq_eq_false_iff_ne.2 h
  simp -implicitDefEqProofs [D12, h0, h1, h2, h3, h4, e]

abbrev wordsD : DVal := .slice false 1 1 [[.str w0], [.str w1], [.str w2], [.str w3], [.str w4]]

theorem e30 {n : Nat} (hn : 1 ≤ n) : cpJ PR n 30 [] = some wordsD := by
  obtain ⟨n, rfl⟩ : ∃ m, n = m + 1 := ⟨n - 1, by omega⟩
  rw [u30]
  simp -implicitDefEqProofs [D30, w0, w1, w2, w3, w4]

theorem e13 {n : Nat} (hn : 2 ≤ n) (k : Int) : cpJ PR n 13 [.int .i64 k] = some (kindV k) := by
  obtain ⟨n, rfl⟩ : ∃ m, n = m + 1 := ⟨n - 1, by omega⟩
  have h := e30 (n := n) (by omega)
  rw [u13]
  unfold kindV
  by_cases hneg : k < 0
  · have : k ≠ 0 ∧ k ≠ 1 ∧ k ≠ 2 ∧ k ≠ 3 ∧ k ≠ 4 := by omega
    simp -implicitDefEqProofs [D13, hneg, this]
  by_cases hbig : 4 < k
  · have : k ≠ 0 ∧ k ≠ 1 ∧ k ≠ 2 ∧ k ≠ 3 ∧ k ≠ 4 := by omega
    simp -implicitDefEqProofs [D13, hneg, hbig, this]
  by_cases h0 : k = 0
  · subst h0; simp -implicitDefEqProofs [D13, h]
  by_cases h1 : k = 1
  · subst h1; simp -implicitDefEqProofs [D13, h]
  by_cases h2 : k = 2
  · subst h2; simp -implicitDefEqProofs [D13, h]
  by_cases h3 : k = 3
  · subst h3; simp -implicitDefEqProofs [D13, h]
  obtain rfl : k = 4 := by omega
  simp -implicitDefEqProofs [D13, h]

/-- The kind of a word. -/
def kofV (s : Bs) : DVal :=
  if s = w0 then .tup [.int .i64 0, .bool true] else if s = w1 then .tup [.int .i64 1, .bool true] else if s = w2 then .tup [.int .i64 2, .bool true] else if s = w3 then .tup [.int .i64 3, .bool true] else if s = w4 then .tup [.int .i64 4, .bool true] else .tup [.int .i64 0, .bool false]

theorem unroll5 {f : List DVal → Sto → Option Out} {σ : Sto} {a b : DVal} {s : Bs} {m : Nat}
    (h : ∀ (k : Nat) (w : Bs), ([w0, w1, w2, w3, w4] : List Bs)[k]? = some w → f [.int .i64 k, a, b] σ = if s = w then some (.done (.tup [.int .i64 k, .bool true]) σ) else some (.next 0 [.int .i64 ((k + 1 : Nat) : Int), a, b] σ))
    (h5 : f [.int .i64 ((5 : Nat) : Int), a, b] σ = some (.done (.tup [.int .i64 0, .bool false]) σ)) : iterJ 0 f (m + 6) [.int .i64 ((0 : Nat) : Int), a, b] σ = some (.done (kofV s) σ) := by
  unfold kofV
  have g0 := h 0 w0 rfl
  have g1 := h 1 w1 rfl
  have g2 := h 2 w2 rfl
  have g3 := h 3 w3 rfl
  have g4 := h 4 w4 rfl
  by_cases c0 : s = w0
  · rw [if_pos c0] at g0 ⊢
    exact iterJ_done g0
  rw [if_neg c0] at g0 ⊢
  rw [iterJ_next' g0]
  by_cases c1 : s = w1
  · rw [if_pos c1] at g1 ⊢
    exact iterJ_done g1
  rw [if_neg c1] at g1 ⊢
  rw [iterJ_next' g1]
  by_cases c2 : s = w2
  · rw [if_pos c2] at g2 ⊢
    exact iterJ_done g2
  rw [if_neg c2] at g2 ⊢
  rw [iterJ_next' g2]
  by_cases c3 : s = w3
  · rw [if_pos c3] at g3 ⊢
    exact iterJ_done g3
  rw [if_neg c3] at g3 ⊢
  rw [iterJ_next' g3]
  by_cases c4 : s = w4
  · rw [if_pos c4] at g4 ⊢
    exact iterJ_done g4
  rw [if_neg c4] at g4 ⊢
  rw [iterJ_next' g4]
  exact iterJ_done h5

theorem kind_word {k : Nat} {w : Bs} (h : ([w0, w1, w2, w3, w4] : List Bs)[k]? = some w) : k < 5 ∧ kindV (k : Int) = .tup [.str w, .bool true] := by
  have hk : k < 5 := (List.getElem?_eq_some_iff.1 h).1
  match k, hk with
  | 0, _ => simp at h; subst h; exact ⟨by decide, rfl⟩
  | 1, _ => simp at h; subst h; exact ⟨by decide, rfl⟩
  | 2, _ => simp at h; subst h; exact ⟨by decide, rfl⟩
  | 3, _ => simp at h; subst h; exact ⟨by decide, rfl⟩
  | 4, _ => simp at h; subst h; exact ⟨by decide, rfl⟩

theorem e14 {n : Nat} (hn : 10 ≤ n) (s : Bs) : cpJ PR n 14 [.str s] = some (kofV s) := by
  obtain ⟨n, rfl⟩ : ∃ m, n = m + 1 := ⟨n - 1, by omega⟩
  rw [u14]
  obtain ⟨q, rfl⟩ : ∃ q, n = q + 6 := ⟨n - 6, by omega⟩
  have h := unroll5 (f := L14_0 (cpJ PR (q + 6)) (ciJ PR (q + 6)) (q + 6) (.str s)) (σ := emptySto) (a := .bool false) (b := .int .i64 0) (s := s) (m := q) (fun k w hw => by
    obtain ⟨hk, hv⟩ := kind_word hw
    have he := e12 (n := q + 6) (by omega) (k : Int)
    rw [hv] at he
    have hk' : (k : Int) ≤ 4 := by omega
    have hw' := wrap_succ (i := k) (by omega)
    simp only [Int.natCast_add, Int.natCast_one] at hw'
    by_cases c : s = w
    · subst c
      simp -implicitDefEqProofs [L14_0, B14_0, hk', he]
    · have c' : (w == s) = false := by simpa using Ne.symm c
      simp -implicitDefEqProofs [L14_0, B14_0, hk', he, c, c', hw']) (by simp -implicitDefEqProofs [L14_0, B14_0])
  simp only [Int.natCast_zero] at h
  have hk : (kofV s).handBack emptySto = some (kofV s) := by unfold kofV; repeat (first | split | rfl)
  simp -implicitDefEqProofs [D14, h, hk]

theorem e15 {n : Nat} (hn : 10 ≤ n) (s : Bs) : cpJ PR n 15 [.str s] = some (kofV s) := by
  obtain ⟨n, rfl⟩ : ∃ m, n = m + 1 := ⟨n - 1, by omega⟩
  have h30 := e30 (n := n) (by omega)
  rw [u15]
  obtain ⟨q, rfl⟩ : ∃ q, n = q + 6 := ⟨n - 6, by omega⟩
  have h := unroll5 (f := L15_0 (cpJ PR (q + 6)) (ciJ PR (q + 6)) (q + 6) (.str s) wordsD) (σ := emptySto) (a := .bool false) (b := .int .i64 0) (s := s) (m := q) (fun k w hw => by
    obtain ⟨hk, hv⟩ := kind_word hw
    have hk' : (k : Int) < 5 := by omega
    have hw' := wrap_succ (i := k) (by omega)
    simp only [Int.natCast_add, Int.natCast_one] at hw'
    have hg : ([[.str w0], [.str w1], [.str w2], [.str w3], [.str w4]] : List (List DVal))[k]? = some [.str w] := by
      have : ([[.str w0], [.str w1], [.str w2], [.str w3], [.str w4]] : List (List DVal)) = ([w0, w1, w2, w3, w4] : List Bs).map fun t => [.str t] := rfl
      rw [this, List.getElem?_map, hw]
      rfl
    by_cases c : s = w
    · subst c
      simp -implicitDefEqProofs [L15_0, B15_0, hk', hg]
    · have c' : (w == s) = false := by simpa using Ne.symm c
      simp -implicitDefEqProofs [L15_0, B15_0, hk', hg, c, c', hw']) (by simp -implicitDefEqProofs [L15_0, B15_0])
  simp only [Int.natCast_zero] at h
  have hk : (kofV s).handBack emptySto = some (kofV s) := by unfold kofV; repeat (first | split | rfl)
  simp -implicitDefEqProofs [D15, h30, h, hk]

/-! Sizes -/

def shortV (l : List Bs) : Bool := l.all fun t => decide (t.length ≤ 300)

theorem l10 {n : Nat} (l : List Bs) (hl : l.length ≤ 1000) (own : Nat) (u : DVal) (σ : Sto) : ∀ (k i m : Nat), i + k = l.length → k < m →
    iterJ 0 (L10_0 (cpJ PR n) (ciJ PR n) n (.slice false own 1 (l.map fun t => [.str t])) (.int .i64 l.length)) m [.int .i64 i, u] σ = some (.done (.bool (shortV (l.drop i))) σ) := by
  intro k
  induction k with
  | zero =>
    intro i m hi hm
    obtain ⟨m, rfl⟩ : ∃ q, m = q + 1 := ⟨m - 1, by omega⟩
    have hi' : ¬ ((i : Int) < l.length) := by omega
    rw [List.drop_eq_nil_of_le (by omega)]
    refine iterJ_done ?_
    simp -implicitDefEqProofs [L10_0, B10_0, hi', shortV]
  | succ k ih =>
    intro i m hi hm
    obtain ⟨m, rfl⟩ : ∃ q, m = q + 1 := ⟨m - 1, by omega⟩
    have hi' : ((i : Int) < l.length) := by omega
    have hw := wrap_succ (i := i) (by omega)
    simp only [Int.natCast_add, Int.natCast_one] at hw
    obtain ⟨x, hx⟩ := get_some (by omega : i < l.length)
    rw [drop_get hx]
    by_cases h : x.length ≤ 300
    · have h' : ¬ (300 : Int) < x.length := by omega
      rw [iterJ_next' (vs' := [.int .i64 ((i + 1 : Nat) : Int), u]) (σ' := σ) (by simp -implicitDefEqProofs [L10_0, B10_0, hi', hx, h', hw]), ih (i + 1) m (by omega) (by omega)]
      simp [shortV, h]
    · have h' : (300 : Int) < x.length := by omega
      refine iterJ_done ?_
      simp -implicitDefEqProofs [L10_0, B10_0, hi', hx, h', shortV, h]

theorem e10 {n : Nat} (hn : 1010 ≤ n) (l : List Bs) (hl : l.length ≤ 1000) (own : Nat) : cpJ PR n 10 [.slice false own 1 (l.map fun t => [.str t])] = some (.bool (shortV l)) := by
  obtain ⟨n, rfl⟩ : ∃ m, n = m + 1 := ⟨n - 1, by omega⟩
  rw [u10]
  have h := l10 (n := n) l hl own (.bool false) emptySto l.length 0 n (by omega) (by omega)
  simp only [Int.natCast_zero, List.drop_zero] at h
  simp -implicitDefEqProofs [D10, h]

theorem short1 {n : Nat} (hn : 1010 ≤ n) (a : Bs) : cpJ PR n 10 [.slice false 1 1 [[.str a]]] = some (.bool (shortV [a])) := e10 hn [a] (by simp) 1
theorem short2 {n : Nat} (hn : 1010 ≤ n) (a b : Bs) : cpJ PR n 10 [.slice false 1 1 [[.str a], [.str b]]] = some (.bool (shortV [a, b])) := e10 hn [a, b] (by simp) 1
theorem short3 {n : Nat} (hn : 1010 ≤ n) (a b c : Bs) : cpJ PR n 10 [.slice false 1 1 [[.str a], [.str b], [.str c]]] = some (.bool (shortV [a, b, c])) := e10 hn [a, b, c] (by simp) 1

/-- The law of Check, Path, Stem, Kind and KindOf. -/
theorem e3 {n : Nat} (hn : 100100 ≤ n) (aw : cpJ PR n 11 [] = some (.bool true)) (s : Bs) (k : Int) :
    cpJ PR (n + 1) 3 [.str s, .int .i64 k] = some (.bool true) := by
  have hs := short1 (n := n) (by omega) s
  rw [u3]
  cases hsh : shortV [s] with
  | false =>
    rw [hsh] at hs
    simp -implicitDefEqProofs [D3, hs, aw]
  | true =>
    rw [hsh] at hs
    have hle : s.length ≤ 300 := by simpa [shortV] using hsh
    have h1 := e12 (n := n) (by omega) k
    have h2 := e13 (n := n) (by omega) k
    have h3 := e14 (n := n) (by omega) s
    have h4 := e15 (n := n) (by omega) s
    have h5 := e16 (n := n) (by omega) s (by omega)
    have h6 := e17 (n := n) (by omega) s (by omega)
    have h7 := e18 (n := n) (by omega) s (by omega)
    have h8 := e19 (n := n) (by omega) s (by omega)
    have h9 := e20 (n := n) (by omega) s (by omega)
    have h10 := e21 (n := n) (by omega) s (by omega)
    obtain ⟨kw, kb, hk⟩ : ∃ w b, kindV k = .tup [.str w, .bool b] := by
      unfold kindV
      repeat (first | split | exact ⟨_, _, rfl⟩)
    obtain ⟨ki, kb', hk'⟩ : ∃ (i : Int) (b : Bool), kofV s = .tup [.int .i64 i, .bool b] := by
      unfold kofV
      repeat (first | split | exact ⟨_, _, rfl⟩)
    rw [hk] at h1 h2
    rw [hk'] at h3 h4
    simp -implicitDefEqProofs [D3, hs, h1, h2, h3, h4, h5, h6, h7, h8, h9, h10, aw]

end Go.Proofs.YtdnoonnanhnkaaaDoor
