/- What the functions that check lists of names answer. -/
import Derived.Test.YticbfdcfopilfaaDoorLevS
set_option linter.unusedVariables false
set_option linter.unusedSimpArgs false
set_option maxRecDepth 20000
set_option maxHeartbeats 2000000
namespace Go.Proofs.YticbfdcfopilfaaDoor
open Go

/-- A proper name. -/
def okName (s : List UInt8) : Bool := decide (s.length ≤ 32) && wordV s

/-- Proper names behind others. -/
def distB : List (List UInt8) → List (List UInt8) → Bool
  | _, [] => true
  | pre, s :: rest => okName s && !decide (s ∈ pre) && distB (pre ++ [s]) rest

theorem l58 {n : Nat} (z : Bool) (l : List (List UInt8)) (hl : l.length < 1000) (hs : ∀ s ∈ l, s.length < 10000) (hn : 20000 ≤ n) (σ : Sto) : ∀ (k i m : Nat) (b : DVal), i + k = l.length → k < m →
    iterJ 0 (L58_0 (cpJ PR n) (ciJ PR n) n (strsD z l) (.int .i64 l.length)) m [.int .i64 i, b] σ = some (.done (.bool (distB (l.take i) (l.drop i))) σ) := by
  intro k
  induction k with
  | zero =>
    intro i m b hi hm
    obtain ⟨m, rfl⟩ : ∃ q, m = q + 1 := ⟨m - 1, by omega⟩
    have hi' : ¬ ((i : Int) < l.length) := by omega
    refine iterJ_done ?_
    rw [List.drop_eq_nil_of_le (by omega)]
    simp -implicitDefEqProofs [L58_0, B58_0, hi', distB]
  | succ k ih =>
    intro i m b hi hm
    obtain ⟨m, rfl⟩ : ∃ q, m = q + 1 := ⟨m - 1, by omega⟩
    have hi' : ((i : Int) < l.length) := by omega
    have hle : i ≤ l.length := by omega
    obtain ⟨x, hx⟩ := get_some (by omega : i < l.length)
    have hxl := hs x (List.mem_of_getElem? hx)
    have h1 := e60 (n := n) x (by omega) (by omega)
    have h2 := e68 (n := n) (z && l.isEmpty) (l.take i) x (by simp; omega) (by simp; omega)
    simp only [strsD, List.map_take] at h2
    rw [drop_get hx, distB, ← take_get hx]
    have hnext : (okName x && !decide (x ∈ l.take i)) = true → L58_0 (cpJ PR n) (ciJ PR n) n (strsD z l) (.int .i64 l.length) [.int .i64 i, b] σ = some (.next 0 [.int .i64 ((i + 1 : Nat) : Int), b] σ) := by
      intro h
      simp only [okName, Bool.and_eq_true, decide_eq_true_eq, Bool.not_eq_true', decide_eq_false_iff_not] at h
      obtain ⟨⟨a1, a2⟩, a3⟩ := h
      have a1' : ¬ (32 : Int) < x.length := by omega
      simp only [a2] at h1
      simp only [a3, decide_false] at h2
      simp -implicitDefEqProofs [L58_0, B58_0, hi', hx, a1', h1, hle, h2]
      exact wrap_succ (by omega)
    have hdone : (okName x && !decide (x ∈ l.take i)) = false → L58_0 (cpJ PR n) (ciJ PR n) n (strsD z l) (.int .i64 l.length) [.int .i64 i, b] σ = some (.done (.bool false) σ) := by
      intro h
      by_cases a1 : (32 : Int) < x.length
      · simp -implicitDefEqProofs [L58_0, B58_0, hi', hx, a1]
      · cases a2 : wordV x with
        | false =>
          rw [a2] at h1
          simp -implicitDefEqProofs [L58_0, B58_0, hi', hx, a1, h1]
        | true =>
          rw [a2] at h1
          have a3 : x ∈ l.take i := by
            have : decide (x.length ≤ 32) = true := by simp; omega
            simpa [okName, a2, this] using h
          simp only [a3, decide_true] at h2
          simp -implicitDefEqProofs [L58_0, B58_0, hi', hx, a1, h1, hle, h2]
    cases hb : (okName x && !decide (x ∈ l.take i)) with
    | true =>
      rw [iterJ_next' (hnext hb), ih (i + 1) m b (by omega) (by omega), Bool.true_and]
    | false =>
      rw [Bool.false_and]
      exact iterJ_done (hdone hb)

/-- Proper names. -/
def properB (most : Int) (l : List (List UInt8)) : Bool := decide ((l.length : Int) ≤ most) && distB [] l

theorem e58 {n : Nat} (z : Bool) (l : List (List UInt8)) (hl : l.length < 1000) (hs : ∀ s ∈ l, s.length < 10000) (hn : 20001 ≤ n) (most : Int) : cpJ PR n 58 [strsD z l, .int .i64 most] = some (.bool (properB most l)) := by
  obtain ⟨n, rfl⟩ : ∃ m, n = m + 1 := ⟨n - 1, by omega⟩
  have := l58 (n := n) z l hl hs (by omega) emptySto l.length 0 n (.bool false) (by omega) (by omega)
  rw [u58]
  simp only [Int.natCast_zero, List.drop_zero, List.take_zero] at this
  by_cases h : most < l.length
  · have h' : ¬ (l.length : Int) ≤ most := by omega
    simp -implicitDefEqProofs [D58, h, properB, h']
  · have h' : (l.length : Int) ≤ most := by omega
    simp -implicitDefEqProofs [D58, h, properB, h', this]

theorem e46 {n : Nat} (z z' : Bool) (l l' : List (List UInt8)) (hl : l.length < 1000) (hs : ∀ s ∈ l, s.length < 10000) (hl' : l'.length < 1000) (hs' : ∀ s ∈ l', s.length < 10000) (hn : 20002 ≤ n) :
    cpJ PR n 46 [strsD z l, strsD z' l'] = some (.bool (properB 16 l && properB 64 l')) := by
  obtain ⟨n, rfl⟩ : ∃ m, n = m + 1 := ⟨n - 1, by omega⟩
  rw [u46]
  simp -implicitDefEqProofs +contextual [D46, e58 (n := n) z l hl hs (by omega), e58 (n := n) z' l' hl' hs' (by omega)]

/-! The reference -/

theorem idxAt_lt (s : List UInt8) : ∀ (l : List (List UInt8)) (i j : Nat), l[j]? = some s → (idxAt s l i < ((i + j : Nat) : Int) ↔ s ∈ l.take j)
  | [], i, j, h => by simp at h
  | x :: xs, i, j, h => by
    unfold idxAt
    by_cases e : x = s
    · simp only [e, if_true]
      cases j with
      | zero => simp
      | succ j => simp; omega
    · have e' : ¬ s = x := fun h => e h.symm
      simp only [e, if_false]
      cases j with
      | zero => simp only [List.getElem?_cons_zero, Option.some.injEq] at h; exact absurd h e
      | succ j =>
        have := idxAt_lt s xs (i + 1) j (by simpa using h)
        rw [show i + 1 + j = i + (j + 1) by omega] at this
        rw [this]
        simp [e']

/-- The inner loop: all bytes of a name. -/
theorem l63_0 {n : Nat} (z : Bool) (l : List (List UInt8)) (hl : l.length < 1000) (hn : 20000 ≤ n) (i : Nat) (s : List UInt8) (hi : l[i]? = some s) (hs : s.length < 10000) (σ : Sto) : ∀ (k j m : Nat) (b : DVal), j + k = s.length → k < m →
    iterJ 1 (L63_0 (cpJ PR n) (ciJ PR n) n (strsD z l) (.int .i64 i)) m [.int .i64 j, b] σ = if (s.drop j).all isL then some (.next 0 [.int .i64 ((i + 1 : Nat) : Int), b] σ) else some (.done (.bool false) σ) := by
  intro k
  induction k with
  | zero =>
    intro j m b hj hm
    obtain ⟨m, rfl⟩ : ∃ q, m = q + 1 := ⟨m - 1, by omega⟩
    have hj' : ¬ ((j : Int) < s.length) := by omega
    rw [List.drop_eq_nil_of_le (by omega)]
    refine iterJ_out ?_ (by decide)
    simp -implicitDefEqProofs [L63_0, B63_0, hi, hj']
    exact wrap_succ (by have := (List.getElem?_eq_some_iff.1 hi).1; omega)
  | succ k ih =>
    intro j m b hj hm
    obtain ⟨m, rfl⟩ : ∃ q, m = q + 1 := ⟨m - 1, by omega⟩
    have hj' : ((j : Int) < s.length) := by omega
    obtain ⟨x, hx⟩ := get_some (by omega : j < s.length)
    have he := e72 (n := n) (by omega) x.toNat
    rw [drop_get hx]
    cases hb : chV x.toNat with
    | true =>
      rw [hb] at he
      rw [iterJ_next' (vs' := [.int .i64 ((j + 1 : Nat) : Int), b]) (σ' := σ) (by simp -implicitDefEqProofs [L63_0, B63_0, hi, hj', hx, he]; exact wrap_succ (by omega)), ih (j + 1) m b (by omega) (by omega)]
      simp [isL, hb]
    | false =>
      rw [hb] at he
      rw [iterJ_done (v := .bool false) (σ' := σ) (by simp -implicitDefEqProofs [L63_0, B63_0, hi, hj', hx, he])]
      simp [isL, hb]

theorem l63_1 {n : Nat} (z : Bool) (l : List (List UInt8)) (hl : l.length < 1000) (hs : ∀ s ∈ l, s.length < 10000) (hn : 20000 ≤ n) (σ : Sto) : ∀ (k i m : Nat) (b : DVal), i + k = l.length → k < m →
    iterJ 0 (L63_1 (cpJ PR n) (ciJ PR n) n (strsD z l)) m [.int .i64 i, b] σ = some (.done (.bool (distB (l.take i) (l.drop i))) σ) := by
  intro k
  induction k with
  | zero =>
    intro i m b hi hm
    obtain ⟨m, rfl⟩ : ∃ q, m = q + 1 := ⟨m - 1, by omega⟩
    have hi' : ¬ ((i : Int) < l.length) := by omega
    refine iterJ_done ?_
    rw [List.drop_eq_nil_of_le (by omega)]
    simp -implicitDefEqProofs [L63_1, B63_1, hi', distB]
  | succ k ih =>
    intro i m b hi hm
    obtain ⟨m, rfl⟩ : ∃ q, m = q + 1 := ⟨m - 1, by omega⟩
    have hi' : ((i : Int) < l.length) := by omega
    obtain ⟨x, hx⟩ := get_some (by omega : i < l.length)
    have hxl := hs x (List.mem_of_getElem? hx)
    have h1 := e52 (n := n) z l x (by omega) (by omega)
    have h2 := idxAt_lt x l 0 i hx
    have h3 := l63_0 z l hl hn i x hx hxl σ x.length 0 n b (by omega) (by omega)
    simp only [Int.natCast_zero, List.drop_zero] at h3
    simp only [Nat.zero_add] at h2
    rw [drop_get hx, distB, ← take_get hx]
    by_cases a1 : (x.length : Int) < 1
    · refine iterJ_done ?_
      have hx0 : x = [] := List.eq_nil_of_length_eq_zero (by omega)
      simp -implicitDefEqProofs [L63_1, B63_1, hi', hx, a1]
      simp [okName, wordV, hx0]
    · by_cases a2 : (32 : Int) < x.length
      · refine iterJ_done ?_
        have : ¬ x.length ≤ 32 := by omega
        simp -implicitDefEqProofs [L63_1, B63_1, hi', hx, a1, a2, okName, this]
      · by_cases a3 : x ∈ l.take i
        · refine iterJ_done ?_
          have a3' : idxAt x l 0 < (i : Int) := h2.2 a3
          simp -implicitDefEqProofs [L63_1, B63_1, hi', hx, a1, a2, h1, a3', a3]
        · have a3' : ¬ idxAt x l 0 < (i : Int) := fun h => a3 (h2.1 h)
          have hw : okName x = x.all isL := by
            have b1 : x.length ≤ 32 := by omega
            have b2 : x.isEmpty = false := by cases x with
              | nil => simp at a1
              | cons => rfl
            simp [okName, wordV, b1, b2]
          have hstep : L63_1 (cpJ PR n) (ciJ PR n) n (strsD z l) [.int .i64 i, b] σ = iterJ 1 (L63_0 (cpJ PR n) (ciJ PR n) n (strsD z l) (.int .i64 i)) n [.int .i64 0, b] σ := by
            simp -implicitDefEqProofs [L63_1, B63_1, hi', hx, a1, a2, h1, a3']
          rw [h3] at hstep
          rw [hw]
          cases hb : x.all isL with
          | true =>
            rw [hb] at hstep
            rw [if_pos rfl] at hstep
            rw [iterJ_next' hstep, ih (i + 1) m b (by omega) (by omega)]
            simp [a3]
          | false =>
            rw [hb] at hstep
            rw [if_neg (by decide)] at hstep
            rw [iterJ_done hstep]
            simp

theorem e63 {n : Nat} (z : Bool) (l : List (List UInt8)) (hl : l.length < 1000) (hs : ∀ s ∈ l, s.length < 10000) (hn : 20001 ≤ n) (most : Int) : cpJ PR n 63 [strsD z l, .int .i64 most] = some (.bool (properB most l)) := by
  obtain ⟨n, rfl⟩ : ∃ m, n = m + 1 := ⟨n - 1, by omega⟩
  have := l63_1 (n := n) z l hl hs (by omega) emptySto l.length 0 n (.bool false) (by omega) (by omega)
  rw [u63]
  simp only [Int.natCast_zero, List.drop_zero, List.take_zero] at this
  by_cases h : most < l.length
  · have h' : ¬ (l.length : Int) ≤ most := by omega
    simp -implicitDefEqProofs [D63, h, properB, h']
  · have h' : (l.length : Int) ≤ most := by omega
    simp -implicitDefEqProofs [D63, h, properB, h', this]

theorem e49 {n : Nat} (z z' : Bool) (l l' : List (List UInt8)) (hl : l.length < 1000) (hs : ∀ s ∈ l, s.length < 10000) (hl' : l'.length < 1000) (hs' : ∀ s ∈ l', s.length < 10000) (hn : 20002 ≤ n) :
    cpJ PR n 49 [strsD z l, strsD z' l'] = some (.bool (properB 16 l && properB 64 l')) := by
  obtain ⟨n, rfl⟩ : ∃ m, n = m + 1 := ⟨n - 1, by omega⟩
  rw [u49]
  simp -implicitDefEqProofs +contextual [D49, e63 (n := n) z l hl hs (by omega), e63 (n := n) z' l' hl' hs' (by omega)]

end Go.Proofs.YticbfdcfopilfaaDoor
