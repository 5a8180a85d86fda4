/- What the functions that compare levels and ranges answer, and the laws about them, but for what the library is asked. -/
import Derived.Test.YticbfdcfopilfaaDoorLevA
set_option linter.unusedVariables false
set_option linter.unusedSimpArgs false
set_option maxRecDepth 20000
set_option maxHeartbeats 2000000
namespace Go.Proofs.YticbfdcfopilfaaDoor
open Go

/-- The reference's Dominates, from category i on. -/
def refDomV (s : Int) (c : Nat) (s' : Int) (c' : Nat) (i : Nat) : Prop := (∀ j : Nat, i ≤ j → j < 64 → c'.testBit j = true → c.testBit j = true) ∧ s' ≤ s

noncomputable instance (s : Int) (c : Nat) (s' : Int) (c' : Nat) (i : Nat) : Decidable (refDomV s c s' c' i) := Classical.propDecidable _

theorem refDomV_succ {s : Int} {c : Nat} {s' : Int} {c' : Nat} {i : Nat} (h : i < 64) (hb : c'.testBit i = true → c.testBit i = true) : refDomV s c s' c' i ↔ refDomV s c s' c' (i + 1) := by
  unfold refDomV
  refine ⟨fun ⟨a, b⟩ => ⟨fun j hj => a j (by omega), b⟩, fun ⟨a, b⟩ => ⟨fun j hj h64 ht => ?_, b⟩⟩
  by_cases e : j = i
  · subst e; exact hb ht
  · exact a j (by omega) h64 ht

theorem l19 {n : Nat} (hn : 1 ≤ n) (s : Int) (c : Nat) (hc : c < 18446744073709551616) (s' : Int) (c' : Nat) (hc' : c' < 18446744073709551616) (σ : Sto) : ∀ (k i m : Nat) (b : DVal), i + k = 64 → k < m →
    iterJ 0 (L19_0 (cpJ PR n) (ciJ PR n) n (lv s c) (lv s' c')) m [.int .i64 i, b] σ = some (.done (.bool (decide (refDomV s c s' c' i))) σ) := by
  intro k
  induction k with
  | zero =>
    intro i m b hi hm
    obtain ⟨m, rfl⟩ : ∃ q, m = q + 1 := ⟨m - 1, by omega⟩
    obtain rfl : i = 64 := by omega
    refine iterJ_done ?_
    have : refDomV s c s' c' 64 ↔ s' ≤ s := ⟨fun h => h.2, fun h => ⟨fun j h1 h2 => by omega, h⟩⟩
    simp -implicitDefEqProofs [L19_0, B19_0, this]
  | succ k ih =>
    intro i m b hi hm
    obtain ⟨m, rfl⟩ : ∃ q, m = q + 1 := ⟨m - 1, by omega⟩
    have h64 : (i : Int) < 64 := by omega
    have hw : IntKind.i64.wrap ((i : Int) + 1) = ((i + 1 : Nat) : Int) := by rw [wrap_i64 (by omega) (by omega)]; rfl
    have he := e42 hn s c hc i
    have he' := e42 hn s' c' hc' i
    rw [hasC_lt _ i (by omega)] at he he'
    cases hb' : c'.testBit i with
    | false =>
      rw [iterJ_next' (vs' := [.int .i64 ((i + 1 : Nat) : Int), b]) (σ' := σ) (by simp -implicitDefEqProofs [L19_0, B19_0, h64, he', hb']; exact hw), ih (i + 1) m b (by omega) (by omega)]
      simp only [refDomV_succ (by omega : i < 64) (s := s) (c := c) (s' := s') (c' := c') (by simp [hb'])]
    | true =>
      cases hb : c.testBit i with
      | true =>
        rw [iterJ_next' (vs' := [.int .i64 ((i + 1 : Nat) : Int), b]) (σ' := σ) (by simp -implicitDefEqProofs [L19_0, B19_0, h64, he, he', hb, hb']; exact hw), ih (i + 1) m b (by omega) (by omega)]
        simp only [refDomV_succ (by omega : i < 64) (s := s) (c := c) (s' := s') (c' := c') (by simp [hb])]
      | false =>
        refine iterJ_done ?_
        have : ¬ refDomV s c s' c' i := fun h => by have := h.1 i (Nat.le_refl _) (by omega) hb'; rw [hb] at this; cases this
        simp -implicitDefEqProofs [L19_0, B19_0, h64, he, he', hb, hb', this]

/-- The two agree. -/
theorem dom_eq {s : Int} {c : Nat} {s' : Int} {c' : Nat} (hc' : c' < 18446744073709551616) : decide (refDomV s c s' c' 0) = domV s c s' c' := by
  unfold domV
  rw [← Bool.decide_and, decide_eq_decide]
  unfold refDomV
  constructor
  · rintro ⟨h1, h2⟩
    refine ⟨h2, Nat.eq_of_testBit_eq fun j => ?_⟩
    rw [Nat.testBit_and]
    by_cases hj : j < 64
    · cases hb : c'.testBit j with
      | false => simp
      | true => simp [h1 j (Nat.zero_le _) hj hb]
    · have : c'.testBit j = false := Nat.testBit_lt_two_pow (Nat.lt_of_lt_of_le hc' (Nat.pow_le_pow_right (n := 2) (by decide) (by omega : 64 ≤ j)))
      simp [this]
  · rintro ⟨h1, h2⟩
    refine ⟨fun j _ hj hb => ?_, h1⟩
    rw [← h2, Nat.testBit_and, Bool.and_eq_true] at hb
    exact hb.1

theorem e19 {n : Nat} (hn : 70 ≤ n) (s : Int) (c : Nat) (hc : c < 18446744073709551616) (s' : Int) (c' : Nat) (hc' : c' < 18446744073709551616) : cpJ PR n 19 [lv s c, lv s' c'] = some (.bool (domV s c s' c')) := by
  obtain ⟨n, rfl⟩ : ∃ m, n = m + 1 := ⟨n - 1, by omega⟩
  have := l19 (n := n) (by omega) s c hc s' c' hc' emptySto 64 0 n (.bool false) (by omega) (by omega)
  rw [u19]
  simp only [Int.natCast_zero, dom_eq hc'] at this
  simp -implicitDefEqProofs [D19, this]

/-- The two checks agree. -/
theorem check_eq {s : Int} {c : Nat} (hc : c < 18446744073709551616) (sens cats : Int) : decide (refCheckV s c sens cats 0) = checkV s c sens cats := by
  unfold checkV
  have key : (∀ j : Nat, 0 ≤ j → j < 64 → c.testBit j = true → (j : Int) < cats) ↔ (64 ≤ cats ∨ c >>> (max cats 0).toNat = 0) := by
    constructor
    · intro h
      by_cases h64 : 64 ≤ cats
      · exact .inl h64
      · refine .inr (Nat.eq_of_testBit_eq fun j => ?_)
        rw [Nat.testBit_shiftRight, Nat.zero_testBit]
        cases hb : c.testBit ((max cats 0).toNat + j) with
        | false => rfl
        | true =>
          have hlt : (max cats 0).toNat + j < 64 := by
            refine Nat.lt_of_not_le fun hge => ?_
            have : c.testBit ((max cats 0).toNat + j) = false := Nat.testBit_lt_two_pow (Nat.lt_of_lt_of_le hc (Nat.pow_le_pow_right (n := 2) (by decide) hge))
            rw [this] at hb; cases hb
          have := h _ (Nat.zero_le _) hlt hb
          omega
    · rintro (h | h) j - hj hb
      · omega
      · refine Int.lt_of_not_ge fun hge => ?_
        have e : c.testBit ((max cats 0).toNat + (j - (max cats 0).toNat)) = true := by rw [show (max cats 0).toNat + (j - (max cats 0).toNat) = j by omega]; exact hb
        rw [← Nat.testBit_shiftRight, h, Nat.zero_testBit] at e
        cases e
  by_cases h1 : s < 0
  · have : ¬ refCheckV s c sens cats 0 := fun h => by have := h.2.1; omega
    simp [h1, this]
  · by_cases h2 : sens ≤ s
    · have : ¬ refCheckV s c sens cats 0 := fun h => by have := h.2.2; omega
      simp [h1, h2, this]
    · by_cases h3 : 64 ≤ cats
      · have : refCheckV s c sens cats 0 := ⟨key.2 (.inl h3), by omega, by omega⟩
        simp [h1, h2, h3, this]
      · simp only [h1, h2, h3, if_false]
        rw [decide_eq_decide]
        constructor
        · intro h; rcases key.1 h.1 with h' | h'
          · exact absurd h' h3
          · exact h'
        · intro h; exact ⟨key.2 (.inr h), by omega, by omega⟩

theorem e15 {n : Nat} (hn : 80 ≤ n) (s : Int) (c : Nat) (hc : c < 18446744073709551616) (s' : Int) (c' : Nat) (hc' : c' < 18446744073709551616) (sens cats : Int) :
    cpJ PR n 15 [rg s c s' c', .int .i64 sens, .int .i64 cats] = some (.bool (checkV s c sens cats && checkV s' c' sens cats && domV s' c' s c)) := by
  obtain ⟨n, rfl⟩ : ∃ m, n = m + 1 := ⟨n - 1, by omega⟩
  have h1 := e13 (n := n) (by omega) s c hc sens cats
  have h2 := e13 (n := n) (by omega) s' c' hc' sens cats
  have h3 := e19 (n := n) (by omega) s' c' hc' s c hc
  rw [check_eq hc] at h1
  rw [check_eq hc'] at h2
  rw [u15]
  simp -implicitDefEqProofs +contextual [D15, h1, h2, h3]

/-- The law of Check and CheckRange. -/
theorem e3 {n : Nat} (hn : 100 ≤ n) (aw : cpJ PR n 16 [] = some (.bool true)) (s : Int) (c : Nat) (hc : c < 18446744073709551616) (s' : Int) (c' : Nat) (hc' : c' < 18446744073709551616) (sens cats : Int) :
    cpJ PR (n + 1) 3 [rg s c s' c', .int .i64 sens, .int .i64 cats] = some (.bool true) := by
  have h1 := e13 (n := n) (by omega) s c hc sens cats
  have h2 := e12 (n := n) (by omega) s c sens cats
  have h3 := e14 (n := n) (by omega) s c hc s' c' hc' sens cats
  have h4 := e15 (n := n) (by omega) s c hc s' c' hc' sens cats
  rw [check_eq hc] at h1
  rw [u3]
  simp -implicitDefEqProofs +contextual [D3, h1, h2, h3, h4, aw]

end Go.Proofs.YticbfdcfopilfaaDoor
