/- What the functions about single levels answer. -/
import Derived.Test.YticbfdcfopilfaaDoorLevU
set_option linter.unusedVariables false
set_option linter.unusedSimpArgs false
set_option maxRecDepth 20000
set_option maxHeartbeats 2000000
namespace Go.Proofs.YticbfdcfopilfaaDoor
open Go

abbrev lv (s : Int) (c : Nat) : DVal := .agg [.int .i64 s, .int .u64 c]
/-- A range. -/
abbrev rg (s : Int) (c : Nat) (s' : Int) (c' : Nat) : DVal := .agg [.int .i64 s, .int .u64 c, .int .i64 s', .int .u64 c']

theorem shr_nat (c : Nat) (k : Nat) : ((c : Int).fdiv (2 ^ k)) = ((c >>> k : Nat) : Int) := by
  rw [Nat.shiftRight_eq_div_pow, Int.fdiv_eq_ediv_of_nonneg _ (by exact Int.le_of_lt (Int.pow_pos (by decide)))]
  simp

theorem wrap_u64 {x : Int} (h0 : 0 ≤ x) (h1 : x < 18446744073709551616) : IntKind.u64.wrap x = x := by
  simp -implicitDefEqProofs [IntKind.wrap, IntKind.bits, IntKind.signed]
  omega

theorem wrap_i64 {x : Int} (h0 : -9223372036854775808 ≤ x) (h1 : x < 9223372036854775808) : IntKind.i64.wrap x = x := by
  simp -implicitDefEqProofs [IntKind.wrap, IntKind.bits, IntKind.signed]
  omega

theorem and_nat (a b : Nat) (ha : a < 18446744073709551616) (hb : b < 18446744073709551616) : intBits .and .u64 (a : Int) (b : Int) = ((a &&& b : Nat) : Int) := by
  have h : (BitVec.ofInt IntKind.u64.bits (a : Int) &&& BitVec.ofInt IntKind.u64.bits (b : Int)).toNat = a &&& b := by
    rw [BitVec.toNat_and]
    simp -implicitDefEqProofs [BitVec.toNat_ofInt, IntKind.bits]
    rw [Nat.mod_eq_of_lt ha, Nat.mod_eq_of_lt hb]
  simp only [intBits, h]
  exact wrap_u64 (by omega) (by have := @Nat.and_le_left a b; omega)

theorem or_lt {a b : Nat} (ha : a < 18446744073709551616) (hb : b < 18446744073709551616) : a ||| b < 18446744073709551616 := Nat.or_lt_two_pow (n := 64) ha hb
theorem and_lt {a b : Nat} (ha : a < 18446744073709551616) : a &&& b < 18446744073709551616 := Nat.lt_of_le_of_lt Nat.and_le_left ha

theorem or_nat (a b : Nat) (ha : a < 18446744073709551616) (hb : b < 18446744073709551616) : intBits .or .u64 (a : Int) (b : Int) = ((a ||| b : Nat) : Int) := by
  have h : (BitVec.ofInt IntKind.u64.bits (a : Int) ||| BitVec.ofInt IntKind.u64.bits (b : Int)).toNat = a ||| b := by
    rw [BitVec.toNat_or]
    simp -implicitDefEqProofs [BitVec.toNat_ofInt, IntKind.bits]
    rw [Nat.mod_eq_of_lt ha, Nat.mod_eq_of_lt hb]
  simp only [intBits, h]
  exact wrap_u64 (by omega) (by have := or_lt ha hb; omega)

/-- Does a level have a category? -/
def hasC (c : Nat) (k : Int) : Bool := decide (0 ≤ k) && decide (k < 64) && c.testBit k.toNat

theorem shift_one (c : Nat) (k : Nat) : decide ((((c >>> k) &&& 1 : Nat) : Int) = 1) = c.testBit k := by
  rw [Nat.testBit, Nat.and_comm]
  have h : (1 &&& c >>> k) = 0 ∨ (1 &&& c >>> k) = 1 := by
    rw [Nat.and_comm, Nat.and_one_is_mod]
    omega
  rcases h with h | h <;> rw [h] <;> rfl

theorem shr_lt {c : Nat} (hc : c < 18446744073709551616) (k : Nat) : c >>> k < 18446744073709551616 := by
  have : c >>> k ≤ c := by rw [Nat.shiftRight_eq_div_pow]; exact Nat.div_le_self _ _
  omega

/-- The bit, as the programs ask for it. -/
theorem bit_eq (c : Nat) (hc : c < 18446744073709551616) (j : Nat) : intBits .and .u64 ((c : Int).fdiv (2 ^ j)) 1 = if c.testBit j then 1 else 0 := by
  have hand := and_nat (c >>> j) 1 (shr_lt hc j) (by decide)
  simp only [Int.natCast_one] at hand
  rw [shr_nat, hand]
  have := shift_one c j
  rw [Nat.and_one_is_mod] at this ⊢
  cases hb : c.testBit j <;> rw [hb] at this <;> simp at this ⊢ <;> omega

theorem hasC_lt (c : Nat) (k : Nat) (h : k < 64) : hasC c k = c.testBit k := by unfold hasC; simp; omega

theorem e42 {n : Nat} (hn : 1 ≤ n) (s : Int) (c : Nat) (hc : c < 18446744073709551616) (k : Int) : cpJ PR n 42 [lv s c, .int .i64 k] = some (.bool (hasC c k)) := by
  obtain ⟨n, rfl⟩ : ∃ m, n = m + 1 := ⟨n - 1, by omega⟩
  rw [u42]
  unfold hasC
  by_cases h0 : 0 ≤ k
  · by_cases h1 : k < 64
    · have hk : IntKind.u64.wrap k = k := wrap_u64 h0 (by omega)
      obtain ⟨j, rfl⟩ : ∃ j : Nat, k = j := ⟨k.toNat, by omega⟩
      have hj : ¬ ((j : Int) < 0) := by omega
      have hmin : min j 64 = j := by omega
      have hb := bit_eq c hc j
      simp only [D42, h0, h1]
      cases ht : c.testBit j <;> rw [ht] at hb <;> simp -implicitDefEqProofs [h0, h1, hk, hj, hmin, IntKind.bits, hb, ht, -Int.natCast_pow]
    · simp -implicitDefEqProofs [D42, h0, h1]
  · simp -implicitDefEqProofs [D42, h0]

/-- level.Check. -/
def checkV (s : Int) (c : Nat) (sens cats : Int) : Bool :=
  if s < 0 then false else if sens ≤ s then false else if 64 ≤ cats then true else decide (c >>> (max cats 0).toNat = 0)

theorem e12 {n : Nat} (hn : 1 ≤ n) (s : Int) (c : Nat) (sens cats : Int) : cpJ PR n 12 [lv s c, .int .i64 sens, .int .i64 cats] = some (.bool (checkV s c sens cats)) := by
  obtain ⟨n, rfl⟩ : ∃ m, n = m + 1 := ⟨n - 1, by omega⟩
  rw [u12]
  unfold checkV
  by_cases h1 : s < 0
  · simp -implicitDefEqProofs [D12, h1]
  · have h1' : 0 ≤ s := by omega
    by_cases h2 : sens ≤ s
    · simp -implicitDefEqProofs [D12, h1, h1', h2]
    · have h2' : s < sens := by omega
      by_cases h3 : 64 ≤ cats
      · simp -implicitDefEqProofs [D12, h1, h1', h2, h2', h3]
      · have h3' : cats < 64 := by omega
        have h4 : ¬ (if cats < 0 then (0 : Int) else cats) < 0 := by split <;> omega
        have h5 : (if cats < 0 then (0 : Int) else cats).toNat = (max cats 0).toNat := by split <;> omega
        have h6 : min (max cats 0).toNat 64 = (max cats 0).toNat := by omega
        have h7 := shr_nat c (max cats 0).toNat
        simp only [h1, h2, h3, if_false]
        simp -implicitDefEqProofs [D12, h1, h1', h2, h2', h3, h3', h4, IntKind.bits, -Int.natCast_pow]
        rw [h5, h6, h7]
        by_cases h : c >>> (max cats 0).toNat = 0
        · rw [h]; simp
        · simp only [h, decide_false]
          exact beq_eq_false_iff_ne.2 (by omega)

/-- The reference's Check, from category i on. -/
def refCheckV (s : Int) (c : Nat) (sens cats : Int) (i : Nat) : Prop := (∀ j : Nat, i ≤ j → j < 64 → c.testBit j = true → (j : Int) < cats) ∧ 0 ≤ s ∧ s < sens

noncomputable instance (s : Int) (c : Nat) (sens cats : Int) (i : Nat) : Decidable (refCheckV s c sens cats i) := Classical.propDecidable _

theorem refCheckV_succ {s : Int} {c : Nat} {sens cats : Int} {i : Nat} (h : i < 64) (hb : c.testBit i = true → (i : Int) < cats) : refCheckV s c sens cats i ↔ refCheckV s c sens cats (i + 1) := by
  unfold refCheckV
  refine ⟨fun ⟨a, b⟩ => ⟨fun j hj => a j (by omega), b⟩, fun ⟨a, b⟩ => ⟨fun j hj h64 ht => ?_, b⟩⟩
  by_cases e : j = i
  · subst e; exact hb ht
  · exact a j (by omega) h64 ht

theorem l13 {n : Nat} (hn : 1 ≤ n) (s : Int) (c : Nat) (hc : c < 18446744073709551616) (sens cats : Int) (σ : Sto) : ∀ (k i m : Nat) (b : DVal), i + k = 64 → k < m →
    iterJ 0 (L13_0 (cpJ PR n) (ciJ PR n) n (.int .i64 sens) (.int .i64 cats) (lv s c)) m [.int .i64 i, b] σ = some (.done (.bool (decide (refCheckV s c sens cats i))) σ) := by
  intro k
  induction k with
  | zero =>
    intro i m b hi hm
    obtain ⟨m, rfl⟩ : ∃ q, m = q + 1 := ⟨m - 1, by omega⟩
    obtain rfl : i = 64 := by omega
    refine iterJ_done ?_
    have : refCheckV s c sens cats 64 ↔ 0 ≤ s ∧ s < sens := ⟨fun h => h.2, fun h => ⟨fun j h1 h2 => by omega, h⟩⟩
    by_cases h0 : 0 ≤ s <;> by_cases h1 : s < sens <;> simp -implicitDefEqProofs [L13_0, B13_0, this, h0, h1]
  | succ k ih =>
    intro i m b hi hm
    obtain ⟨m, rfl⟩ : ∃ q, m = q + 1 := ⟨m - 1, by omega⟩
    have h64 : (i : Int) < 64 := by omega
    have hw : IntKind.i64.wrap ((i : Int) + 1) = ((i + 1 : Nat) : Int) := by rw [wrap_i64 (by omega) (by omega)]; rfl
    have he := e42 hn s c hc i
    rw [hasC_lt c i (by omega)] at he
    have hnext : ∀ b', L13_0 (cpJ PR n) (ciJ PR n) n (.int .i64 sens) (.int .i64 cats) (lv s c) [.int .i64 i, b] σ = some (.next 0 [.int .i64 ((i + 1 : Nat) : Int), b'] σ) → (c.testBit i = true → (i : Int) < cats) →
        iterJ 0 (L13_0 (cpJ PR n) (ciJ PR n) n (.int .i64 sens) (.int .i64 cats) (lv s c)) (m + 1) [.int .i64 i, b] σ = some (.done (.bool (decide (refCheckV s c sens cats i))) σ) := by
      intro b' h hb
      rw [iterJ_next' h, ih (i + 1) m b' (by omega) (by omega)]
      simp only [refCheckV_succ (by omega : i < 64) hb]
    cases hb : c.testBit i with
    | false =>
      rw [hb] at he
      refine hnext b ?_ (by simp -implicitDefEqProofs [hb])
      simp only [L13_0, B13_0]
      simp -implicitDefEqProofs [h64, he]
      exact hw
    | true =>
      rw [hb] at he
      by_cases hcat : cats ≤ (i : Int)
      · refine iterJ_done ?_
        have : ¬ refCheckV s c sens cats i := fun h => by have := h.1 i (Nat.le_refl _) (by omega) hb; omega
        simp -implicitDefEqProofs [L13_0, B13_0, h64, he, hcat, this]
      · refine hnext b ?_ (fun _ => by omega)
        simp only [L13_0, B13_0]
        simp -implicitDefEqProofs [h64, he, hcat]
        exact hw

theorem e13 {n : Nat} (hn : 70 ≤ n) (s : Int) (c : Nat) (hc : c < 18446744073709551616) (sens cats : Int) : cpJ PR n 13 [lv s c, .int .i64 sens, .int .i64 cats] = some (.bool (decide (refCheckV s c sens cats 0))) := by
  obtain ⟨n, rfl⟩ : ∃ m, n = m + 1 := ⟨n - 1, by omega⟩
  have := l13 (n := n) (by omega) s c hc sens cats emptySto 64 0 n (.bool false) (by omega) (by omega)
  rw [u13]
  simp only [D13]
  simp only [Int.natCast_zero] at this
  simp -implicitDefEqProofs [this]

/-- level.Dominates. -/
def domV (s : Int) (c : Nat) (s' : Int) (c' : Nat) : Bool := decide (s' ≤ s) && decide (c &&& c' = c')

theorem natInt_beq (a b : Nat) : (((a : Int) == (b : Int)) : Bool) = decide (a = b) := by
  by_cases e : a = b
  · rw [e]; simp
  · simp only [e, decide_false]
    exact beq_eq_false_iff_ne.2 (by omega)

theorem e17 {n : Nat} (hn : 1 ≤ n) (s : Int) (c : Nat) (hc : c < 18446744073709551616) (s' : Int) (c' : Nat) (hc' : c' < 18446744073709551616) : cpJ PR n 17 [lv s c, lv s' c'] = some (.bool (domV s c s' c')) := by
  obtain ⟨n, rfl⟩ : ∃ m, n = m + 1 := ⟨n - 1, by omega⟩
  rw [u17]
  simp -implicitDefEqProofs +contextual [D17, and_nat c c' hc hc', natInt_beq, domV]

theorem e14 {n : Nat} (hn : 2 ≤ n) (s : Int) (c : Nat) (hc : c < 18446744073709551616) (s' : Int) (c' : Nat) (hc' : c' < 18446744073709551616) (sens cats : Int) :
    cpJ PR n 14 [rg s c s' c', .int .i64 sens, .int .i64 cats] = some (.bool (checkV s c sens cats && checkV s' c' sens cats && domV s' c' s c)) := by
  obtain ⟨n, rfl⟩ : ∃ m, n = m + 1 := ⟨n - 1, by omega⟩
  rw [u14]
  simp -implicitDefEqProofs +contextual [D14, e12 (n := n) (by omega), e17 (n := n) (by omega), hc, hc']

end Go.Proofs.YticbfdcfopilfaaDoor
