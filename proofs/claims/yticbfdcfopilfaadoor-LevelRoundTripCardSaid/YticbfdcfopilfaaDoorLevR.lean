/- The runs of a set of categories: how the program finds them, and the reference. -/
import Derived.Test.YticbfdcfopilfaaDoorLevS2
set_option linter.unusedVariables false
set_option linter.unusedSimpArgs false
set_option maxRecDepth 20000
set_option maxHeartbeats 2000000
namespace Go.Proofs.YticbfdcfopilfaaDoor
open Go

/-! A slice that is appended to from nothing -/

def apd (σ : Sto) (sz : Nat) (es : List (List DVal)) : DVal × Sto :=
  match es with
  | [] => (.nils, σ)
  | e :: es => (.slice false (σ.ntok + 3) sz (e :: es), { σ with ntok := σ.ntok + 1, fr := upd σ.fr σ.ntok ((es.length + 1) * sz) })

theorem app_apd {σ : Sto} {sz own : Nat} {es : List (List DVal)} {r : List DVal} (hl : es.length + 1 ≤ 4294967296) :
    app2Sem false sz (apd σ sz es).2 [(apd σ sz es).1, .slice false own sz [r]] = some ((apd σ sz (es ++ [r])).1, (apd σ sz (es ++ [r])).2) := by
  cases es with
  | nil => simp [apd, app2Sem, appSem, elemsOf, DVal.szOk, maxAppend]
  | cons e es =>
    have h1 : es.length + 1 + 1 ≤ maxAppend := by simpa [maxAppend] using hl
    simp only [apd, List.cons_append, app2Sem, appSem, elemsOf, DVal.szOk, Bool.and_false, Bool.false_eq_true, if_false, Bool.not_true, Bool.or_self, List.length_cons, List.length_nil, Nat.zero_add, h1, and_self, if_true, List.isEmpty_cons, List.length_append]
    rw [if_neg (by simp), if_neg (by omega), if_pos ⟨by omega, by simp [upd]⟩]
    simp [upd_upd]

/-- A slice that a call hands back fresh. -/
def frD (sz : Nat) (es : List (List DVal)) : DVal :=
  match es with
  | [] => .nils
  | e :: es => .slice false 2 sz (e :: es)

@[simp] theorem stale_frD {sz : Nat} {es : List (List DVal)} : (frD sz es).stale = slD true sz es := by
  cases es <;> rfl
@[simp] theorem okVal_apd {σ : Sto} {sz : Nat} {es : List (List DVal)} : (apd σ sz es).1.okVal = true := by
  cases es <;> simp [apd, DVal.okVal, DVal.okCell]
@[simp] theorem okCell_apd {σ : Sto} {sz : Nat} {es : List (List DVal)} : (apd σ sz es).1.okCell = true := by
  cases es <;> simp [apd, DVal.okCell]
@[simp] theorem cells_apd {σ : Sto} {sz : Nat} {es : List (List DVal)} : (apd σ sz es).1.cells = [(apd σ sz es).1] := by
  cases es <;> simp [apd, DVal.cells]
@[simp] theorem seal_apd {σ : Sto} {sz : Nat} {es : List (List DVal)} : (apd σ sz es).1.sealCell = some (slD true sz es) := by
  cases es <;> simp [apd, DVal.sealCell, slD]
@[simp] theorem sealVal_apd {σ : Sto} {sz : Nat} {es : List (List DVal)} : (apd σ sz es).1.sealVal = some (slD true sz es) := by
  cases es <;> simp [apd, DVal.sealVal, DVal.sealCell, slD]
@[simp] theorem len_apd {σ : Sto} {sz : Nat} {es : List (List DVal)} : lenSlSem [(apd σ sz es).1] = some (.int .i64 es.length) := by
  cases es <;> simp [apd, lenSlSem, goI]
@[simp] theorem back_apd {σ : Sto} {sz : Nat} {es : List (List DVal)} : (apd σ sz es).1.handBack (apd σ sz es).2 = some (frD sz es) := by
  cases es with
  | nil => rfl
  | cons e es => simp [apd, DVal.handBack, upd, frD]

/-! Runs -/

def endR (c : Nat) : Nat → Nat → Nat
  | 0, t => t
  | k + 1, t => if t + 1 < 64 ∧ c.testBit (t + 1) = true then endR c k (t + 1) else t

def runsR (c : Nat) : Nat → Nat → List (Nat × Nat)
  | 0, _ => []
  | k + 1, i => if i < 64 then (if c.testBit i = true then (i, endR c 64 i) :: runsR c k (endR c 64 i + 1) else runsR c k (i + 1)) else []

theorem endR_le {c : Nat} : ∀ {k t : Nat}, t ≤ 63 → t ≤ endR c k t ∧ endR c k t ≤ 63
  | 0, t, h => ⟨Nat.le_refl _, h⟩
  | k + 1, t, h => by
    unfold endR
    split
    · rename_i hc
      have := endR_le (c := c) (k := k) (t := t + 1) (by omega)
      omega
    · omega
theorem endR_bit {c : Nat} : ∀ {k t : Nat}, c.testBit t = true → c.testBit (endR c k t) = true
  | 0, t, h => h
  | k + 1, t, h => by
    unfold endR
    split
    · rename_i hc; exact endR_bit hc.2
    · exact h

theorem runsR_none {c : Nat} : ∀ {k i : Nat}, (∀ j, i ≤ j → c.testBit j = false) → runsR c k i = []
  | 0, i, h => rfl
  | k + 1, i, h => by
    unfold runsR
    rw [h i (Nat.le_refl _)]
    simp only [Bool.false_eq_true, if_false]
    split
    · exact runsR_none fun j hj => h j (by omega)
    · rfl

theorem runsR_bits {c : Nat} : ∀ {k i : Nat} {p : Nat × Nat}, p ∈ runsR c k i → c.testBit p.1 = true ∧ c.testBit p.2 = true ∧ p.1 ≤ p.2 ∧ i ≤ p.1 ∧ p.2 ≤ 63
  | 0, i, p, h => by simp [runsR] at h
  | k + 1, i, p, h => by
    unfold runsR at h
    split at h
    · split at h
      · rename_i h1 h2
        have := endR_le (c := c) (k := 64) (t := i) (by omega)
        simp only [List.mem_cons] at h
        rcases h with rfl | h
        · exact ⟨h2, endR_bit h2, this.1, Nat.le_refl _, this.2⟩
        · have := runsR_bits h; exact ⟨this.1, this.2.1, this.2.2.1, by omega, this.2.2.2.2⟩
      · have := runsR_bits h; exact ⟨this.1, this.2.1, this.2.2.1, by omega, this.2.2.2.2⟩
    · simp at h

theorem runsR_len {c : Nat} : ∀ {k i : Nat}, (runsR c k i).length ≤ k
  | 0, i => Nat.le_refl _
  | k + 1, i => by
    unfold runsR
    split
    · split
      · have := runsR_len (c := c) (k := k) (i := endR c 64 i + 1)
        simp; omega
      · have := runsR_len (c := c) (k := k) (i := i + 1)
        omega
    · simp

/-! stretches -/

def runRow (p : Nat × Nat) : List DVal := [.int .i64 p.1, .int .i64 p.2]

theorem l56_0 {n : Nat} (c : Nat) (hc : c < 18446744073709551616) (σ : Sto) (es : List (List DVal)) (hes : es.length ≤ 64) (i : Nat) : ∀ (k t m : Nat), 63 ≤ t + k → t ≤ 63 → k < m →
    iterJ 1 (L56_0 (cpJ PR n) (ciJ PR n) n (.int .u64 c) (apd σ 2 es).1) m [.agg [.int .i64 i, .int .i64 t]] (apd σ 2 es).2 =
      some (.next 0 [.int .i64 ((endR c k t + 1 : Nat) : Int), (apd σ 2 (es ++ [runRow (i, endR c k t)])).1] (apd σ 2 (es ++ [runRow (i, endR c k t)])).2) := by
  intro k
  induction k with
  | zero =>
    intro t m ht ht' hm
    obtain ⟨m, rfl⟩ : ∃ q, m = q + 1 := ⟨m - 1, by omega⟩
    refine iterJ_out ?_ (by decide)
    have hw : IntKind.i64.wrap ((t : Int) + 1) = (t : Int) + 1 := wrap_i64 (by omega) (by omega)
    have h64 : ¬ ((t : Int) + 1 < 64) := by omega
    have ha := app_apd (σ := σ) (sz := 2) (own := 1) (es := es) (r := runRow (i, t)) (by omega)
    simp only [runRow] at ha
    simp -implicitDefEqProofs [L56_0, B56_0, hw, h64, ha, endR, runRow]
  | succ k ih =>
    intro t m ht ht' hm
    obtain ⟨m, rfl⟩ : ∃ q, m = q + 1 := ⟨m - 1, by omega⟩
    have hw : IntKind.i64.wrap ((t : Int) + 1) = (t : Int) + 1 := wrap_i64 (by omega) (by omega)
    have ha := app_apd (σ := σ) (sz := 2) (own := 1) (es := es) (r := runRow (i, t)) (by omega)
    simp only [runRow] at ha
    have hb := bit_eq c hc (t + 1)
    have hneg : ¬ ((t : Int) + 1 < 0) := by omega
    by_cases h64 : (t : Int) + 1 < 64
    · have hmin : min (t + 1) 64 = t + 1 := by omega
      have h64' : t + 1 < 64 := by omega
      cases hbit : c.testBit (t + 1) with
      | true =>
        rw [hbit] at hb
        simp only [if_true] at hb
        rw [iterJ_next' (vs' := [.agg [.int .i64 i, .int .i64 ((t + 1 : Nat) : Int)]]) (σ' := (apd σ 2 es).2), ih (t + 1) m (by omega) (by omega) (by omega)]
        · simp [endR, h64', hbit]
        · simp -implicitDefEqProofs [L56_0, B56_0, hw, h64, hneg, hmin, IntKind.bits, hb, -Int.natCast_pow]
      | false =>
        rw [hbit] at hb
        refine iterJ_out ?_ (by decide)
        have e : endR c (k + 1) t = t := by simp [endR, hbit]
        rw [e]
        simp -implicitDefEqProofs [L56_0, B56_0, hw, h64, hneg, hmin, IntKind.bits, hb, ha, runRow, -Int.natCast_pow]
    · refine iterJ_out ?_ (by decide)
      have e : endR c (k + 1) t = t := by
        have : ¬ (t + 1 < 64) := by omega
        simp [endR, this]
      rw [e]
      simp -implicitDefEqProofs [L56_0, B56_0, hw, h64, ha, runRow]

theorem l56_1 {n : Nat} (hn : 100 ≤ n) (c : Nat) (hc : c < 18446744073709551616) (σ : Sto) : ∀ (k i m : Nat) (es : List (List DVal)), 64 ≤ i + k → i ≤ 64 → k < m → es.length ≤ i →
    iterJ 0 (L56_1 (cpJ PR n) (ciJ PR n) n (.int .u64 c)) m [.int .i64 i, (apd σ 2 es).1] (apd σ 2 es).2 =
      some (.done (apd σ 2 (es ++ (runsR c k i).map runRow)).1 (apd σ 2 (es ++ (runsR c k i).map runRow)).2) := by
  intro k
  induction k with
  | zero =>
    intro i m es hi hi' hm hes
    obtain ⟨m, rfl⟩ : ∃ q, m = q + 1 := ⟨m - 1, by omega⟩
    obtain rfl : i = 64 := by omega
    refine iterJ_done ?_
    simp -implicitDefEqProofs [L56_1, B56_1, runsR]
  | succ k ih =>
    intro i m es hi hi' hm hes
    obtain ⟨m, rfl⟩ : ∃ q, m = q + 1 := ⟨m - 1, by omega⟩
    by_cases h64 : (i : Int) < 64
    · have hlt : i < 64 := by omega
      have hb := bit_eq c hc i
      have hneg : ¬ ((i : Int) < 0) := by omega
      have hmin : min i 64 = i := by omega
      have hw : IntKind.i64.wrap ((i : Int) + 1) = (i : Int) + 1 := wrap_i64 (by omega) (by omega)
      have hl := l56_0 (n := n) c hc σ es (by omega) i 64 i n (by omega) (by omega) (by omega)
      unfold runsR
      cases hbit : c.testBit i with
      | true =>
        rw [hbit] at hb
        simp only [if_true] at hb
        have he := endR_le (c := c) (k := 64) (t := i) (by omega)
        rw [iterJ_next' (vs' := [.int .i64 ((endR c 64 i + 1 : Nat) : Int), (apd σ 2 (es ++ [runRow (i, endR c 64 i)])).1]) (σ' := (apd σ 2 (es ++ [runRow (i, endR c 64 i)])).2), ih (endR c 64 i + 1) m _ (by omega) (by omega) (by omega) (by simp; omega)]
        · simp [hlt]
        · rw [← hl]
          simp -implicitDefEqProofs [L56_1, B56_1, hw, h64, hneg, hmin, IntKind.bits, hb, -Int.natCast_pow]
      | false =>
        rw [hbit] at hb
        rw [iterJ_next' (vs' := [.int .i64 ((i + 1 : Nat) : Int), (apd σ 2 es).1]) (σ' := (apd σ 2 es).2), ih (i + 1) m es (by omega) (by omega) (by omega) (by omega)]
        · simp [hlt]
        · simp -implicitDefEqProofs [L56_1, B56_1, hw, h64, hneg, hmin, IntKind.bits, hb, -Int.natCast_pow]
    · have hlt : ¬ i < 64 := by omega
      refine iterJ_done ?_
      simp -implicitDefEqProofs [L56_1, B56_1, h64, runsR, hlt]

/-- The runs of a set. -/
def runs (c : Nat) : List (Nat × Nat) := runsR c 64 0

theorem e56 {n : Nat} (hn : 110 ≤ n) (c : Nat) (hc : c < 18446744073709551616) : cpJ PR n 56 [.int .u64 c] = some (frD 2 ((runs c).map runRow)) := by
  obtain ⟨n, rfl⟩ : ∃ m, n = m + 1 := ⟨n - 1, by omega⟩
  have := l56_1 (n := n) (by omega) c hc emptySto 64 0 n [] (by omega) (by omega) (by omega) (by simp)
  rw [u56]
  simp only [Int.natCast_zero, List.nil_append] at this
  have e : apd emptySto 2 [] = (.nils, emptySto) := rfl
  rw [e] at this
  simp -implicitDefEqProofs [D56, this, runs]

end Go.Proofs.YticbfdcfopilfaaDoor
