/- The level and the range that names in a source denote, by the program and by the reference, and the law about them. -/
import Derived.Test.YticbfdcfopilfaaDoorLevX
set_option linter.unusedVariables false
set_option linter.unusedSimpArgs false
set_option maxRecDepth 20000
set_option maxHeartbeats 2000000
namespace Go.Proofs.YticbfdcfopilfaaDoor
open Go

abbrev Sp := List UInt8 × List UInt8
/-- Spans. -/
abbrev spD (z : Bool) (sp : List Sp) : DVal := slD z 2 (sp.map fun p => [DVal.str p.1, DVal.str p.2])

theorem idxAt_cases (s : List UInt8) : ∀ (l : List (List UInt8)) (i : Nat), idxAt s l i = -1 ∨ ∃ j : Nat, idxAt s l i = ((i + j : Nat) : Int) ∧ j < l.length ∧ l[j]? = some s
  | [], i => .inl rfl
  | x :: xs, i => by
    unfold idxAt
    by_cases e : x = s
    · exact .inr ⟨0, by simp [e], by simp, by simp [e]⟩
    · simp only [e, if_false]
      rcases idxAt_cases s xs (i + 1) with h | ⟨j, h1, h2, h3⟩
      · exact .inl h
      · exact .inr ⟨j + 1, by rw [h1]; congr 1; omega, by simp; omega, by simpa using h3⟩

/-- The bits a, a + 1, .. are set: k of them. -/
def bitsR (c : Nat) : Nat → Nat → Nat
  | _, 0 => c
  | a, k + 1 => bitsR (c ||| 2 ^ a) (a + 1) k

theorem pow_lt {a : Nat} (h : a < 64) : 2 ^ a < 18446744073709551616 := Nat.pow_lt_pow_right (by decide) h

theorem bitsR_lt : ∀ {k a c : Nat}, c < 18446744073709551616 → a + k ≤ 64 → bitsR c a k < 18446744073709551616
  | 0, a, c, h, _ => h
  | k + 1, a, c, h, hk => by
    have h1 := or_lt h (pow_lt (by omega : a < 64))
    exact bitsR_lt (k := k) (a := a + 1) h1 (by omega)

theorem shl_one {a : Nat} (h : a < 64) : IntKind.u64.wrap (1 * 2 ^ min a 64) = ((2 ^ a : Nat) : Int) := by
  have e : (2 : Int) ^ a = ((2 ^ a : Nat) : Int) := (Int.natCast_pow 2 a).symm
  have h1 := pow_lt h
  rw [show min a 64 = a by omega, Int.one_mul, e]
  generalize 2 ^ a = x at h1
  exact wrap_u64 (by omega) (by omega)

/-- The set of categories of spans: what comes behind c, or an error. -/
def lvlAcc (cats : List (List UInt8)) : List Sp → Nat → Nat × Int
  | [], c => (c, 0)
  | p :: r, c =>
    let a := idxAt p.1 cats 0
    let b := if p.2 ≠ [] then idxAt p.2 cats 0 else a
    if a < 0 ∨ b < 0 then (0, 11) else if b < a then (0, 18) else lvlAcc cats r (bitsR c a.toNat (b.toNat + 1 - a.toNat))

/-- A result with its error. -/
abbrev lvE (s : Int) (c : Nat) (e : Int) : DVal := .tup [lv s c, .int .i64 e]

def accD (s : Int) (x : Nat × Int) : DVal := if x.2 = 0 then lvE s x.1 0 else lvE 0 0 x.2

theorem lvlAcc_cons (cats : List (List UInt8)) (p : Sp) (r : List Sp) (c : Nat) : lvlAcc cats (p :: r) c =
    if idxAt p.1 cats 0 < 0 ∨ (if p.2 ≠ [] then idxAt p.2 cats 0 else idxAt p.1 cats 0) < 0 then (0, 11)
    else if (if p.2 ≠ [] then idxAt p.2 cats 0 else idxAt p.1 cats 0) < idxAt p.1 cats 0 then (0, 18)
    else lvlAcc cats r (bitsR c (idxAt p.1 cats 0).toNat ((if p.2 ≠ [] then idxAt p.2 cats 0 else idxAt p.1 cats 0).toNat + 1 - (idxAt p.1 cats 0).toNat)) := rfl

/-! The program -/

theorem l29_0 {n : Nat} (s : Int) (j : Nat) (hj : j ≤ 1000) (b : Nat) (hb : b < 64) (σ : Sto) : ∀ (k a c m : Nat), a + k = b + 1 → k < m → c < 18446744073709551616 →
    iterJ 1 (L29_0 (cpJ PR n) (ciJ PR n) n (.int .i64 j) (.int .i64 0) (lv 0 0) (.int .i64 b)) m [.int .i64 a, lv s c] σ = some (.next 0 [.int .i64 ((j + 1 : Nat) : Int), .int .i64 0, lv s (bitsR c a k), lv 0 0] σ) := by
  intro k
  induction k with
  | zero =>
    intro a c m ha hm hc
    obtain ⟨m, rfl⟩ : ∃ q, m = q + 1 := ⟨m - 1, by omega⟩
    have h1 : ¬ ((a : Int) ≤ b) := by omega
    have hw : IntKind.i64.wrap ((j : Int) + 1) = (j : Int) + 1 := wrap_i64 (by omega) (by omega)
    refine iterJ_out ?_ (by decide)
    simp -implicitDefEqProofs [L29_0, B29_0, h1, hw, bitsR]
  | succ k ih =>
    intro a c m ha hm hc
    obtain ⟨m, rfl⟩ : ∃ q, m = q + 1 := ⟨m - 1, by omega⟩
    have h1 : ((a : Int) ≤ b) := by omega
    have h2 : ¬ ((a : Int) < 0) := by omega
    have hw : IntKind.i64.wrap ((a : Int) + 1) = (a : Int) + 1 := wrap_i64 (by omega) (by omega)
    have hs := shl_one (by omega : a < 64)
    have ho := or_nat c (2 ^ a) hc (pow_lt (by omega))
    rw [iterJ_next' (vs' := [.int .i64 ((a + 1 : Nat) : Int), lv s (c ||| 2 ^ a)]) (σ' := σ), ih (a + 1) _ m (by omega) (by omega) (or_lt hc (pow_lt (by omega)))]
    · rfl
    · simp only [Int.one_mul] at hs
      simp -implicitDefEqProofs [L29_0, B29_0, h1, h2, hw, IntKind.bits, hs, ho, -Int.natCast_pow]

theorem l29_2 {n : Nat} (hn : 1200 ≤ n) (z z' : Bool) (cats : List (List UInt8)) (hcl : cats.length ≤ 64) (sp : List Sp) (hsp : sp.length ≤ 1000) (s : Int) (σ : Sto) : ∀ (k j m c : Nat), j + k = sp.length → k < m → c < 18446744073709551616 →
    iterJ 0 (L29_2 (cpJ PR n) (ciJ PR n) n (strsD z cats) (spD z' sp) (.int .i64 sp.length)) m [.int .i64 j, .int .i64 0, lv s c, lv 0 0] σ = some (.done (accD s (lvlAcc cats (sp.drop j) c)) σ) := by
  intro k
  induction k with
  | zero =>
    intro j m c hj hm hc
    obtain ⟨m, rfl⟩ : ∃ q, m = q + 1 := ⟨m - 1, by omega⟩
    have h1 : ¬ ((j : Int) < sp.length) := by omega
    refine iterJ_done ?_
    rw [List.drop_eq_nil_of_le (by omega)]
    simp -implicitDefEqProofs [L29_2, B29_2, h1, lvlAcc, accD]
  | succ k ih =>
    intro j m c hj hm hc
    obtain ⟨m, rfl⟩ : ∃ q, m = q + 1 := ⟨m - 1, by omega⟩
    have h1 : ((j : Int) < sp.length) := by omega
    obtain ⟨p, hp⟩ := get_some (by omega : j < sp.length)
    have f1 := e51 (n := n) z cats p.1 (by omega) (by omega)
    have f2 := e51 (n := n) z cats p.2 (by omega) (by omega)
    rw [drop_get hp, lvlAcc_cons]
    generalize hA : idxAt p.1 cats 0 = A at f1 ⊢
    generalize hB : idxAt p.2 cats 0 = B at f2 ⊢
    have hA' := idxAt_cases p.1 cats 0
    have hB' := idxAt_cases p.2 cats 0
    rw [hA] at hA'
    rw [hB] at hB'
    -- the case of the second name
    have main : ∀ b : Int, (if p.2 ≠ [] then B else A) = b → (b = -1 ∨ ∃ q : Nat, b = q ∧ q < 64) →
        iterJ 0 (L29_2 (cpJ PR n) (ciJ PR n) n (strsD z cats) (spD z' sp) (.int .i64 sp.length)) (m + 1) [.int .i64 j, .int .i64 0, lv s c, lv 0 0] σ =
        some (.done (accD s (if A < 0 ∨ b < 0 then (0, 11) else if b < A then (0, 18) else lvlAcc cats (sp.drop (j + 1)) (bitsR c A.toNat (b.toNat + 1 - A.toNat)))) σ) := by
      intro b hb hbc
      have step : L29_2 (cpJ PR n) (ciJ PR n) n (strsD z cats) (spD z' sp) (.int .i64 sp.length) [.int .i64 j, .int .i64 0, lv s c, lv 0 0] σ =
          L29_1 (cpJ PR n) (ciJ PR n) n (.int .i64 j) (.int .i64 0) (lv s c) (lv 0 0) (.int .i64 A) [.int .i64 b] σ := by
        rw [← hb]
        by_cases h2 : p.2 = []
        · simp only [h2, ne_eq, not_true_eq_false, if_false]
          simp -implicitDefEqProofs [L29_2, B29_2, h1, hp, h2, f1]
        · simp only [h2, ne_eq, not_false_eq_true, if_true]
          simp -implicitDefEqProofs [L29_2, B29_2, h1, hp, h2, f1, f2]
      by_cases hA0 : A < 0
      · rw [if_pos (.inl hA0)]
        refine iterJ_done (step.trans ?_)
        simp -implicitDefEqProofs [L29_1, J29_1, hA0, accD]
      · by_cases hb0 : b < 0
        · rw [if_pos (.inr hb0)]
          refine iterJ_done (step.trans ?_)
          simp -implicitDefEqProofs [L29_1, J29_1, hA0, hb0, accD]
        · rw [if_neg (by omega)]
          by_cases hba : b < A
          · rw [if_pos hba]
            refine iterJ_done (step.trans ?_)
            simp -implicitDefEqProofs [L29_1, J29_1, hA0, hb0, hba, accD]
          · rw [if_neg hba]
            obtain ⟨q, rfl, hq⟩ : ∃ q : Nat, b = q ∧ q < 64 := hbc.resolve_left (by omega)
            obtain ⟨a, rfl⟩ : ∃ a : Nat, A = a := ⟨A.toNat, by omega⟩
            have hl := l29_0 (n := n) s j (by omega) q hq σ (q + 1 - a) a c n (by omega) (by omega) hc
            have : L29_1 (cpJ PR n) (ciJ PR n) n (.int .i64 j) (.int .i64 0) (lv s c) (lv 0 0) (.int .i64 a) [.int .i64 q] σ = iterJ 1 (L29_0 (cpJ PR n) (ciJ PR n) n (.int .i64 j) (.int .i64 0) (lv 0 0) (.int .i64 q)) n [.int .i64 a, lv s c] σ := by
              simp -implicitDefEqProofs [L29_1, J29_1, hA0, hb0, hba]
            rw [iterJ_next' ((step.trans this).trans hl), ih (j + 1) m _ (by omega) (by omega) (bitsR_lt hc (by omega))]
            simp
    refine main _ rfl ?_
    by_cases h2 : p.2 = []
    · simp only [h2, ne_eq, not_true_eq_false, if_false]
      rcases hA' with h | ⟨q, h, hq, -⟩
      · exact .inl h
      · exact .inr ⟨q, by simpa using h, by omega⟩
    · simp only [h2, ne_eq, not_false_eq_true, if_true]
      rcases hB' with h | ⟨q, h, hq, -⟩
      · exact .inl h
      · exact .inr ⟨q, by simpa using h, by omega⟩

/-- What Level answers. -/
def levelV (sens cats : List (List UInt8)) (name : List UInt8) (sp : List Sp) : DVal :=
  if propV sens cats = true then (if idxAt name sens 0 < 0 then lvE 0 0 11 else accD (idxAt name sens 0) (lvlAcc cats sp 0)) else lvE 0 0 2

theorem e29 {n : Nat} (hn : 20020 ≤ n) (z z' z2 : Bool) {sens cats : List (List UInt8)} (hf : Few sens cats) (name : List UInt8) (sp : List Sp) (hsp : sp.length ≤ 1000) :
    cpJ PR n 29 [.agg [.str name, spD z2 sp], strsD z sens, strsD z' cats] = some (levelV sens cats name sp) := by
  obtain ⟨n, rfl⟩ : ∃ m, n = m + 1 := ⟨n - 1, by omega⟩
  have h1 := p46 (n := n) z z' hf (by omega)
  have h2 := e51 (n := n) z sens name (by have := hf.a; omega) (by have := hf.a; omega)
  rw [u29]
  unfold levelV
  cases hP : propV sens cats with
  | false =>
    rw [hP] at h1
    simp -implicitDefEqProofs [D29, h1]
  | true =>
    rw [hP] at h1
    have hcl := (propV_facts hP).2
    rw [if_pos rfl]
    generalize idxAt name sens 0 = s at h2 ⊢
    by_cases hs : s < 0
    · simp -implicitDefEqProofs [D29, h1, h2, hs]
    · have hl := l29_2 (n := n) (by omega) z' z2 cats hcl sp hsp s emptySto sp.length 0 n 0 (by omega) (by omega) (by omega)
      simp only [lv, Int.natCast_zero, List.drop_zero] at hl
      rw [if_neg hs]
      have hback : (accD s (lvlAcc cats sp 0)).handBack emptySto = some (accD s (lvlAcc cats sp 0)) := by
        unfold accD
        split <;> simp
      simp -implicitDefEqProofs [D29, h1, h2, hs, hl, hback]

/-! The reference -/

theorem l30_0 {n : Nat} (s : Int) (j : Nat) (hj : j ≤ 1000) (b : Nat) (hb : b < 64) (σ : Sto) : ∀ (k a c m : Nat), a + k = b + 1 → k < m → c < 18446744073709551616 →
    iterJ 1 (L30_0 (cpJ PR n) (ciJ PR n) n (.int .i64 j) (.int .i64 0) (lv 0 0) (.int .i64 b)) m [.int .i64 a, lv s c] σ = some (.next 0 [.int .i64 ((j + 1 : Nat) : Int), .int .i64 0, lv s (bitsR c a k), lv 0 0] σ) := by
  intro k
  induction k with
  | zero =>
    intro a c m ha hm hc
    obtain ⟨m, rfl⟩ : ∃ q, m = q + 1 := ⟨m - 1, by omega⟩
    have h1 : ¬ ((a : Int) ≤ b) := by omega
    have hw : IntKind.i64.wrap ((j : Int) + 1) = (j : Int) + 1 := wrap_i64 (by omega) (by omega)
    refine iterJ_out ?_ (by decide)
    simp -implicitDefEqProofs [L30_0, B30_0, h1, hw, bitsR]
  | succ k ih =>
    intro a c m ha hm hc
    obtain ⟨m, rfl⟩ : ∃ q, m = q + 1 := ⟨m - 1, by omega⟩
    have h1 : ((a : Int) ≤ b) := by omega
    have h2 : ¬ ((a : Int) < 0) := by omega
    have hw : IntKind.i64.wrap ((a : Int) + 1) = (a : Int) + 1 := wrap_i64 (by omega) (by omega)
    have hu : IntKind.u64.wrap (a : Int) = a := wrap_u64 (by omega) (by omega)
    have hs := shl_one (by omega : a < 64)
    have ho := or_nat c (2 ^ a) hc (pow_lt (by omega))
    rw [iterJ_next' (vs' := [.int .i64 ((a + 1 : Nat) : Int), lv s (c ||| 2 ^ a)]) (σ' := σ), ih (a + 1) _ m (by omega) (by omega) (or_lt hc (pow_lt (by omega)))]
    · rfl
    · simp only [Int.one_mul] at hs
      simp -implicitDefEqProofs [L30_0, B30_0, h1, h2, hw, hu, IntKind.bits, hs, ho, -Int.natCast_pow]

theorem l30_2 {n : Nat} (hn : 1200 ≤ n) (z z' : Bool) (cats : List (List UInt8)) (hcl : cats.length ≤ 64) (name : List UInt8) (sp : List Sp) (hsp : sp.length ≤ 1000) (s : Int) (σ : Sto) : ∀ (k j m c : Nat), j + k = sp.length → k < m → c < 18446744073709551616 →
    iterJ 0 (L30_2 (cpJ PR n) (ciJ PR n) n (strsD z cats) (.agg [.str name, spD z' sp])) m [.int .i64 j, .int .i64 0, lv s c, lv 0 0] σ = some (.done (accD s (lvlAcc cats (sp.drop j) c)) σ) := by
  intro k
  induction k with
  | zero =>
    intro j m c hj hm hc
    obtain ⟨m, rfl⟩ : ∃ q, m = q + 1 := ⟨m - 1, by omega⟩
    have h1 : ¬ ((j : Int) < sp.length) := by omega
    refine iterJ_done ?_
    rw [List.drop_eq_nil_of_le (by omega)]
    simp -implicitDefEqProofs [L30_2, B30_2, h1, lvlAcc, accD]
  | succ k ih =>
    intro j m c hj hm hc
    obtain ⟨m, rfl⟩ : ∃ q, m = q + 1 := ⟨m - 1, by omega⟩
    have h1 : ((j : Int) < sp.length) := by omega
    obtain ⟨p, hp⟩ := get_some (by omega : j < sp.length)
    have f1 := e52 (n := n) z cats p.1 (by omega) (by omega)
    have f2 := e52 (n := n) z cats p.2 (by omega) (by omega)
    rw [drop_get hp, lvlAcc_cons]
    generalize hA : idxAt p.1 cats 0 = A at f1 ⊢
    generalize hB : idxAt p.2 cats 0 = B at f2 ⊢
    have hA' := idxAt_cases p.1 cats 0
    have hB' := idxAt_cases p.2 cats 0
    rw [hA] at hA'
    rw [hB] at hB'
    have main : ∀ b : Int, (if p.2 ≠ [] then B else A) = b → (b = -1 ∨ ∃ q : Nat, b = q ∧ q < 64) →
        iterJ 0 (L30_2 (cpJ PR n) (ciJ PR n) n (strsD z cats) (.agg [.str name, spD z' sp])) (m + 1) [.int .i64 j, .int .i64 0, lv s c, lv 0 0] σ =
        some (.done (accD s (if A < 0 ∨ b < 0 then (0, 11) else if b < A then (0, 18) else lvlAcc cats (sp.drop (j + 1)) (bitsR c A.toNat (b.toNat + 1 - A.toNat)))) σ) := by
      intro b hb hbc
      have step : L30_2 (cpJ PR n) (ciJ PR n) n (strsD z cats) (.agg [.str name, spD z' sp]) [.int .i64 j, .int .i64 0, lv s c, lv 0 0] σ =
          L30_1 (cpJ PR n) (ciJ PR n) n (.int .i64 j) (.int .i64 0) (lv s c) (lv 0 0) (.int .i64 A) [.int .i64 b] σ := by
        rw [← hb]
        by_cases h2 : p.2 = []
        · simp only [h2, ne_eq, not_true_eq_false, if_false]
          simp -implicitDefEqProofs [L30_2, B30_2, h1, hp, h2, f1]
        · simp only [h2, ne_eq, not_false_eq_true, if_true]
          simp -implicitDefEqProofs [L30_2, B30_2, h1, hp, h2, f1, f2]
      by_cases hA0 : A < 0
      · rw [if_pos (.inl hA0)]
        refine iterJ_done (step.trans ?_)
        simp -implicitDefEqProofs [L30_1, J30_1, hA0, accD]
      · by_cases hb0 : b < 0
        · rw [if_pos (.inr hb0)]
          refine iterJ_done (step.trans ?_)
          simp -implicitDefEqProofs [L30_1, J30_1, hA0, hb0, accD]
        · rw [if_neg (by omega)]
          by_cases hba : b < A
          · rw [if_pos hba]
            refine iterJ_done (step.trans ?_)
            simp -implicitDefEqProofs [L30_1, J30_1, hA0, hb0, hba, accD]
          · rw [if_neg hba]
            obtain ⟨q, rfl, hq⟩ : ∃ q : Nat, b = q ∧ q < 64 := hbc.resolve_left (by omega)
            obtain ⟨a, rfl⟩ : ∃ a : Nat, A = a := ⟨A.toNat, by omega⟩
            have hl := l30_0 (n := n) s j (by omega) q hq σ (q + 1 - a) a c n (by omega) (by omega) hc
            have : L30_1 (cpJ PR n) (ciJ PR n) n (.int .i64 j) (.int .i64 0) (lv s c) (lv 0 0) (.int .i64 a) [.int .i64 q] σ = iterJ 1 (L30_0 (cpJ PR n) (ciJ PR n) n (.int .i64 j) (.int .i64 0) (lv 0 0) (.int .i64 q)) n [.int .i64 a, lv s c] σ := by
              simp -implicitDefEqProofs [L30_1, J30_1, hA0, hb0, hba]
            rw [iterJ_next' ((step.trans this).trans hl), ih (j + 1) m _ (by omega) (by omega) (bitsR_lt hc (by omega))]
            simp
    refine main _ rfl ?_
    by_cases h2 : p.2 = []
    · simp only [h2, ne_eq, not_true_eq_false, if_false]
      rcases hA' with h | ⟨q, h, hq, -⟩
      · exact .inl h
      · exact .inr ⟨q, by simpa using h, by omega⟩
    · simp only [h2, ne_eq, not_false_eq_true, if_true]
      rcases hB' with h | ⟨q, h, hq, -⟩
      · exact .inl h
      · exact .inr ⟨q, by simpa using h, by omega⟩

theorem e30 {n : Nat} (hn : 20020 ≤ n) (z z' z2 : Bool) {sens cats : List (List UInt8)} (hf : Few sens cats) (name : List UInt8) (sp : List Sp) (hsp : sp.length ≤ 1000) :
    cpJ PR n 30 [.agg [.str name, spD z2 sp], strsD z sens, strsD z' cats] = some (levelV sens cats name sp) := by
  obtain ⟨n, rfl⟩ : ∃ m, n = m + 1 := ⟨n - 1, by omega⟩
  have h1 := p49 (n := n) z z' hf (by omega)
  have h2 := e52 (n := n) z sens name (by have := hf.a; omega) (by have := hf.a; omega)
  rw [u30]
  unfold levelV
  cases hP : propV sens cats with
  | false =>
    rw [hP] at h1
    simp -implicitDefEqProofs [D30, h1]
  | true =>
    rw [hP] at h1
    have hcl := (propV_facts hP).2
    rw [if_pos rfl]
    generalize idxAt name sens 0 = s at h2 ⊢
    by_cases hs : s < 0
    · simp -implicitDefEqProofs [D30, h1, h2, hs]
    · have hl := l30_2 (n := n) (by omega) z' z2 cats hcl name sp hsp s emptySto sp.length 0 n 0 (by omega) (by omega) (by omega)
      simp only [lv, Int.natCast_zero, List.drop_zero] at hl
      rw [if_neg hs]
      have hback : (accD s (lvlAcc cats sp 0)).handBack emptySto = some (accD s (lvlAcc cats sp 0)) := by
        unfold accD
        split <;> simp
      simp -implicitDefEqProofs [D30, h1, h2, hs, hl, hback]

end Go.Proofs.YticbfdcfopilfaaDoor
