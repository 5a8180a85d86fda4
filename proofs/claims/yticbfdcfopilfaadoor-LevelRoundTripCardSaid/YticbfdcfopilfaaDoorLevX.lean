/- Source of the program and of the reference, and the law of the shortest form. -/
import Derived.Test.YticbfdcfopilfaaDoorLevW
set_option linter.unusedVariables false
set_option linter.unusedSimpArgs false
set_option maxRecDepth 20000
set_option maxHeartbeats 2000000
namespace Go.Proofs.YticbfdcfopilfaaDoor
open Go

theorem check_facts {s : Int} {c : Nat} (hc : c < 18446744073709551616) {a b : Nat} (h : checkV s c a b = true) : (0 ≤ s ∧ s < a) ∧ ∀ j, c.testBit j = true → j < b := by
  rw [← check_eq hc, decide_eq_true_eq] at h
  refine ⟨⟨h.2.1, h.2.2⟩, fun j hj => ?_⟩
  by_cases h64 : j < 64
  · have := h.1 j (Nat.zero_le _) h64 hj; omega
  · have : c.testBit j = false := Nat.testBit_lt_two_pow (Nat.lt_of_lt_of_le hc (Nat.pow_le_pow_right (n := 2) (by decide) (by omega : 64 ≤ j)))
    rw [this] at hj; cases hj

def fewL (l : List (List UInt8)) : Bool := l.all fun s => decide (s.length ≤ 100)
def fewV (a b : List (List UInt8)) : Bool := decide (a.length ≤ 100) && decide (b.length ≤ 100) && fewL a && fewL b

theorem l23_0 {n : Nat} (z z' : Bool) (a b : List (List UInt8)) (hb : b.length ≤ 100) (σ : Sto) : ∀ (k i m : Nat) (u : DVal), i + k = b.length → k < m →
    iterJ 1 (L23_0 (cpJ PR n) (ciJ PR n) n (.agg [strsD z a, strsD z' b])) m [.int .i64 i, u] σ = some (.done (.bool (fewL (b.drop i))) σ) := by
  intro k
  induction k with
  | zero =>
    intro i m u hi hm
    obtain ⟨m, rfl⟩ : ∃ q, m = q + 1 := ⟨m - 1, by omega⟩
    have hi' : ¬ ((i : Int) < b.length) := by omega
    refine iterJ_done ?_
    rw [List.drop_eq_nil_of_le (by omega)]
    simp -implicitDefEqProofs [L23_0, B23_0, hi', fewL]
  | succ k ih =>
    intro i m u hi hm
    obtain ⟨m, rfl⟩ : ∃ q, m = q + 1 := ⟨m - 1, by omega⟩
    have hi' : ((i : Int) < b.length) := by omega
    obtain ⟨x, hx⟩ := get_some (by omega : i < b.length)
    have hw : IntKind.i64.wrap ((i : Int) + 1) = (i : Int) + 1 := wrap_i64 (by omega) (by omega)
    rw [drop_get hx]
    by_cases hl : (100 : Int) < x.length
    · refine iterJ_done ?_
      have : ¬ x.length ≤ 100 := by omega
      simp -implicitDefEqProofs [L23_0, B23_0, hi', hx, hl, fewL, this]
    · rw [iterJ_next' (vs' := [.int .i64 ((i + 1 : Nat) : Int), u]) (σ' := σ) (by simp -implicitDefEqProofs [L23_0, B23_0, hi', hx, hl, hw]), ih (i + 1) m u (by omega) (by omega)]
      have : x.length ≤ 100 := by omega
      simp [fewL, this]

theorem l23_1 {n : Nat} (hn : 200 ≤ n) (z z' : Bool) (a b : List (List UInt8)) (ha : a.length ≤ 100) (hb : b.length ≤ 100) (σ : Sto) : ∀ (k i m : Nat) (u : DVal), i + k = a.length → k < m →
    iterJ 0 (L23_1 (cpJ PR n) (ciJ PR n) n (.agg [strsD z a, strsD z' b])) m [.int .i64 i, u] σ = some (.done (.bool (fewL (a.drop i) && fewL b)) σ) := by
  intro k
  induction k with
  | zero =>
    intro i m u hi hm
    obtain ⟨m, rfl⟩ : ∃ q, m = q + 1 := ⟨m - 1, by omega⟩
    have hi' : ¬ ((i : Int) < a.length) := by omega
    have := l23_0 (n := n) z z' a b hb σ b.length 0 n u (by omega) (by omega)
    simp only [Int.natCast_zero, List.drop_zero] at this
    refine iterJ_done ?_
    rw [List.drop_eq_nil_of_le (by omega)]
    simp -implicitDefEqProofs [L23_1, B23_1, hi', fewL, this]
  | succ k ih =>
    intro i m u hi hm
    obtain ⟨m, rfl⟩ : ∃ q, m = q + 1 := ⟨m - 1, by omega⟩
    have hi' : ((i : Int) < a.length) := by omega
    obtain ⟨x, hx⟩ := get_some (by omega : i < a.length)
    have hw : IntKind.i64.wrap ((i : Int) + 1) = (i : Int) + 1 := wrap_i64 (by omega) (by omega)
    rw [drop_get hx]
    by_cases hl : (100 : Int) < x.length
    · refine iterJ_done ?_
      have : ¬ x.length ≤ 100 := by omega
      simp -implicitDefEqProofs [L23_1, B23_1, hi', hx, hl, fewL, this]
    · rw [iterJ_next' (vs' := [.int .i64 ((i + 1 : Nat) : Int), u]) (σ' := σ) (by simp -implicitDefEqProofs [L23_1, B23_1, hi', hx, hl, hw]), ih (i + 1) m u (by omega) (by omega)]
      have : x.length ≤ 100 := by omega
      simp [fewL, this]

theorem e23 {n : Nat} (hn : 210 ≤ n) (z z' : Bool) (a b : List (List UInt8)) : cpJ PR n 23 [.agg [strsD z a, strsD z' b]] = some (.bool (fewV a b)) := by
  obtain ⟨n, rfl⟩ : ∃ m, n = m + 1 := ⟨n - 1, by omega⟩
  rw [u23]
  by_cases ha : (100 : Int) < a.length
  · have : ¬ a.length ≤ 100 := by omega
    simp -implicitDefEqProofs [D23, ha, fewV, this]
  · by_cases hb : (100 : Int) < b.length
    · have : ¬ b.length ≤ 100 := by omega
      simp -implicitDefEqProofs [D23, ha, hb, fewV, this]
    · have h1 : a.length ≤ 100 := by omega
      have h2 : b.length ≤ 100 := by omega
      have := l23_1 (n := n) (by omega) z z' a b h1 h2 emptySto a.length 0 n (.bool false) (by omega) (by omega)
      simp only [Int.natCast_zero, List.drop_zero] at this
      simp -implicitDefEqProofs [D23, ha, hb, this, fewV, h1, h2]

/-- What few says. -/
structure Few (x y : List (List UInt8)) : Prop where
  a : x.length ≤ 100
  b : y.length ≤ 100
  as : ∀ s ∈ x, s.length ≤ 100
  bs : ∀ s ∈ y, s.length ≤ 100

theorem few_iff {a b : List (List UInt8)} (h : fewV a b = true) : Few a b := by
  simp only [fewV, fewL, Bool.and_eq_true, decide_eq_true_eq, List.all_eq_true] at h
  exact ⟨h.1.1.1, h.1.1.2, h.1.2, h.2⟩

/-- Are names proper? -/
def propV (sens cats : List (List UInt8)) : Bool := properB 16 sens && properB 64 cats
/-- Is a range valid? -/
def rangeV (s : Int) (c : Nat) (s' : Int) (c' : Nat) (a b : Nat) : Bool := checkV s c a b && checkV s' c' a b && domV s' c' s c

theorem propV_facts {sens cats : List (List UInt8)} (h : propV sens cats = true) : sens.length ≤ 16 ∧ cats.length ≤ 64 := by
  simp only [propV, properB, Bool.and_eq_true, decide_eq_true_eq] at h
  omega

section
variable {n : Nat} (z z' : Bool) {sens cats : List (List UInt8)} (hf : Few sens cats)
include hf

theorem p46 (hn : 20010 ≤ n) : cpJ PR n 46 [strsD z sens, strsD z' cats] = some (.bool (propV sens cats)) :=
  e46 z z' sens cats (by have := hf.a; omega) (fun s hs => by have := hf.as s hs; omega) (by have := hf.b; omega) (fun s hs => by have := hf.bs s hs; omega) (by omega)
theorem p49 (hn : 20010 ≤ n) : cpJ PR n 49 [strsD z sens, strsD z' cats] = some (.bool (propV sens cats)) :=
  e49 z z' sens cats (by have := hf.a; omega) (fun s hs => by have := hf.as s hs; omega) (by have := hf.b; omega) (fun s hs => by have := hf.bs s hs; omega) (by omega)

/-- level.checked. -/
def errV (P V : Bool) : Int := if P then (if V then 0 else 18) else 2

theorem e43 (hn : 20020 ≤ n) (s : Int) (c : Nat) (s' : Int) (c' : Nat) (hr : Rok c c') : cpJ PR n 43 [rg s c s' c', strsD z sens, strsD z' cats] = some (.int .i64 (errV (propV sens cats) (rangeV s c s' c' sens.length cats.length))) := by
  obtain ⟨n, rfl⟩ : ∃ m, n = m + 1 := ⟨n - 1, by omega⟩
  have h1 := p46 (n := n) z z' hf (by omega)
  have h2 := e14 (n := n) (by omega) s c hr.lo s' c' hr.hi sens.length cats.length
  change _ = some (DVal.bool (rangeV s c s' c' sens.length cats.length)) at h2
  rw [u43]
  cases hP : propV sens cats <;> cases hV : rangeV s c s' c' sens.length cats.length <;> rw [hP] at h1 <;> rw [hV] at h2 <;> simp -implicitDefEqProofs [D43, h1, h2, errV]
end

/-- A range as it is written in a source. -/
abbrev rtD (n1 : List UInt8) (r1 : List (List DVal)) (n2 : List UInt8) (r2 : List (List DVal)) : DVal := .agg [.str n1, slD true 2 r1, .str n2, slD true 2 r2]
theorem slD_nil : slD true 2 [] = .nils := rfl

def rowsV (cats : List (List UInt8)) (c : Nat) : List (List DVal) := (runs c).map (spanRow cats)

/-- What Source answers. -/
def srcV (sens cats : List (List UInt8)) (s : Int) (c : Nat) (s' : Int) (c' : Nat) : DVal :=
  if errV (propV sens cats) (rangeV s c s' c' sens.length cats.length) = 0 then
    (if s = s' ∧ c = c' then rtD (nm sens s.toNat) (rowsV cats c) [] [] else rtD (nm sens s.toNat) (rowsV cats c) (nm sens s'.toNat) (rowsV cats c'))
  else rtD [] [] [] []

theorem range_facts {s : Int} {c : Nat} {s' : Int} {c' : Nat} (hr : Rok c c') {a b : Nat} (h : rangeV s c s' c' a b = true) :
    (∃ i i' : Nat, s = i ∧ s' = i' ∧ i < a ∧ i' < a) ∧ (∀ j, c.testBit j = true → j < b) ∧ ∀ j, c'.testBit j = true → j < b := by
  simp only [rangeV, Bool.and_eq_true] at h
  obtain ⟨h1, h2⟩ := check_facts hr.lo h.1.1
  obtain ⟨h3, h4⟩ := check_facts hr.hi h.1.2
  exact ⟨⟨s.toNat, s'.toNat, by omega, by omega, by omega, by omega⟩, h2, h4⟩

theorem lv_ne {s : Int} {c : Nat} {s' : Int} {c' : Nat} (e : ¬ (s = s' ∧ c = c')) : ((s == s') && ((c : Int) == (c' : Int))) = false := by
  cases h : ((s == s') && ((c : Int) == (c' : Int))) with
  | false => rfl
  | true => simp only [Bool.and_eq_true, beq_iff_eq] at h; exact absurd ⟨h.1, by omega⟩ e

theorem e39 {n : Nat} (hn : 20030 ≤ n) (z z' : Bool) {sens cats : List (List UInt8)} (hf : Few sens cats) (s : Int) (c : Nat) (s' : Int) (c' : Nat) (hr : Rok c c') : cpJ PR n 39 [rg s c s' c', strsD z sens, strsD z' cats] =
    some (.tup [srcV sens cats s c s' c', .int .i64 (errV (propV sens cats) (rangeV s c s' c' sens.length cats.length))]) := by
  obtain ⟨n, rfl⟩ : ∃ m, n = m + 1 := ⟨n - 1, by omega⟩
  have h1 := e43 (n := n) z z' hf (by omega) s c s' c' hr
  rw [u39]
  unfold srcV
  by_cases h0 : errV (propV sens cats) (rangeV s c s' c' sens.length cats.length) = 0
  · rw [h0] at h1 ⊢
    have hP : propV sens cats = true := by unfold errV at h0; split at h0; · assumption
                                           · cases h0
    have hV : rangeV s c s' c' sens.length cats.length = true := by unfold errV at h0; rw [hP] at h0; simp only [if_true] at h0; split at h0; · assumption
                                                                    · cases h0
    obtain ⟨⟨i, i', rfl, rfl, hi, hi'⟩, hb, hb'⟩ := range_facts hr hV
    have w1 := e53 (n := n) (by omega) z z' sens cats i hi c hr.lo hb
    have w2 := e53 (n := n) (by omega) z z' sens cats i' hi' c' hr.hi hb'
    by_cases e : (i : Int) = i' ∧ c = c'
    · obtain ⟨e1, rfl⟩ := e
      obtain rfl : i = i' := by omega
      simp -implicitDefEqProofs [D39, h1, w1, rowsV, slD_nil]
    · have e2 := lv_ne e
      rw [if_neg e]
      simp -implicitDefEqProofs [D39, h1, w1, w2, rowsV, e2]
  · rw [if_neg h0]
    simp -implicitDefEqProofs [D39, h1, h0, slD_nil]

theorem e40 {n : Nat} (hn : 20030 ≤ n) (z z' : Bool) {sens cats : List (List UInt8)} (hf : Few sens cats) (s : Int) (c : Nat) (s' : Int) (c' : Nat) (hr : Rok c c') : cpJ PR n 40 [rg s c s' c', strsD z sens, strsD z' cats] =
    some (.tup [srcV sens cats s c s' c', .int .i64 (errV (propV sens cats) (rangeV s c s' c' sens.length cats.length))]) := by
  obtain ⟨n, rfl⟩ : ∃ m, n = m + 1 := ⟨n - 1, by omega⟩
  have h1 := p49 (n := n) z z' hf (by omega)
  have h2 := e15 (n := n) (by omega) s c hr.lo s' c' hr.hi sens.length cats.length
  change _ = some (DVal.bool (rangeV s c s' c' sens.length cats.length)) at h2
  rw [u40]
  unfold srcV
  cases hP : propV sens cats with
  | false =>
    rw [hP] at h1
    simp -implicitDefEqProofs [D40, h1, errV, slD_nil]
  | true =>
    rw [hP] at h1
    cases hV : rangeV s c s' c' sens.length cats.length with
    | false =>
      rw [hV] at h2
      simp -implicitDefEqProofs [D40, h1, h2, errV, slD_nil]
    | true =>
      rw [hV] at h2
      obtain ⟨⟨i, i', rfl, rfl, hi, hi'⟩, hb, hb'⟩ := range_facts hr hV
      have hcl := (propV_facts hP).2
      have w1 := e54 (n := n) (by omega) z' cats hcl i c hr.lo hb
      have w2 := e54 (n := n) (by omega) z' cats hcl i' c' hr.hi hb'
      by_cases e : (i : Int) = i' ∧ c = c'
      · obtain ⟨e1, rfl⟩ := e
        obtain rfl : i = i' := by omega
        simp -implicitDefEqProofs [D40, h1, h2, w1, rowsV, slD_nil, errV, get_nm hi]
      · have e2 := lv_ne e
        have e3 := lv_ne (s := i') (c := c') (s' := i) (c' := c) (fun h => e ⟨h.1.symm, h.2.symm⟩)
        rw [if_pos (by rfl), if_neg e]
        simp -implicitDefEqProofs [D40, h1, h2, w1, w2, rowsV, e3, errV, get_nm hi, get_nm hi']

/-! Equal ranges in a source -/

/-- Rows of spans. -/
def Spans (rows : List (List DVal)) : Prop := ∀ r ∈ rows, ∃ a b, r = [.str a, .str b]

theorem l55 {n : Nat} (nm0 : List UInt8) (rows : List (List DVal)) (hr : Spans rows) (hl : rows.length ≤ 1000) (σ : Sto) : ∀ (k i m : Nat) (u : DVal), i + k = rows.length → k < m →
    iterJ 0 (L55_0 (cpJ PR n) (ciJ PR n) n (ltD nm0 rows) (ltD nm0 rows)) m [.int .i64 i, u] σ = some (.done (.bool true) σ) := by
  intro k
  induction k with
  | zero =>
    intro i m u hi hm
    obtain ⟨m, rfl⟩ : ∃ q, m = q + 1 := ⟨m - 1, by omega⟩
    have hi' : ¬ ((i : Int) < rows.length) := by omega
    refine iterJ_done ?_
    simp -implicitDefEqProofs [L55_0, B55_0, hi']
  | succ k ih =>
    intro i m u hi hm
    obtain ⟨m, rfl⟩ : ∃ q, m = q + 1 := ⟨m - 1, by omega⟩
    have hi' : ((i : Int) < rows.length) := by omega
    obtain ⟨x, hx⟩ := get_some (by omega : i < rows.length)
    obtain ⟨a, b, rfl⟩ := hr x (List.mem_of_getElem? hx)
    have hw : IntKind.i64.wrap ((i : Int) + 1) = (i : Int) + 1 := wrap_i64 (by omega) (by omega)
    rw [iterJ_next' (vs' := [.int .i64 ((i + 1 : Nat) : Int), u]) (σ' := σ) (by simp -implicitDefEqProofs [L55_0, B55_0, hi', hx, hw]), ih (i + 1) m u (by omega) (by omega)]

theorem e55 {n : Nat} (hn : 1010 ≤ n) (nm0 : List UInt8) (rows : List (List DVal)) (hr : Spans rows) (hl : rows.length ≤ 1000) : cpJ PR n 55 [ltD nm0 rows, ltD nm0 rows] = some (.bool true) := by
  obtain ⟨n, rfl⟩ : ∃ m, n = m + 1 := ⟨n - 1, by omega⟩
  have := l55 (n := n) nm0 rows hr hl emptySto rows.length 0 n (.bool false) (by omega) (by omega)
  rw [u55]
  simp only [Int.natCast_zero] at this
  simp -implicitDefEqProofs [D55, this]

theorem e41 {n : Nat} (hn : 1020 ≤ n) (n1 : List UInt8) (r1 : List (List DVal)) (n2 : List UInt8) (r2 : List (List DVal)) (h1 : Spans r1) (l1 : r1.length ≤ 1000) (h2 : Spans r2) (l2 : r2.length ≤ 1000) :
    cpJ PR n 41 [rtD n1 r1 n2 r2, rtD n1 r1 n2 r2] = some (.bool true) := by
  obtain ⟨n, rfl⟩ : ∃ m, n = m + 1 := ⟨n - 1, by omega⟩
  have a1 := e55 (n := n) (by omega) n1 r1 h1 l1
  have a2 := e55 (n := n) (by omega) n2 r2 h2 l2
  rw [u41]
  simp -implicitDefEqProofs [D41, a1, a2]

theorem spans_rowsV (cats : List (List UInt8)) (c : Nat) : Spans (rowsV cats c) ∧ (rowsV cats c).length ≤ 1000 := by
  constructor
  · intro r hr
    simp only [rowsV, List.mem_map] at hr
    obtain ⟨p, -, rfl⟩ := hr
    exact ⟨_, _, rfl⟩
  · have := runsR_len (c := c) (k := 64) (i := 0)
    simp only [rowsV, runs, List.length_map]; omega

/-- What Source answers is four cells. -/
theorem srcV_form (sens cats : List (List UInt8)) (s : Int) (c : Nat) (s' : Int) (c' : Nat) : ∃ n1 r1 n2 r2, srcV sens cats s c s' c' = rtD n1 r1 n2 r2 ∧ (Spans r1 ∧ r1.length ≤ 1000) ∧ (Spans r2 ∧ r2.length ≤ 1000) := by
  have h0 : Spans [] ∧ ([] : List (List DVal)).length ≤ 1000 := ⟨fun r hr => (by simp at hr), by simp⟩
  unfold srcV
  split
  · split
    · exact ⟨_, _, _, _, rfl, spans_rowsV _ _, h0⟩
    · exact ⟨_, _, _, _, rfl, spans_rowsV _ _, spans_rowsV _ _⟩
  · exact ⟨_, _, _, _, rfl, h0, h0⟩

/-- The law of the shortest form. -/
theorem e10 {n : Nat} (hn : 20040 ≤ n) (aw : cpJ PR n 16 [] = some (.bool true)) (z z' : Bool) (sens cats : List (List UInt8)) (s : Int) (c : Nat) (s' : Int) (c' : Nat) (hr : Rok c c') :
    cpJ PR (n + 1) 10 [rg s c s' c', .agg [strsD z sens, strsD z' cats]] = some (.bool true) := by
  have h1 := e23 (n := n) (by omega) z z' sens cats
  rw [u10]
  cases hf : fewV sens cats with
  | false =>
    rw [hf] at h1
    simp -implicitDefEqProofs [D10, h1, aw]
  | true =>
    rw [hf] at h1
    have h2 := e39 (n := n) (by omega) z z' (few_iff hf) s c s' c' hr
    have h3 := e40 (n := n) (by omega) z z' (few_iff hf) s c s' c' hr
    obtain ⟨n1, r1, n2, r2, e, ⟨a1, a2⟩, b1, b2⟩ := srcV_form sens cats s c s' c'
    rw [e] at h2 h3
    have h4 := e41 (n := n) (by omega) n1 r1 n2 r2 a1 a2 b1 b2
    simp -implicitDefEqProofs [D10, h1, h2, h3, h4, aw]

end Go.Proofs.YticbfdcfopilfaaDoor
