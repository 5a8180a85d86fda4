/- How levels are written: in a source and as a text, by the program and by the reference. -/
import Derived.Test.YticbfdcfopilfaaDoorLevR
set_option linter.unusedVariables false
set_option linter.unusedSimpArgs false
set_option maxRecDepth 20000
set_option maxHeartbeats 2000000
namespace Go.Proofs.YticbfdcfopilfaaDoor
open Go

def nm (l : List (List UInt8)) (i : Nat) : List UInt8 := l.getD i []
theorem get_nm {l : List (List UInt8)} {i : Nat} (h : i < l.length) : l[i]? = some (nm l i) := by
  unfold nm
  rw [List.getD_eq_getElem?_getD, List.getElem?_eq_getElem h]; rfl
theorem nm_mem {l : List (List UInt8)} {i : Nat} (h : i < l.length) : nm l i ∈ l := List.mem_of_getElem? (get_nm h)

theorem addS {x y : List UInt8} (h : x.length + y.length ≤ 4611686018427387904) : binStr .add x y = some (.str (x ++ y)) := by
  simp only [binStr, h, if_true]

/-- A span with names. -/
def spanRow (cats : List (List UInt8)) (p : Nat × Nat) : List DVal := [.str (nm cats p.1), .str (if p.1 < p.2 then nm cats p.2 else [])]

/-! level.written -/

theorem l53 {n : Nat} (z : Bool) (cats : List (List UInt8)) (rs : List (Nat × Nat)) (hrs : ∀ p ∈ rs, p.1 < cats.length ∧ p.2 < cats.length) (hrl : rs.length ≤ 64) (nm0 : List UInt8) (σ : Sto) :
    ∀ (k j m : Nat) (es : List (List DVal)), j + k = rs.length → k < m → es.length ≤ j →
    iterJ 0 (L53_1 (cpJ PR n) (ciJ PR n) n (strsD z cats) (slD true 2 (rs.map runRow)) (.int .i64 rs.length)) m [.int .i64 j, .agg [.str nm0, (apd σ 2 es).1]] (apd σ 2 es).2 =
      some (.done (.agg [.str nm0, (apd σ 2 (es ++ (rs.drop j).map (spanRow cats))).1]) (apd σ 2 (es ++ (rs.drop j).map (spanRow cats))).2) := by
  intro k
  induction k with
  | zero =>
    intro j m es hj hm hes
    obtain ⟨m, rfl⟩ : ∃ q, m = q + 1 := ⟨m - 1, by omega⟩
    have hj' : ¬ ((j : Int) < rs.length) := by omega
    refine iterJ_done ?_
    rw [List.drop_eq_nil_of_le (by omega)]
    simp -implicitDefEqProofs [L53_1, B53_1, hj']
  | succ k ih =>
    intro j m es hj hm hes
    obtain ⟨m, rfl⟩ : ∃ q, m = q + 1 := ⟨m - 1, by omega⟩
    have hj' : ((j : Int) < rs.length) := by omega
    obtain ⟨p, hp⟩ := get_some (by omega : j < rs.length)
    obtain ⟨h1, h2⟩ := hrs p (List.mem_of_getElem? hp)
    have g1 := get_nm h1
    have g2 := get_nm h2
    have hw : IntKind.i64.wrap ((j : Int) + 1) = (j : Int) + 1 := wrap_i64 (by omega) (by omega)
    have ha := app_apd (σ := σ) (sz := 2) (own := 1) (es := es) (r := spanRow cats p) (by omega)
    rw [drop_get hp, List.map_cons]
    rw [iterJ_next' (vs' := [.int .i64 ((j + 1 : Nat) : Int), .agg [.str nm0, (apd σ 2 (es ++ [spanRow cats p])).1]]) (σ' := (apd σ 2 (es ++ [spanRow cats p])).2), ih (j + 1) m _ (by omega) (by omega) (by simp; omega)]
    · simp
    · by_cases hlt : p.1 < p.2
      · have hlt' : (p.1 : Int) < p.2 := by omega
        simp only [spanRow, hlt, if_true] at ha ⊢
        simp -implicitDefEqProofs [L53_1, B53_1, L53_0, J53_0, hj', hp, runRow, g1, g2, hlt', ha, hw]
      · have hlt' : ¬ (p.1 : Int) < p.2 := by omega
        simp only [spanRow, hlt, if_false] at ha ⊢
        simp -implicitDefEqProofs [L53_1, B53_1, L53_0, J53_0, hj', hp, runRow, g1, hlt', ha, hw]

/-- A level as it is written in a source. -/
abbrev ltD (name : List UInt8) (rows : List (List DVal)) : DVal := .agg [.str name, slD true 2 rows]

theorem e53 {n : Nat} (hn : 120 ≤ n) (z z' : Bool) (sens cats : List (List UInt8)) (s : Nat) (hs : s < sens.length) (c : Nat) (hc : c < 18446744073709551616) (hv : ∀ j, c.testBit j = true → j < cats.length) :
    cpJ PR n 53 [lv s c, strsD z sens, strsD z' cats] = some (ltD (nm sens s) ((runs c).map (spanRow cats))) := by
  obtain ⟨n, rfl⟩ : ∃ m, n = m + 1 := ⟨n - 1, by omega⟩
  have hl := runsR_len (c := c) (k := 64) (i := 0)
  have := l53 (n := n) z' cats (runs c) (fun p hp => ⟨hv _ (runsR_bits hp).1, hv _ (runsR_bits hp).2.1⟩) hl (nm sens s) emptySto (runs c).length 0 n [] (by omega) (by unfold runs; omega) (by simp)
  rw [u53]
  simp only [Int.natCast_zero, List.nil_append, List.drop_zero] at this
  have e : apd emptySto 2 [] = (.nils, emptySto) := rfl
  rw [e] at this
  simp -implicitDefEqProofs [D53, e56 (n := n) (by omega) c hc, get_nm hs, this]

/-! The reference's spans -/

theorem hasC_succ (c : Nat) (t : Nat) : hasC c ((t : Int) + 1) = true ↔ t + 1 < 64 ∧ c.testBit (t + 1) = true := by
  unfold hasC
  simp only [Bool.and_eq_true, decide_eq_true_eq]
  constructor
  · rintro ⟨⟨-, h2⟩, h3⟩
    exact ⟨by omega, by simpa using h3⟩
  · rintro ⟨h1, h2⟩
    exact ⟨⟨by omega, by omega⟩, by simpa using h2⟩

theorem l54_0 {n : Nat} (hn : 2 ≤ n) (z : Bool) (cats : List (List UInt8)) (s : Int) (c : Nat) (hc : c < 18446744073709551616) (hv : ∀ j, c.testBit j = true → j < cats.length) (σ : Sto) (es : List (List DVal)) (hes : es.length ≤ 1000) (i : Nat) :
    ∀ (k t m : Nat), 63 ≤ t + k → i ≤ t → t ≤ 63 → k < m →
    iterJ 1 (L54_0 (cpJ PR n) (ciJ PR n) n (strsD z cats) (lv s c) (apd σ 2 es).1) m [.int .i64 t, .agg [.str (nm cats i), .str (if i < t then nm cats t else [])]] (apd σ 2 es).2 =
      some (.next 0 [.int .i64 ((endR c k t + 1 : Nat) : Int), (apd σ 2 (es ++ [spanRow cats (i, endR c k t)])).1] (apd σ 2 (es ++ [spanRow cats (i, endR c k t)])).2) := by
  intro k
  have stop : ∀ t m, i ≤ t → t ≤ 63 → ¬ (t + 1 < 64 ∧ c.testBit (t + 1) = true) → 0 < m →
      iterJ 1 (L54_0 (cpJ PR n) (ciJ PR n) n (strsD z cats) (lv s c) (apd σ 2 es).1) m [.int .i64 t, .agg [.str (nm cats i), .str (if i < t then nm cats t else [])]] (apd σ 2 es).2 =
      some (.next 0 [.int .i64 ((t + 1 : Nat) : Int), (apd σ 2 (es ++ [spanRow cats (i, t)])).1] (apd σ 2 (es ++ [spanRow cats (i, t)])).2) := by
    intro t m hit ht hno hm
    obtain ⟨m, rfl⟩ : ∃ q, m = q + 1 := ⟨m - 1, by omega⟩
    have hw : IntKind.i64.wrap ((t : Int) + 1) = (t : Int) + 1 := wrap_i64 (by omega) (by omega)
    have he := e42 (n := n) (by omega) s c hc ((t : Int) + 1)
    have hh : hasC c ((t : Int) + 1) = false := by
      cases h : hasC c ((t : Int) + 1) with
      | false => rfl
      | true => exact absurd ((hasC_succ c t).1 h) hno
    rw [hh] at he
    have ha := app_apd (σ := σ) (sz := 2) (own := 1) (es := es) (r := spanRow cats (i, t)) (by omega)
    refine iterJ_out ?_ (by decide)
    simp only [spanRow] at ha ⊢
    generalize (if i < t then nm cats t else []) = q at ha ⊢
    simp -implicitDefEqProofs [L54_0, B54_0, hw, he, ha]
  induction k with
  | zero =>
    intro t m ht hit ht' hm
    exact stop t m hit ht' (by omega) hm
  | succ k ih =>
    intro t m ht hit ht' hm
    by_cases hgo : t + 1 < 64 ∧ c.testBit (t + 1) = true
    · obtain ⟨m, rfl⟩ : ∃ q, m = q + 1 := ⟨m - 1, by omega⟩
      have hw : IntKind.i64.wrap ((t : Int) + 1) = (t : Int) + 1 := wrap_i64 (by omega) (by omega)
      have he := e42 (n := n) (by omega) s c hc ((t : Int) + 1)
      rw [(hasC_succ c t).2 hgo] at he
      have g1 := get_nm (hv _ hgo.2)
      rw [iterJ_next' (vs' := [.int .i64 ((t + 1 : Nat) : Int), .agg [.str (nm cats i), .str (if i < t + 1 then nm cats (t + 1) else [])]]) (σ' := (apd σ 2 es).2), ih (t + 1) m (by omega) (by omega) (by omega) (by omega)]
      · simp [endR, hgo]
      · have : i < t + 1 := by omega
        rw [if_pos this]
        generalize (if i < t then nm cats t else []) = q
        have hneg : (0 : Int) ≤ (t : Int) + 1 := by omega
        simp -implicitDefEqProofs [L54_0, B54_0, hw, he, g1, hneg]
    · have e : endR c (k + 1) t = t := by unfold endR; rw [if_neg hgo]
      rw [e]
      exact stop t m hit ht' hgo (by omega)

theorem l54_1 {n : Nat} (hn : 100 ≤ n) (z : Bool) (cats : List (List UInt8)) (hcl : cats.length ≤ 64) (s : Int) (c : Nat) (hc : c < 18446744073709551616) (hv : ∀ j, c.testBit j = true → j < cats.length) (σ : Sto) :
    ∀ (k i m : Nat) (es : List (List DVal)), 64 ≤ i + k → i ≤ 64 → k < m → es.length ≤ i →
    iterJ 0 (L54_1 (cpJ PR n) (ciJ PR n) n (strsD z cats) (lv s c)) m [.int .i64 i, (apd σ 2 es).1] (apd σ 2 es).2 =
      some (.done (apd σ 2 (es ++ (runsR c k i).map (spanRow cats))).1 (apd σ 2 (es ++ (runsR c k i).map (spanRow cats))).2) := by
  intro k
  have stop : ∀ k i m (es : List (List DVal)), cats.length ≤ i → 0 < m →
      iterJ 0 (L54_1 (cpJ PR n) (ciJ PR n) n (strsD z cats) (lv s c)) m [.int .i64 i, (apd σ 2 es).1] (apd σ 2 es).2 =
      some (.done (apd σ 2 (es ++ (runsR c k i).map (spanRow cats))).1 (apd σ 2 (es ++ (runsR c k i).map (spanRow cats))).2) := by
    intro k i m es hi hm
    obtain ⟨m, rfl⟩ : ∃ q, m = q + 1 := ⟨m - 1, by omega⟩
    have hno : runsR c k i = [] := runsR_none fun j hj => by
      cases h : c.testBit j with
      | false => rfl
      | true => have := hv j h; omega
    have hi' : ¬ ((i : Int) < cats.length) := by omega
    refine iterJ_done ?_
    simp -implicitDefEqProofs [L54_1, B54_1, hno, hi']
  induction k with
  | zero =>
    intro i m es hi hi' hm hes
    exact stop 0 i m es (by omega) (by omega)
  | succ k ih =>
    intro i m es hi hi' hm hes
    by_cases hlen : i < cats.length
    · obtain ⟨m, rfl⟩ : ∃ q, m = q + 1 := ⟨m - 1, by omega⟩
      have hlt : i < 64 := by omega
      have hlen' : ((i : Int) < cats.length) := by omega
      have hw : IntKind.i64.wrap ((i : Int) + 1) = (i : Int) + 1 := wrap_i64 (by omega) (by omega)
      have he := e42 (n := n) (by omega) s c hc i
      rw [hasC_lt c i hlt] at he
      have hl := l54_0 (n := n) (by omega) z cats s c hc hv σ es (by omega) i 64 i n (by omega) (by omega) (by omega) (by omega)
      rw [if_neg (by omega)] at hl
      have g1 := get_nm hlen
      unfold runsR
      cases hbit : c.testBit i with
      | true =>
        rw [hbit] at he
        have hle := endR_le (c := c) (k := 64) (t := i) (by omega)
        rw [iterJ_next' (vs' := [.int .i64 ((endR c 64 i + 1 : Nat) : Int), (apd σ 2 (es ++ [spanRow cats (i, endR c 64 i)])).1]) (σ' := (apd σ 2 (es ++ [spanRow cats (i, endR c 64 i)])).2), ih (endR c 64 i + 1) m _ (by omega) (by omega) (by omega) (by simp; omega)]
        · simp [hlt]
        · rw [← hl]
          simp -implicitDefEqProofs [L54_1, B54_1, hlen', he, g1]
      | false =>
        rw [hbit] at he
        rw [iterJ_next' (vs' := [.int .i64 ((i + 1 : Nat) : Int), (apd σ 2 es).1]) (σ' := (apd σ 2 es).2), ih (i + 1) m es (by omega) (by omega) (by omega) (by omega)]
        · simp [hlt]
        · simp -implicitDefEqProofs [L54_1, B54_1, hlen', he, hw]
    · exact stop (k + 1) i m es (by omega) (by omega)

theorem e54 {n : Nat} (hn : 110 ≤ n) (z : Bool) (cats : List (List UInt8)) (hcl : cats.length ≤ 64) (s : Int) (c : Nat) (hc : c < 18446744073709551616) (hv : ∀ j, c.testBit j = true → j < cats.length) :
    cpJ PR n 54 [lv s c, strsD z cats] = some (frD 2 ((runs c).map (spanRow cats))) := by
  obtain ⟨n, rfl⟩ : ∃ m, n = m + 1 := ⟨n - 1, by omega⟩
  have := l54_1 (n := n) (by omega) z cats hcl s c hc hv emptySto 64 0 n [] (by omega) (by omega) (by omega) (by simp)
  rw [u54]
  simp only [Int.natCast_zero, List.nil_append] at this
  have e : apd emptySto 2 [] = (.nils, emptySto) := rfl
  rw [e] at this
  simp -implicitDefEqProofs [D54, this, runs]

end Go.Proofs.YticbfdcfopilfaaDoor
