/- How the reference reads a text. -/
import Derived.Test.YticbfdcfopilfaaDoorLevP2
set_option linter.unusedVariables false
set_option linter.unusedSimpArgs false
set_option maxRecDepth 20000
set_option maxHeartbeats 4000000
namespace Go.Proofs.YticbfdcfopilfaaDoor
open Go

theorem l73 {n : Nat} (hn : 2 ≤ n) (s : Bs) (hs : s.length ≤ 100000) (σ : Sto) : ∀ (k i m : Nat), i + k = s.length → k < m →
    iterJ 0 (L73_0 (cpJ PR n) (ciJ PR n) n (.str s)) m [.int .i64 i] σ = some (.done (.int .i64 ((i + (tw (s.drop i)).length : Nat) : Int)) σ) := by
  intro k
  induction k with
  | zero =>
    intro i m hi hm
    obtain ⟨m, rfl⟩ : ∃ q, m = q + 1 := ⟨m - 1, by omega⟩
    have hi' : ¬ ((i : Int) < s.length) := by omega
    refine iterJ_done ?_
    rw [List.drop_eq_nil_of_le (by omega)]
    simp -implicitDefEqProofs [L73_0, B73_0, hi', tw]
  | succ k ih =>
    intro i m hi hm
    obtain ⟨m, rfl⟩ : ∃ q, m = q + 1 := ⟨m - 1, by omega⟩
    have hi' : ((i : Int) < s.length) := by omega
    obtain ⟨x, hx⟩ := get_some (by omega : i < s.length)
    have hw : IntKind.i64.wrap ((i : Int) + 1) = (i : Int) + 1 := wrap_i64 (by omega) (by omega)
    have he := e72 (n := n) (by omega) x.toNat
    rw [drop_get hx]
    cases hb : chV x.toNat with
    | true =>
      rw [hb] at he
      rw [iterJ_next' (vs' := [.int .i64 ((i + 1 : Nat) : Int)]) (σ' := σ) (by simp -implicitDefEqProofs [L73_0, B73_0, hi', hx, he, hw]), ih (i + 1) m (by omega) (by omega)]
      have : tw (x :: s.drop (i + 1)) = x :: tw (s.drop (i + 1)) := by simp [tw, isL, hb]
      rw [this]
      simp only [List.length_cons]
      congr 4
      omega
    | false =>
      rw [hb] at he
      refine iterJ_done ?_
      have : tw (x :: s.drop (i + 1)) = [] := by simp [tw, isL, hb]
      rw [this]
      simp -implicitDefEqProofs [L73_0, B73_0, hi', hx, he]

theorem take_tw (u : Bs) : u.take (tw u).length = tw u ∧ u.drop (tw u).length = dw u := by
  have e := tw_dw u
  generalize tw u = a at e ⊢
  generalize dw u = b at e ⊢
  subst e
  simp

/-- What word says of a place. -/
theorem e73 {n : Nat} (s : Bs) (hs : s.length ≤ 2000) (hn : 3000 ≤ n) (a : Nat) (ha : a ≤ s.length) :
    ∃ b : Nat, cpJ PR n 73 [.str s, .int .i64 a] = some (.int .i64 b) ∧ a ≤ b ∧ b ≤ s.length ∧ (s.drop a).take (b - a) = tw (s.drop a) ∧ s.drop b = dw (s.drop a) ∧ (b = a ↔ tw (s.drop a) = []) := by
  obtain ⟨n, rfl⟩ : ∃ m, n = m + 1 := ⟨n - 1, by omega⟩
  have h := l73 (n := n) (by omega) s (by omega) emptySto (s.length - a) a n (by omega) (by omega)
  have e := tw_dw (s.drop a)
  have hlen : (tw (s.drop a)).length + (dw (s.drop a)).length = s.length - a := by rw [← List.length_append, e, List.length_drop]
  refine ⟨a + (tw (s.drop a)).length, ?_, by omega, by omega, ?_, ?_, ?_⟩
  · rw [u73]
    simp -implicitDefEqProofs only [D73, h, finP_done, DVal.handBack, DVal.sealVal, DVal.sealCell]
  · rw [show a + (tw (s.drop a)).length - a = (tw (s.drop a)).length by omega]
    exact (take_tw _).1
  · rw [← List.drop_drop]
    exact (take_tw _).2
  · constructor
    · intro h; exact List.eq_nil_of_length_eq_zero (by omega)
    · intro h; rw [h]; simp

theorem slc_ij {s : Bs} {a b : Nat} (h1 : a ≤ b) (h2 : b ≤ s.length) : slcSSem true true [.str s, .int .i64 a, .int .i64 b] = some (.str ((s.drop a).take (b - a))) := by
  have e1 : (0 : Int) ≤ b ∧ (b : Int) ≤ s.length := by omega
  have e2 : (0 : Int) ≤ a ∧ (a : Int) ≤ (b : Int) := by omega
  simp only [slcSSem, bounds, e1, and_self, if_true, Int.toNat_natCast, e2, Option.map_some]

theorem u8_eq (c d : UInt8) : (((c.toNat : Nat) : Int) == ((d.toNat : Nat) : Int)) = decide (c = d) := by
  by_cases h : c = d
  · subst h; simp
  · have : ¬ (((c.toNat : Nat) : Int) = ((d.toNat : Nat) : Int)) := fun e => h (UInt8.toNat_inj.1 (by omega))
    simp [h, this]


/-- A round of the reference's level, at its first span. -/
theorem step64a {n : Nat} (hn : 3000 ≤ n) (s : Bs) (hs : s.length ≤ 2000) (name : Bs) (σ : Sto) (k i0 : Nat) (hlt : k < s.length) (c : UInt8) (hc : s[k]? = some c) :
    (c ≠ 58 → L64_1 (cpJ PR n) (ciJ PR n) n (.str s) [.int .i64 k, .bool false, .int .i64 0, .int .i64 i0, .agg [.str name, (apd σ 2 []).1], .agg [.str [], .nils]] (apd σ 2 []).2 = some (.done (.tup [.agg [.str name, (apd σ 2 []).1], .int .i64 k, .bool true]) (apd σ 2 []).2)) ∧
    (c = 58 → ∀ u, s.drop (k + 1) = u →
      (tw u = [] → ∃ b : Nat, L64_1 (cpJ PR n) (ciJ PR n) n (.str s) [.int .i64 k, .bool false, .int .i64 0, .int .i64 i0, .agg [.str name, (apd σ 2 []).1], .agg [.str [], .nils]] (apd σ 2 []).2 = some (.done (.tup [.agg [.str name, (apd σ 2 []).1], .int .i64 b, .bool false]) (apd σ 2 []).2)) ∧
      (tw u ≠ [] → (∀ v, dw u ≠ 46 :: v) → ∃ b i1 : Nat, k < b ∧ b ≤ s.length ∧ s.drop b = dw u ∧ L64_1 (cpJ PR n) (ciJ PR n) n (.str s) [.int .i64 k, .bool false, .int .i64 0, .int .i64 i0, .agg [.str name, (apd σ 2 []).1], .agg [.str [], .nils]] (apd σ 2 []).2 = some (.next 0 [.int .i64 b, .bool false, .int .i64 0, .int .i64 i1, .agg [.str name, (apd σ 2 ([] ++ [spRow (tw u, [])])).1], .agg [.str [], .nils]] (apd σ 2 ([] ++ [spRow (tw u, [])])).2)) ∧
      (tw u ≠ [] → ∀ v, dw u = 46 :: v →
        (tw v = [] → ∃ b : Nat, L64_1 (cpJ PR n) (ciJ PR n) n (.str s) [.int .i64 k, .bool false, .int .i64 0, .int .i64 i0, .agg [.str name, (apd σ 2 []).1], .agg [.str [], .nils]] (apd σ 2 []).2 = some (.done (.tup [.agg [.str name, (apd σ 2 []).1], .int .i64 b, .bool false]) (apd σ 2 []).2)) ∧
        (tw v ≠ [] → ∃ b i1 : Nat, k < b ∧ b ≤ s.length ∧ s.drop b = dw v ∧ L64_1 (cpJ PR n) (ciJ PR n) n (.str s) [.int .i64 k, .bool false, .int .i64 0, .int .i64 i0, .agg [.str name, (apd σ 2 []).1], .agg [.str [], .nils]] (apd σ 2 []).2 = some (.next 0 [.int .i64 b, .bool false, .int .i64 0, .int .i64 i1, .agg [.str name, (apd σ 2 ([] ++ [spRow (tw u, tw v)])).1], .agg [.str [], .nils]] (apd σ 2 ([] ++ [spRow (tw u, tw v)])).2)))) := by
  have hlt' : ((k : Int) < s.length) := by omega
  have cq := u8_eq c 58
  have tq : (((58 : UInt8).toNat : Nat) : Int) = 58 := by decide
  rw [tq] at cq
  constructor
  · intro hne0
    have cq' : ((c.toNat : Int) == 58) = false := by rw [cq]; simp [hne0]
    have cq2 : ¬ ((c.toNat : Int) = 58) := by simpa using cq'
    simp -implicitDefEqProofs [L64_1, B64_1, hlt', hc, cq', cq2, apd]
  · rintro rfl u hu
    obtain ⟨k1, hk1, hw1⟩ : ∃ k1 : Nat, k1 = k + 1 ∧ IntKind.i64.wrap ((k : Int) + 1) = (k1 : Int) := ⟨k + 1, rfl, by rw [wrap_i64 (by omega) (by omega)]; rfl⟩
    have hu1 : s.drop k1 = u := by rw [hk1]; exact hu
    obtain ⟨b, w1, w2, w3, w4, w5, w6⟩ := e73 (n := n) s hs hn k1 (by omega)
    rw [hu1] at w4 w5 w6
    have hsl := slc_ij w2 w3
    rw [hu1, w4] at hsl
    refine ⟨fun hf => ⟨b, ?_⟩, fun hf hno => ?_, fun hf v hv => ?_⟩
    · have hbe : ((b : Int) == (k1 : Int)) = true := by rw [w6.2 hf]; simp
      simp -implicitDefEqProofs [L64_1, B64_1, hlt', hc, hw1, w1, hsl, hbe, apd]
    · have hbne : b ≠ k1 := fun h => hf (w6.1 h)
      have hbe : ((b : Int) == (k1 : Int)) = false := by simp; omega
      have ha := app_apd (σ := σ) (sz := 2) (own := 1) (es := []) (r := spRow (tw u, [])) (by simp; try omega)
      refine ⟨b, k1, by omega, w3, w5, ?_⟩
      by_cases hbl : b < s.length
      · have hbl' : ((b : Int) < s.length) := by omega
        obtain ⟨d, hd⟩ := get_some hbl
        have hd46 : d ≠ 46 := fun h => by subst h; exact hno (s.drop (b + 1)) (by rw [← w5, drop_get hd])
        have dq := u8_eq d 46
        have tq2 : (((46 : UInt8).toNat : Nat) : Int) = 46 := by decide
        rw [tq2] at dq
        have dq' : ((d.toNat : Int) == 46) = false := by rw [dq]; simp [hd46]
        have dq2 : ¬ ((d.toNat : Int) = 46) := by simpa using dq'
        simp only [spRow, apd, List.nil_append] at ha ⊢
        simp -implicitDefEqProofs [L64_1, B64_1, L64_0, J64_0, hlt', hc, hw1, w1, hsl, hbe, hbl', hd, dq', dq2, ha, apd]
      · have hbl' : ¬ ((b : Int) < s.length) := by omega
        simp only [spRow, apd, List.nil_append] at ha ⊢
        simp -implicitDefEqProofs [L64_1, B64_1, L64_0, J64_0, hlt', hc, hw1, w1, hsl, hbe, hbl', ha, apd]
    · have hbne : b ≠ k1 := fun h => hf (w6.1 h)
      have hbe : ((b : Int) == (k1 : Int)) = false := by simp; omega
      have hbl : b < s.length := by
        refine Nat.lt_of_not_le fun h => ?_
        rw [List.drop_eq_nil_of_le h, hv] at w5
        cases w5
      have hbl' : ((b : Int) < s.length) := by omega
      have hd : s[b]? = some 46 := by
        have : (s.drop b)[0]? = some 46 := by rw [w5, hv]; rfl
        simpa using this
      obtain ⟨k2, hk2, hw2⟩ : ∃ k2 : Nat, k2 = b + 1 ∧ IntKind.i64.wrap ((b : Int) + 1) = (k2 : Int) := ⟨b + 1, rfl, by rw [wrap_i64 (by omega) (by omega)]; rfl⟩
      have hv1 : s.drop k2 = v := by
        have := drop_get hd
        rw [w5, hv] at this
        rw [hk2]
        exact (List.cons.inj this).2.symm
      obtain ⟨b2, x1, x2, x3, x4, x5, x6⟩ := e73 (n := n) s hs hn k2 (by omega)
      rw [hv1] at x4 x5 x6
      have hsl2 := slc_ij x2 x3
      rw [hv1, x4] at hsl2
      refine ⟨fun ht => ⟨b2, ?_⟩, fun ht => ⟨b2, k2, by omega, x3, x5, ?_⟩⟩
      · have hbe2 : ((b2 : Int) == (k2 : Int)) = true := by rw [x6.2 ht]; simp
        simp -implicitDefEqProofs [L64_1, B64_1, L64_0, J64_0, hlt', hc, hw1, w1, hsl, hbe, hbl', hd, hw2, x1, hsl2, hbe2, apd]
      · have hbne2 : b2 ≠ k2 := fun h => ht (x6.1 h)
        have hbe2 : ((b2 : Int) == (k2 : Int)) = false := by simp; omega
        have ha := app_apd (σ := σ) (sz := 2) (own := 1) (es := []) (r := spRow (tw u, tw v)) (by simp; try omega)
        simp only [spRow, apd, List.nil_append] at ha ⊢
        simp -implicitDefEqProofs [L64_1, B64_1, L64_0, J64_0, hlt', hc, hw1, w1, hsl, hbe, hbl', hd, hw2, x1, hsl2, hbe2, ha, apd]

/-- A round of the reference's level, behind its first span. -/
theorem step64b {n : Nat} (hn : 3000 ≤ n) (s : Bs) (hs : s.length ≤ 2000) (name : Bs) (σ : Sto) (k i0 : Nat) (es : List (List DVal)) (hne : es ≠ []) (hes : es.length ≤ 2000) (hlt : k < s.length) (c : UInt8) (hc : s[k]? = some c) :
    (c ≠ 44 → L64_1 (cpJ PR n) (ciJ PR n) n (.str s) [.int .i64 k, .bool false, .int .i64 0, .int .i64 i0, .agg [.str name, (apd σ 2 es).1], .agg [.str [], .nils]] (apd σ 2 es).2 = some (.done (.tup [.agg [.str name, (apd σ 2 es).1], .int .i64 k, .bool true]) (apd σ 2 es).2)) ∧
    (c = 44 → ∀ u, s.drop (k + 1) = u →
      (tw u = [] → ∃ b : Nat, L64_1 (cpJ PR n) (ciJ PR n) n (.str s) [.int .i64 k, .bool false, .int .i64 0, .int .i64 i0, .agg [.str name, (apd σ 2 es).1], .agg [.str [], .nils]] (apd σ 2 es).2 = some (.done (.tup [.agg [.str name, (apd σ 2 es).1], .int .i64 b, .bool false]) (apd σ 2 es).2)) ∧
      (tw u ≠ [] → (∀ v, dw u ≠ 46 :: v) → ∃ b i1 : Nat, k < b ∧ b ≤ s.length ∧ s.drop b = dw u ∧ L64_1 (cpJ PR n) (ciJ PR n) n (.str s) [.int .i64 k, .bool false, .int .i64 0, .int .i64 i0, .agg [.str name, (apd σ 2 es).1], .agg [.str [], .nils]] (apd σ 2 es).2 = some (.next 0 [.int .i64 b, .bool false, .int .i64 0, .int .i64 i1, .agg [.str name, (apd σ 2 (es ++ [spRow (tw u, [])])).1], .agg [.str [], .nils]] (apd σ 2 (es ++ [spRow (tw u, [])])).2)) ∧
      (tw u ≠ [] → ∀ v, dw u = 46 :: v →
        (tw v = [] → ∃ b : Nat, L64_1 (cpJ PR n) (ciJ PR n) n (.str s) [.int .i64 k, .bool false, .int .i64 0, .int .i64 i0, .agg [.str name, (apd σ 2 es).1], .agg [.str [], .nils]] (apd σ 2 es).2 = some (.done (.tup [.agg [.str name, (apd σ 2 es).1], .int .i64 b, .bool false]) (apd σ 2 es).2)) ∧
        (tw v ≠ [] → ∃ b i1 : Nat, k < b ∧ b ≤ s.length ∧ s.drop b = dw v ∧ L64_1 (cpJ PR n) (ciJ PR n) n (.str s) [.int .i64 k, .bool false, .int .i64 0, .int .i64 i0, .agg [.str name, (apd σ 2 es).1], .agg [.str [], .nils]] (apd σ 2 es).2 = some (.next 0 [.int .i64 b, .bool false, .int .i64 0, .int .i64 i1, .agg [.str name, (apd σ 2 (es ++ [spRow (tw u, tw v)])).1], .agg [.str [], .nils]] (apd σ 2 (es ++ [spRow (tw u, tw v)])).2)))) := by
  have hlt' : ((k : Int) < s.length) := by omega
  have cq := u8_eq c 44
  have tq : (((44 : UInt8).toNat : Nat) : Int) = 44 := by decide
  rw [tq] at cq
  have hl0 : ¬ es.length = 0 := by have := List.length_pos_iff.2 hne; omega
  have hpos : 0 < es.length := List.length_pos_iff.2 hne
  have hposI : (0 : Int) < es.length := by omega
  have q1 : ((es.length : Int) == 0) = false := by simp [hne]
  constructor
  · intro hne0
    have cq' : ((c.toNat : Int) == 44) = false := by rw [cq]; simp [hne0]
    have cq2 : ¬ ((c.toNat : Int) = 44) := by simpa using cq'
    simp -implicitDefEqProofs [L64_1, B64_1, hlt', hc, cq', cq2, hne, hl0, hpos, hposI, q1]
  · rintro rfl u hu
    obtain ⟨k1, hk1, hw1⟩ : ∃ k1 : Nat, k1 = k + 1 ∧ IntKind.i64.wrap ((k : Int) + 1) = (k1 : Int) := ⟨k + 1, rfl, by rw [wrap_i64 (by omega) (by omega)]; rfl⟩
    have hu1 : s.drop k1 = u := by rw [hk1]; exact hu
    obtain ⟨b, w1, w2, w3, w4, w5, w6⟩ := e73 (n := n) s hs hn k1 (by omega)
    rw [hu1] at w4 w5 w6
    have hsl := slc_ij w2 w3
    rw [hu1, w4] at hsl
    refine ⟨fun hf => ⟨b, ?_⟩, fun hf hno => ?_, fun hf v hv => ?_⟩
    · have hbe : ((b : Int) == (k1 : Int)) = true := by rw [w6.2 hf]; simp
      simp -implicitDefEqProofs [L64_1, B64_1, hlt', hc, hw1, w1, hsl, hbe, hne, hl0, hpos, hposI, q1]
    · have hbne : b ≠ k1 := fun h => hf (w6.1 h)
      have hbe : ((b : Int) == (k1 : Int)) = false := by simp; omega
      have ha := app_apd (σ := σ) (sz := 2) (own := 1) (es := es) (r := spRow (tw u, [])) (by simp; try omega)
      refine ⟨b, k1, by omega, w3, w5, ?_⟩
      by_cases hbl : b < s.length
      · have hbl' : ((b : Int) < s.length) := by omega
        obtain ⟨d, hd⟩ := get_some hbl
        have hd46 : d ≠ 46 := fun h => by subst h; exact hno (s.drop (b + 1)) (by rw [← w5, drop_get hd])
        have dq := u8_eq d 46
        have tq2 : (((46 : UInt8).toNat : Nat) : Int) = 46 := by decide
        rw [tq2] at dq
        have dq' : ((d.toNat : Int) == 46) = false := by rw [dq]; simp [hd46]
        have dq2 : ¬ ((d.toNat : Int) = 46) := by simpa using dq'
        simp only [spRow] at ha ⊢
        simp -implicitDefEqProofs [L64_1, B64_1, L64_0, J64_0, hlt', hc, hw1, w1, hsl, hbe, hbl', hd, dq', dq2, ha, hne, hl0, hpos, hposI, q1]
      · have hbl' : ¬ ((b : Int) < s.length) := by omega
        simp only [spRow] at ha ⊢
        simp -implicitDefEqProofs [L64_1, B64_1, L64_0, J64_0, hlt', hc, hw1, w1, hsl, hbe, hbl', ha, hne, hl0, hpos, hposI, q1]
    · have hbne : b ≠ k1 := fun h => hf (w6.1 h)
      have hbe : ((b : Int) == (k1 : Int)) = false := by simp; omega
      have hbl : b < s.length := by
        refine Nat.lt_of_not_le fun h => ?_
        rw [List.drop_eq_nil_of_le h, hv] at w5
        cases w5
      have hbl' : ((b : Int) < s.length) := by omega
      have hd : s[b]? = some 46 := by
        have : (s.drop b)[0]? = some 46 := by rw [w5, hv]; rfl
        simpa using this
      obtain ⟨k2, hk2, hw2⟩ : ∃ k2 : Nat, k2 = b + 1 ∧ IntKind.i64.wrap ((b : Int) + 1) = (k2 : Int) := ⟨b + 1, rfl, by rw [wrap_i64 (by omega) (by omega)]; rfl⟩
      have hv1 : s.drop k2 = v := by
        have := drop_get hd
        rw [w5, hv] at this
        rw [hk2]
        exact (List.cons.inj this).2.symm
      obtain ⟨b2, x1, x2, x3, x4, x5, x6⟩ := e73 (n := n) s hs hn k2 (by omega)
      rw [hv1] at x4 x5 x6
      have hsl2 := slc_ij x2 x3
      rw [hv1, x4] at hsl2
      refine ⟨fun ht => ⟨b2, ?_⟩, fun ht => ⟨b2, k2, by omega, x3, x5, ?_⟩⟩
      · have hbe2 : ((b2 : Int) == (k2 : Int)) = true := by rw [x6.2 ht]; simp
        simp -implicitDefEqProofs [L64_1, B64_1, L64_0, J64_0, hlt', hc, hw1, w1, hsl, hbe, hbl', hd, hw2, x1, hsl2, hbe2, hne, hl0, hpos, hposI, q1]
      · have hbne2 : b2 ≠ k2 := fun h => ht (x6.1 h)
        have hbe2 : ((b2 : Int) == (k2 : Int)) = false := by simp; omega
        have ha := app_apd (σ := σ) (sz := 2) (own := 1) (es := es) (r := spRow (tw u, tw v)) (by simp; try omega)
        simp only [spRow] at ha ⊢
        simp -implicitDefEqProofs [L64_1, B64_1, L64_0, J64_0, hlt', hc, hw1, w1, hsl, hbe, hbl', hd, hw2, x1, hsl2, hbe2, ha, hne, hl0, hpos, hposI, q1]


theorem spansR_cons (k : Nat) (first : Bool) (c : UInt8) (u : Bs) : spansR (k + 1) first (c :: u) = if c = sepB first then
        if tw u = [] then none
        else match dw u with
          | 46 :: v => if tw v = [] then none else (spansR k false (dw v)).map fun x => ((tw u, tw v) :: x.1, x.2)
          | w => (spansR k false w).map fun x => ((tw u, []) :: x.1, x.2)
      else some ([], c :: u) := rfl

abbrev st64 (k i0 : Nat) (name : Bs) (d : DVal) : List DVal := [.int .i64 k, .bool false, .int .i64 0, .int .i64 i0, .agg [.str name, d], .agg [.str [], .nils]]

/-- What the loop of the reference's level leads to. -/
def Res64 (s name : Bs) (σ : Sto) (o : Option (List (Bs × Bs) × Bs)) (es : List (List DVal)) (r : Option Out) : Prop :=
  match o with
  | some (sp, rest) => r = some (.done (.tup [.agg [.str name, (apd σ 2 (es ++ sp.map spRow)).1], .int .i64 ((s.length - rest.length : Nat) : Int), .bool true]) (apd σ 2 (es ++ sp.map spRow)).2) ∧ rest.length ≤ s.length ∧ s.drop (s.length - rest.length) = rest
  | none => ∃ (es' : List (List DVal)) (k' : Nat), r = some (.done (.tup [.agg [.str name, (apd σ 2 es').1], .int .i64 k', .bool false]) (apd σ 2 es').2)

theorem rest_here {s : Bs} {k : Nat} (hk : k ≤ s.length) : (s.drop k).length ≤ s.length ∧ s.length - (s.drop k).length = k := by
  rw [List.length_drop]; omega

theorem res64_map {s name : Bs} {σ : Sto} {o : Option (List (Bs × Bs) × Bs)} {es : List (List DVal)} {r : Option Out} (p : Bs × Bs) (h : Res64 s name σ o (es ++ [spRow p]) r) : Res64 s name σ (o.map fun x => (p :: x.1, x.2)) es r := by
  cases o with
  | none => exact h
  | some x => obtain ⟨sp, rest⟩ := x; simpa [Res64] using h

theorem l64b {n : Nat} (hn : 3000 ≤ n) (s : Bs) (hs : s.length ≤ 2000) (name : Bs) (σ : Sto) : ∀ (K k m i0 : Nat) (es : List (List DVal)), es ≠ [] → k ≤ s.length → s.length - k < K → K ≤ m → es.length ≤ k →
    Res64 s name σ (spansR K false (s.drop k)) es (iterJ 0 (L64_1 (cpJ PR n) (ciJ PR n) n (.str s)) m (st64 k i0 name (apd σ 2 es).1) (apd σ 2 es).2) := by
  intro K
  induction K with
  | zero => intro k m i0 es _ h1 h2; omega
  | succ K ih =>
    intro k m i0 es hne hk hK hm hes
    obtain ⟨m, rfl⟩ : ∃ q, m = q + 1 := ⟨m - 1, by omega⟩
    by_cases hlt : k < s.length
    · obtain ⟨c, hc⟩ := get_some hlt
      obtain ⟨a1, a2⟩ := step64b (n := n) hn s hs name σ k i0 es hne (by omega) hlt c hc
      have hdrop := drop_get hc
      by_cases hsep : c = 44
      · obtain ⟨b1, b2, b3⟩ := a2 hsep _ rfl
        rw [hdrop, spansR_cons, if_pos (by rw [hsep]; rfl)]
        by_cases hf : tw (s.drop (k + 1)) = []
        · rw [if_pos hf]
          obtain ⟨b, hb⟩ := b1 hf
          exact ⟨es, b, iterJ_done hb⟩
        · rw [if_neg hf]
          split
          · rename_i v hv
            obtain ⟨c1, c2⟩ := b3 hf v hv
            by_cases ht : tw v = []
            · rw [if_pos ht]
              obtain ⟨b, hb⟩ := c1 ht
              exact ⟨es, b, iterJ_done hb⟩
            · rw [if_neg ht]
              obtain ⟨b, i1, d1, d2, d3, d4⟩ := c2 ht
              rw [iterJ_next' d4, ← d3]
              exact res64_map _ (ih b m i1 _ (by simp) d2 (by omega) (by omega) (by simp; omega))
          · rename_i w hno
            obtain ⟨b, i1, d1, d2, d3, d4⟩ := b2 hf (fun v hv => hno v hv)
            rw [iterJ_next' d4, ← d3]
            exact res64_map _ (ih b m i1 _ (by simp) d2 (by omega) (by omega) (by simp; omega))
      · rw [hdrop, spansR_cons, if_neg (show ¬ c = sepB false from hsep), ← hdrop]
        obtain ⟨r1, r2⟩ := rest_here hk
        refine ⟨?_, r1, by rw [r2]⟩
        rw [iterJ_done (a1 hsep), r2]
        simp
    · have hnil : s.drop k = [] := List.drop_eq_nil_of_le (by omega)
      have hlt' : ¬ ((k : Int) < s.length) := by omega
      rw [hnil]
      refine ⟨?_, by simp, by simp⟩
      have : L64_1 (cpJ PR n) (ciJ PR n) n (.str s) (st64 k i0 name (apd σ 2 es).1) (apd σ 2 es).2 = some (.done (.tup [.agg [.str name, (apd σ 2 es).1], .int .i64 k, .bool true]) (apd σ 2 es).2) := by
        simp -implicitDefEqProofs [L64_1, B64_1, hlt']
      rw [iterJ_done this]
      have e : k = s.length := by omega
      simp [e]

theorem l64a {n : Nat} (hn : 3000 ≤ n) (s : Bs) (hs : s.length ≤ 2000) (name : Bs) (σ : Sto) (K k m i0 : Nat) (hk : k ≤ s.length) (hK : s.length - k < K) (hm : K ≤ m) (hk0 : 0 < k) :
    Res64 s name σ (spansR K true (s.drop k)) [] (iterJ 0 (L64_1 (cpJ PR n) (ciJ PR n) n (.str s)) m (st64 k i0 name (apd σ 2 []).1) (apd σ 2 []).2) := by
  obtain ⟨K, rfl⟩ : ∃ q, K = q + 1 := ⟨K - 1, by omega⟩
  obtain ⟨m, rfl⟩ : ∃ q, m = q + 1 := ⟨m - 1, by omega⟩
  by_cases hlt : k < s.length
  · obtain ⟨c, hc⟩ := get_some hlt
    obtain ⟨a1, a2⟩ := step64a (n := n) hn s hs name σ k i0 hlt c hc
    have hdrop := drop_get hc
    by_cases hsep : c = 58
    · obtain ⟨b1, b2, b3⟩ := a2 hsep _ rfl
      rw [hdrop, spansR_cons, if_pos (by rw [hsep]; rfl)]
      by_cases hf : tw (s.drop (k + 1)) = []
      · rw [if_pos hf]
        obtain ⟨b, hb⟩ := b1 hf
        exact ⟨[], b, iterJ_done hb⟩
      · rw [if_neg hf]
        split
        · rename_i v hv
          obtain ⟨c1, c2⟩ := b3 hf v hv
          by_cases ht : tw v = []
          · rw [if_pos ht]
            obtain ⟨b, hb⟩ := c1 ht
            exact ⟨[], b, iterJ_done hb⟩
          · rw [if_neg ht]
            obtain ⟨b, i1, d1, d2, d3, d4⟩ := c2 ht
            rw [iterJ_next' d4, ← d3]
            exact res64_map _ (l64b hn s hs name σ K b m i1 _ (by simp) d2 (by omega) (by omega) (by simp; omega))
        · rename_i w hno
          obtain ⟨b, i1, d1, d2, d3, d4⟩ := b2 hf (fun v hv => hno v hv)
          rw [iterJ_next' d4, ← d3]
          exact res64_map _ (l64b hn s hs name σ K b m i1 _ (by simp) d2 (by omega) (by omega) (by simp; omega))
    · rw [hdrop, spansR_cons, if_neg (show ¬ c = sepB true from hsep), ← hdrop]
      obtain ⟨r1, r2⟩ := rest_here hk
      refine ⟨?_, r1, by rw [r2]⟩
      rw [iterJ_done (a1 hsep), r2]
      simp
  · have hnil : s.drop k = [] := List.drop_eq_nil_of_le (by omega)
    have hlt' : ¬ ((k : Int) < s.length) := by omega
    rw [hnil]
    refine ⟨?_, by simp, by simp⟩
    have : L64_1 (cpJ PR n) (ciJ PR n) n (.str s) (st64 k i0 name (apd σ 2 []).1) (apd σ 2 []).2 = some (.done (.tup [.agg [.str name, (apd σ 2 []).1], .int .i64 k, .bool true]) (apd σ 2 []).2) := by
      simp -implicitDefEqProofs [L64_1, B64_1, hlt']
    rw [iterJ_done this]
    have e : k = s.length := by omega
    simp [e]

/-- The reference's level. -/
theorem e64 {n : Nat} (hn : 4000 ≤ n) (s : Bs) (hs : s.length ≤ 1500) (i : Nat) (hi : i ≤ s.length) :
    (∃ l rest, levelR 3000 (s.drop i) = some (l, rest) ∧ rest.length ≤ s.length ∧ s.drop (s.length - rest.length) = rest ∧ cpJ PR n 64 [.str s, .int .i64 i] = some (.tup [ltD l.1 (l.2.map spRow), .int .i64 ((s.length - rest.length : Nat) : Int), .bool true])) ∨
    (levelR 3000 (s.drop i) = none ∧ ∃ nm0 rows, ∃ k : Nat, cpJ PR n 64 [.str s, .int .i64 i] = some (.tup [ltD nm0 rows, .int .i64 k, .bool false])) := by
  obtain ⟨n, rfl⟩ : ∃ m, n = m + 1 := ⟨n - 1, by omega⟩
  obtain ⟨b, w1, w2, w3, w4, w5, w6⟩ := e73 (n := n) s (by omega) (by omega) i hi
  have hsl := slc_ij w2 w3
  rw [w4] at hsl
  rw [u64]
  unfold levelR
  by_cases hf : tw (s.drop i) = []
  · have hbe : ((b : Int) == (i : Int)) = true := by rw [w6.2 hf]; simp
    rw [if_pos hf]
    refine .inr ⟨rfl, tw (s.drop i), [], b, ?_⟩
    simp -implicitDefEqProofs [D64, w1, hsl, hbe, slD_nil]
  · have hbne : b ≠ i := fun h => hf (w6.1 h)
    have hbe : ((b : Int) == (i : Int)) = false := by simp; omega
    rw [if_neg hf, ← w5]
    have hl := l64a (n := n) (by omega) s (by omega) (tw (s.drop i)) emptySto 3000 b n i (by omega) (by omega) (by omega) (by omega)
    have e : apd emptySto 2 [] = (.nils, emptySto) := rfl
    rw [e] at hl
    have hD : D64 (cpJ PR n) (ciJ PR n) n (.str s) (.int .i64 i) emptySto = iterJ 0 (L64_1 (cpJ PR n) (ciJ PR n) n (.str s)) n (st64 b i (tw (s.drop i)) .nils) emptySto := by
      simp -implicitDefEqProofs [D64, w1, hsl, hbe]
    cases hR : spansR 3000 true (s.drop b) with
    | some x =>
      obtain ⟨sp, rest⟩ := x
      rw [hR] at hl
      obtain ⟨h1, h2, h3⟩ := hl
      refine .inl ⟨(tw (s.drop i), sp), rest, rfl, h2, h3, ?_⟩
      rw [hD, h1]
      simp -implicitDefEqProofs
    | none =>
      rw [hR] at hl
      obtain ⟨es', k', h1⟩ := hl
      refine .inr ⟨rfl, tw (s.drop i), es', k', ?_⟩
      rw [hD, h1]
      simp -implicitDefEqProofs

end Go.Proofs.YticbfdcfopilfaaDoor
