/- Range of names in a source, by the program and by the reference, and the law about Level and Range. -/
import Derived.Test.YticbfdcfopilfaaDoorLevZ
import Derived.Test.YticbfdcfopilfaaDoorLevArg
set_option linter.unusedVariables false
set_option linter.unusedSimpArgs false
set_option maxRecDepth 20000
set_option maxHeartbeats 2000000
namespace Go.Proofs.YticbfdcfopilfaaDoor
open Go

theorem lvlAcc_lt (cats : List (List UInt8)) (hcl : cats.length ≤ 64) : ∀ (sp : List Sp) (c : Nat), c < 18446744073709551616 → (lvlAcc cats sp c).1 < 18446744073709551616
  | [], c, h => h
  | p :: r, c, h => by
    rw [lvlAcc_cons]
    have hA := idxAt_cases p.1 cats 0
    have hB := idxAt_cases p.2 cats 0
    generalize idxAt p.1 cats 0 = A at hA ⊢
    have hb : (if p.2 ≠ [] then idxAt p.2 cats 0 else A) = -1 ∨ ∃ q : Nat, (if p.2 ≠ [] then idxAt p.2 cats 0 else A) = q ∧ q < 64 := by
      split
      · rcases hB with h | ⟨q, h, hq, -⟩
        · exact .inl h
        · exact .inr ⟨q, by simpa using h, by omega⟩
      · rcases hA with h | ⟨q, h, hq, -⟩
        · exact .inl h
        · exact .inr ⟨q, by simpa using h, by omega⟩
    generalize (if p.2 ≠ [] then idxAt p.2 cats 0 else A) = b at hb ⊢
    split
    · decide
    · split
      · decide
      · refine lvlAcc_lt cats hcl r _ (bitsR_lt h ?_)
        rcases hb with h | ⟨q, h, hq⟩ <;> omega

theorem levelV_form (sens cats : List (List UInt8)) (name : List UInt8) (sp : List Sp) : ∃ (s : Int) (c : Nat) (e : Int), c < 18446744073709551616 ∧ levelV sens cats name sp = lvE s c e := by
  unfold levelV
  split
  · rename_i hP
    split
    · exact ⟨0, 0, 11, by decide, rfl⟩
    · unfold accD
      split
      · exact ⟨_, _, 0, lvlAcc_lt cats (propV_facts hP).2 sp 0 (by decide), rfl⟩
      · exact ⟨0, 0, _, by decide, rfl⟩
  · exact ⟨0, 0, 2, by decide, rfl⟩

/-- A range with its error. -/
abbrev rgE (s : Int) (c : Nat) (s' : Int) (c' : Nat) (e : Int) : DVal := .tup [rg s c s' c', .int .i64 e]

/-- What Range answers. -/
def rangeRV (s : Int) (c : Nat) (e : Int) (s' : Int) (c' : Nat) (e' : Int) (no : Prop) [Decidable no] : DVal :=
  if e ≠ 0 then rgE 0 0 0 0 e else if no then rgE s c s c 0 else if e' ≠ 0 then rgE 0 0 0 0 e' else if domV s' c' s c = true then rgE s c s' c' 0 else rgE 0 0 0 0 18

section
variable {n : Nat} (hn : 20100 ≤ n) (z z' z1 z2 : Bool) {sens cats : List (List UInt8)} (hf : Few sens cats) (n1 n2 : List UInt8) (sp1 sp2 : List Sp) (h1 : sp1.length ≤ 1000) (h2 : sp2.length ≤ 1000)
  (s : Int) (c : Nat) (e : Int) (hc : c < 18446744073709551616) (l1 : levelV sens cats n1 sp1 = lvE s c e) (s' : Int) (c' : Nat) (e' : Int) (hc' : c' < 18446744073709551616) (l2 : levelV sens cats n2 sp2 = lvE s' c' e')
include hn hf h1 h2 hc l1 hc' l2

theorem e31 : cpJ PR n 31 [.agg [.str n1, spD z1 sp1, .str n2, spD z2 sp2], strsD z sens, strsD z' cats] = some (rangeRV s c e s' c' e' (n2 = [] ∧ sp2 = [])) := by
  obtain ⟨n, rfl⟩ : ∃ m, n = m + 1 := ⟨n - 1, by omega⟩
  have k1 := e29 (n := n) (by omega) z z' z1 hf n1 sp1 h1
  have k2 := e29 (n := n) (by omega) z z' z2 hf n2 sp2 h2
  have k3 := e17 (n := n) (by omega) s' c' hc' s c hc
  rw [l1] at k1
  rw [l2] at k2
  rw [u31]
  unfold rangeRV
  by_cases he : e = 0
  · subst he
    have hn2e : n2 = [] ∨ ∃ x xs, n2 = x :: xs := by
      cases n2 with
      | nil => exact .inl rfl
      | cons x xs => exact .inr ⟨x, xs, rfl⟩
    rcases hn2e with hn2 | ⟨x, xs, hn2⟩
    · subst hn2
      by_cases hs2 : sp2 = []
      · subst hs2
        simp -implicitDefEqProofs [D31, k1]
      · have hne : ¬ ((sp2.length : Int) = 0) := fun h => hs2 (List.eq_nil_of_length_eq_zero (by omega))
        by_cases he' : e' = 0
        · subst he'
          cases hd : domV s' c' s c <;> rw [hd] at k3 <;> simp -implicitDefEqProofs [D31, k1, k2, k3, hs2, hd]
        · simp -implicitDefEqProofs [D31, k1, k2, hs2, he']
    · subst hn2
      by_cases he' : e' = 0
      · subst he'
        cases hd : domV s' c' s c <;> rw [hd] at k3 <;> simp -implicitDefEqProofs [D31, k1, k2, k3, hd]
      · simp -implicitDefEqProofs [D31, k1, k2, he']
  · simp -implicitDefEqProofs [D31, k1, he]

theorem e32 : cpJ PR n 32 [.agg [.str n1, spD z1 sp1, .str n2, spD z2 sp2], strsD z sens, strsD z' cats] = some (rangeRV s c e s' c' e' (n2 = [] ∧ sp2 = [])) := by
  obtain ⟨n, rfl⟩ : ∃ m, n = m + 1 := ⟨n - 1, by omega⟩
  have k1 := e30 (n := n) (by omega) z z' z1 hf n1 sp1 h1
  have k2 := e30 (n := n) (by omega) z z' z2 hf n2 sp2 h2
  have k3 := e19 (n := n) (by omega) s' c' hc' s c hc
  have k4 := e19 (n := n) (by omega) s c hc s c hc
  rw [dom_refl] at k4
  rw [l1] at k1
  rw [l2] at k2
  rw [u32]
  unfold rangeRV
  by_cases he : e = 0
  · subst he
    have hn2e : n2 = [] ∨ ∃ x xs, n2 = x :: xs := by
      cases n2 with
      | nil => exact .inl rfl
      | cons x xs => exact .inr ⟨x, xs, rfl⟩
    rcases hn2e with hn2 | ⟨x, xs, hn2⟩
    · subst hn2
      by_cases hs2 : sp2 = []
      · subst hs2
        simp -implicitDefEqProofs [D32, L32_0, J32_0, k1, k4]
      · have hpos : 0 < sp2.length := List.length_pos_iff.2 hs2
        have hpos' : (0 : Int) < sp2.length := by omega
        by_cases he' : e' = 0
        · subst he'
          cases hd : domV s' c' s c <;> rw [hd] at k3 <;> simp -implicitDefEqProofs [D32, L32_0, J32_0, k1, k2, k3, hs2, hd, hpos, hpos']
        · simp -implicitDefEqProofs [D32, L32_0, J32_0, k1, k2, hs2, he', hpos, hpos']
    · subst hn2
      by_cases he' : e' = 0
      · subst he'
        cases hd : domV s' c' s c <;> rw [hd] at k3 <;> simp -implicitDefEqProofs [D32, L32_0, J32_0, k1, k2, k3, hd]
      · simp -implicitDefEqProofs [D32, L32_0, J32_0, k1, k2, he']
  · simp -implicitDefEqProofs [D32, k1, he]
end

theorem rangeRV_form (s : Int) (c : Nat) (e : Int) (s' : Int) (c' : Nat) (e' : Int) (no : Prop) [Decidable no] : ∃ (t : Int) (d : Nat) (t' : Int) (d' : Nat) (f : Int), rangeRV s c e s' c' e' no = rgE t d t' d' f := by
  unfold rangeRV
  split
  · exact ⟨_, _, _, _, _, rfl⟩
  · split
    · exact ⟨_, _, _, _, _, rfl⟩
    · split
      · exact ⟨_, _, _, _, _, rfl⟩
      · split
        · exact ⟨_, _, _, _, _, rfl⟩
        · exact ⟨_, _, _, _, _, rfl⟩

theorem e28 {n : Nat} (hn : 1 ≤ n) (name : List UInt8) (z : Bool) (sp : List Sp) : cpJ PR n 28 [.agg [.str name, spD z sp]] = some (.bool (decide (sp.length ≤ 100))) := by
  obtain ⟨n, rfl⟩ : ∃ m, n = m + 1 := ⟨n - 1, by omega⟩
  rw [u28]
  have : (decide ((sp.length : Int) ≤ 100)) = decide (sp.length ≤ 100) := by rw [decide_eq_decide]; omega
  simp -implicitDefEqProofs [D28, this]

/-- The law of sources. -/
theorem e8 {n : Nat} (hn : 20110 ≤ n) (aw : cpJ PR n 16 [] = some (.bool true)) (z z' z1 z2 : Bool) (sens cats : List (List UInt8)) (n1 n2 : List UInt8) (sp1 sp2 : List Sp) :
    cpJ PR (n + 1) 8 [.agg [.str n1, spD z1 sp1, .str n2, spD z2 sp2], .agg [strsD z sens, strsD z' cats]] = some (.bool true) := by
  have h1 := e23 (n := n) (by omega) z z' sens cats
  have h2 := e28 (n := n) (by omega) n1 z1 sp1
  have h3 := e28 (n := n) (by omega) n2 z2 sp2
  rw [u8]
  cases hf : fewV sens cats with
  | false =>
    rw [hf] at h1
    simp -implicitDefEqProofs [D8, h1, aw]
  | true =>
    rw [hf] at h1
    by_cases a1 : sp1.length ≤ 100
    · by_cases a2 : sp2.length ≤ 100
      · simp only [a1, decide_true] at h2
        simp only [a2, decide_true] at h3
        obtain ⟨s, c, e, hc, l1⟩ := levelV_form sens cats n1 sp1
        obtain ⟨s', c', e', hc', l2⟩ := levelV_form sens cats n2 sp2
        have h4 := e29 (n := n) (by omega) z z' z1 (few_iff hf) n1 sp1 (by omega)
        have h5 := e30 (n := n) (by omega) z z' z1 (few_iff hf) n1 sp1 (by omega)
        have h6 := e31 (n := n) (by omega) z z' z1 z2 (few_iff hf) n1 n2 sp1 sp2 (by omega) (by omega) s c e hc l1 s' c' e' hc' l2
        have h7 := e32 (n := n) (by omega) z z' z1 z2 (few_iff hf) n1 n2 sp1 sp2 (by omega) (by omega) s c e hc l1 s' c' e' hc' l2
        obtain ⟨t, d, t', d', f, hr⟩ := rangeRV_form s c e s' c' e' (n2 = [] ∧ sp2 = [])
        rw [l1] at h4 h5
        rw [hr] at h6 h7
        simp -implicitDefEqProofs [D8, h1, h2, h3, h4, h5, h6, h7, aw]
      · simp only [a1, decide_true] at h2
        simp only [a2, decide_false] at h3
        simp -implicitDefEqProofs [D8, h1, h2, h3, aw]
    · simp only [a1, decide_false] at h2
      simp -implicitDefEqProofs [D8, h1, h2, aw]

/-! What the argument reads as -/

theorem rows_spans : ∀ {es : List (List DVal)}, (∀ r ∈ es, ∃ a b : List UInt8, r = [.str a, .str b]) → ∃ l : List Sp, es = l.map fun p => [DVal.str p.1, DVal.str p.2]
  | [], _ => ⟨[], rfl⟩
  | e :: es, h => by
    obtain ⟨a, b, rfl⟩ := h _ (List.mem_cons_self)
    obtain ⟨l, rfl⟩ := rows_spans (es := es) fun r hr => h r (List.mem_cons_of_mem _ hr)
    exact ⟨(a, b) :: l, rfl⟩

theorem dty_lt {k : Nat} {cs : List DVal} (h : DTy Tryd.prog (k + 4) 47 cs) : ∃ (name : List UInt8) (z : Bool) (sp : List Sp), cs = [.str name, spD z sp] := by
  have e1 := Tryd.underlying47
  have e2 := Tryd.underlying45
  have e3 := Tryd.underlying74
  have e4 := Tryd.underlying9
  have c74 : Tryd.prog.cellsOf 74 = 2 := by kernel_rfl
  unfold DTy at h
  rw [e1] at h
  simp only [List.foldr] at h
  obtain ⟨a, b, rfl, h1, a', b', rfl, h2, rfl⟩ := h
  unfold DTy at h1 h2
  rw [e4] at h1
  rw [e2] at h2
  simp only at h1 h2
  obtain ⟨name, rfl, -⟩ := h1
  obtain ⟨z, es, rfl, h, -⟩ := h2
  rw [c74]
  obtain ⟨sp, rfl⟩ := rows_spans (es := es) fun r hr => by
    have := h r hr
    unfold DTy at this
    rw [e3] at this
    simp only [List.foldr] at this
    obtain ⟨a, b, rfl, h1, a', b', rfl, h2, rfl⟩ := this
    unfold DTy at h1 h2
    rw [e4] at h1 h2
    simp only at h1 h2
    obtain ⟨u, rfl, -⟩ := h1
    obtain ⟨v, rfl, -⟩ := h2
    exact ⟨u, v, rfl⟩
  exact ⟨name, z, sp, rfl⟩

theorem args_tn {Ds : List DVal} (h : DTyArgs Tryd.prog [49, 36] Ds) : ∃ (n1 n2 : List UInt8) (z1 z2 : Bool) (sp1 sp2 : List Sp) (z z' : Bool) (a b : List (List UInt8)), Ds = [.agg [.str n1, spD z1 sp1, .str n2, spD z2 sp2], .agg [strsD z a, strsD z' b]] := by
  obtain ⟨d, es, rfl, h1, d2, es2, rfl, h2, rfl⟩ := h
  obtain ⟨z, z', a, b, rfl⟩ := dtyArg_nm h2
  have e := Tryd.underlying49
  unfold DTyArg at h1
  rw [e] at h1
  obtain ⟨cs, rfl, h1⟩ := h1
  unfold DTy at h1
  rw [e] at h1
  simp only [List.foldr] at h1
  obtain ⟨a', b', rfl, h1, a2, b2, rfl, h2, rfl⟩ := h1
  obtain ⟨n1, z1, sp1, rfl⟩ := dty_lt (k := 15) h1
  obtain ⟨n2, z2, sp2, rfl⟩ := dty_lt (k := 15) h2
  exact ⟨n1, n2, z1, z2, sp1, sp2, z, z', a, b, rfl⟩

end Go.Proofs.YticbfdcfopilfaaDoor
