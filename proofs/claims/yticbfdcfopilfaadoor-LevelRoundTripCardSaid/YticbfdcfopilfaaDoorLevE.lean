/- Relation, Join, Meet, Span and Contains, and the laws about them. -/
import Derived.Test.YticbfdcfopilfaaDoorLevB
set_option linter.unusedVariables false
set_option linter.unusedSimpArgs false
set_option maxRecDepth 20000
set_option maxHeartbeats 2000000
namespace Go.Proofs.YticbfdcfopilfaaDoor
open Go

/-- Relation. -/
def relV (s : Int) (c : Nat) (s' : Int) (c' : Nat) : Int := if s = s' ∧ c = c' then 0 else if domV s c s' c' then 2 else if domV s' c' s c then 3 else 4

theorem e18 {n : Nat} (hn : 2 ≤ n) (s : Int) (c : Nat) (hc : c < 18446744073709551616) (s' : Int) (c' : Nat) (hc' : c' < 18446744073709551616) : cpJ PR n 18 [lv s c, lv s' c'] = some (.int .i64 (relV s c s' c')) := by
  obtain ⟨n, rfl⟩ : ∃ m, n = m + 1 := ⟨n - 1, by omega⟩
  rw [u18]
  have h1 := e17 (n := n) (by omega) s c hc s' c' hc'
  have h2 := e17 (n := n) (by omega) s' c' hc' s c hc
  unfold relV
  by_cases e : s = s' ∧ c = c'
  · obtain ⟨rfl, rfl⟩ := e
    simp -implicitDefEqProofs [D18]
  · have e' : ¬ (s = s' ∧ (c : Int) = (c' : Int)) := fun h => e ⟨h.1, by omega⟩
    have e2 : ((s == s') && ((c : Int) == (c' : Int))) = false := by
      cases h : ((s == s') && ((c : Int) == (c' : Int))) with
      | false => rfl
      | true => simp only [Bool.and_eq_true, beq_iff_eq] at h; exact absurd h e'
    cases hd : domV s c s' c' <;> cases hd' : domV s' c' s c <;> rw [hd] at h1 <;> rw [hd'] at h2 <;> simp -implicitDefEqProofs only [D18, e, if_false, hd, hd'] <;> simp -implicitDefEqProofs [e2, h1, h2]

theorem e20 {n : Nat} (hn : 80 ≤ n) (s : Int) (c : Nat) (hc : c < 18446744073709551616) (s' : Int) (c' : Nat) (hc' : c' < 18446744073709551616) : cpJ PR n 20 [lv s c, lv s' c'] = some (.int .i64 (relV s c s' c')) := by
  obtain ⟨n, rfl⟩ : ∃ m, n = m + 1 := ⟨n - 1, by omega⟩
  rw [u20]
  have h1 := e19 (n := n) (by omega) s c hc s' c' hc'
  have h2 := e19 (n := n) (by omega) s' c' hc' s c hc
  unfold relV
  by_cases e : s = s' ∧ c = c'
  · obtain ⟨rfl, rfl⟩ := e
    simp -implicitDefEqProofs [D20]
  · have e' : ¬ (s = s' ∧ (c : Int) = (c' : Int)) := fun h => e ⟨h.1, by omega⟩
    have e2 : ((s == s') && ((c : Int) == (c' : Int))) = false := by
      cases h : ((s == s') && ((c : Int) == (c' : Int))) with
      | false => rfl
      | true => simp only [Bool.and_eq_true, beq_iff_eq] at h; exact absurd h e'
    cases hd : domV s c s' c' <;> cases hd' : domV s' c' s c <;> rw [hd] at h1 <;> rw [hd'] at h2 <;> simp -implicitDefEqProofs only [D20, e, if_false, hd, hd'] <;> simp -implicitDefEqProofs [e2, h1, h2]

theorem max_if (x y : Int) : (if x < y then y else x) = max x y := by split <;> omega
theorem min_if (x y : Int) : (if y < x then y else x) = min x y := by split <;> omega

theorem e21 {n : Nat} (hn : 1 ≤ n) (s : Int) (c : Nat) (hc : c < 18446744073709551616) (s' : Int) (c' : Nat) (hc' : c' < 18446744073709551616) : cpJ PR n 21 [lv s c, lv s' c'] = some (lv (max s s') (c ||| c')) := by
  obtain ⟨n, rfl⟩ : ∃ m, n = m + 1 := ⟨n - 1, by omega⟩
  rw [u21]
  simp -implicitDefEqProofs [D21, or_nat c c' hc hc', max_if]
theorem e37 {n : Nat} (hn : 1 ≤ n) (s : Int) (c : Nat) (hc : c < 18446744073709551616) (s' : Int) (c' : Nat) (hc' : c' < 18446744073709551616) : cpJ PR n 37 [lv s c, lv s' c'] = some (lv (max s s') (c ||| c')) := by
  obtain ⟨n, rfl⟩ : ∃ m, n = m + 1 := ⟨n - 1, by omega⟩
  rw [u37]
  simp -implicitDefEqProofs [D37, or_nat c c' hc hc', max_if]
theorem e22 {n : Nat} (hn : 1 ≤ n) (s : Int) (c : Nat) (hc : c < 18446744073709551616) (s' : Int) (c' : Nat) (hc' : c' < 18446744073709551616) : cpJ PR n 22 [lv s c, lv s' c'] = some (lv (min s s') (c &&& c')) := by
  obtain ⟨n, rfl⟩ : ∃ m, n = m + 1 := ⟨n - 1, by omega⟩
  rw [u22]
  simp -implicitDefEqProofs [D22, and_nat c c' hc hc', min_if]
theorem e38 {n : Nat} (hn : 1 ≤ n) (s : Int) (c : Nat) (hc : c < 18446744073709551616) (s' : Int) (c' : Nat) (hc' : c' < 18446744073709551616) : cpJ PR n 38 [lv s c, lv s' c'] = some (lv (min s s') (c &&& c')) := by
  obtain ⟨n, rfl⟩ : ∃ m, n = m + 1 := ⟨n - 1, by omega⟩
  rw [u38]
  simp -implicitDefEqProofs [D38, and_nat c c' hc hc', min_if]

/-- Four numbers of a range that are right. -/
structure Rok (c c' : Nat) : Prop where
  lo : c < 18446744073709551616
  hi : c' < 18446744073709551616

theorem e33 {n : Nat} (hn : 2 ≤ n) (s : Int) (c : Nat) (s' : Int) (c' : Nat) (h : Rok c c') (t : Int) (d : Nat) (t' : Int) (d' : Nat) (k : Rok d d') :
    cpJ PR n 33 [rg s c s' c', rg t d t' d'] = some (rg (min s t) (c &&& d) (max s' t') (c' ||| d')) := by
  obtain ⟨n, rfl⟩ : ∃ m, n = m + 1 := ⟨n - 1, by omega⟩
  rw [u33]
  simp -implicitDefEqProofs [D33, e21 (n := n) (by omega) s' c' h.hi t' d' k.hi, e22 (n := n) (by omega) s c h.lo t d k.lo]
theorem e34 {n : Nat} (hn : 2 ≤ n) (s : Int) (c : Nat) (s' : Int) (c' : Nat) (h : Rok c c') (t : Int) (d : Nat) (t' : Int) (d' : Nat) (k : Rok d d') :
    cpJ PR n 34 [rg s c s' c', rg t d t' d'] = some (rg (min s t) (c &&& d) (max s' t') (c' ||| d')) := by
  obtain ⟨n, rfl⟩ : ∃ m, n = m + 1 := ⟨n - 1, by omega⟩
  rw [u34]
  simp -implicitDefEqProofs [D34, e37 (n := n) (by omega) s' c' h.hi t' d' k.hi, e38 (n := n) (by omega) s c h.lo t d k.lo]

/-- Contains. -/
def conV (s : Int) (c : Nat) (s' : Int) (c' : Nat) (t : Int) (d : Nat) (t' : Int) (d' : Nat) : Bool := domV t d s c && domV s' c' t' d'

theorem e35 {n : Nat} (hn : 2 ≤ n) (s : Int) (c : Nat) (s' : Int) (c' : Nat) (h : Rok c c') (t : Int) (d : Nat) (t' : Int) (d' : Nat) (k : Rok d d') :
    cpJ PR n 35 [rg s c s' c', rg t d t' d'] = some (.bool (conV s c s' c' t d t' d')) := by
  obtain ⟨n, rfl⟩ : ∃ m, n = m + 1 := ⟨n - 1, by omega⟩
  rw [u35]
  simp -implicitDefEqProofs +contextual [D35, conV, e17 (n := n) (by omega) t d k.lo s c h.lo, e17 (n := n) (by omega) s' c' h.hi t' d' k.hi]
theorem e36 {n : Nat} (hn : 80 ≤ n) (s : Int) (c : Nat) (s' : Int) (c' : Nat) (h : Rok c c') (t : Int) (d : Nat) (t' : Int) (d' : Nat) (k : Rok d d') :
    cpJ PR n 36 [rg s c s' c', rg t d t' d'] = some (.bool (conV s c s' c' t d t' d')) := by
  obtain ⟨n, rfl⟩ : ∃ m, n = m + 1 := ⟨n - 1, by omega⟩
  rw [u36]
  simp -implicitDefEqProofs +contextual [D36, conV, e19 (n := n) (by omega) t d k.lo s c h.lo, e19 (n := n) (by omega) s' c' h.hi t' d' k.hi]

/-! The order -/

theorem and_iff {a b : Nat} : a &&& b = b ↔ ∀ j, b.testBit j = true → a.testBit j = true := by
  constructor
  · intro h j hb
    rw [← h, Nat.testBit_and, Bool.and_eq_true] at hb
    exact hb.1
  · intro h
    refine Nat.eq_of_testBit_eq fun j => ?_
    rw [Nat.testBit_and]
    cases hb : b.testBit j with
    | false => simp
    | true => simp [h j hb]

theorem dom_iff {s : Int} {c : Nat} {s' : Int} {c' : Nat} : domV s c s' c' = true ↔ s' ≤ s ∧ ∀ j, c'.testBit j = true → c.testBit j = true := by
  unfold domV
  rw [Bool.and_eq_true, decide_eq_true_eq, decide_eq_true_eq, and_iff]

theorem dom_refl (s : Int) (c : Nat) : domV s c s c = true := dom_iff.2 ⟨Int.le_refl _, fun _ h => h⟩
theorem dom_trans {s : Int} {c : Nat} {s' : Int} {c' : Nat} {t : Int} {d : Nat} (h : domV s c s' c' = true) (k : domV s' c' t d = true) : domV s c t d = true := by
  rw [dom_iff] at *
  exact ⟨by omega, fun j hj => h.2 j (k.2 j hj)⟩
theorem dom_anti {s : Int} {c : Nat} {s' : Int} {c' : Nat} (h : domV s c s' c' = true) (k : domV s' c' s c = true) : s = s' ∧ c = c' := by
  rw [dom_iff] at *
  refine ⟨by omega, Nat.eq_of_testBit_eq fun j => ?_⟩
  have h1 := h.2 j
  have h2 := k.2 j
  cases e : c.testBit j <;> cases e' : c'.testBit j <;> simp_all
theorem dom_join (s : Int) (c : Nat) (s' : Int) (c' : Nat) (t : Int) (d : Nat) : domV t d (max s s') (c ||| c') = (domV t d s c && domV t d s' c') := by
  rw [Bool.eq_iff_iff, Bool.and_eq_true, dom_iff, dom_iff, dom_iff]
  constructor
  · rintro ⟨h1, h2⟩
    exact ⟨⟨by omega, fun j hj => h2 j (by rw [Nat.testBit_or, hj]; rfl)⟩, ⟨by omega, fun j hj => h2 j (by rw [Nat.testBit_or, hj]; simp)⟩⟩
  · rintro ⟨⟨h1, h2⟩, h3, h4⟩
    refine ⟨by omega, fun j hj => ?_⟩
    rw [Nat.testBit_or, Bool.or_eq_true] at hj
    rcases hj with hj | hj
    · exact h2 j hj
    · exact h4 j hj
theorem dom_meet (s : Int) (c : Nat) (s' : Int) (c' : Nat) (t : Int) (d : Nat) : domV (min s s') (c &&& c') t d = (domV s c t d && domV s' c' t d) := by
  rw [Bool.eq_iff_iff, Bool.and_eq_true, dom_iff, dom_iff, dom_iff]
  constructor
  · rintro ⟨h1, h2⟩
    refine ⟨⟨by omega, fun j hj => ?_⟩, ⟨by omega, fun j hj => ?_⟩⟩
    · have := h2 j hj; rw [Nat.testBit_and, Bool.and_eq_true] at this; exact this.1
    · have := h2 j hj; rw [Nat.testBit_and, Bool.and_eq_true] at this; exact this.2
  · rintro ⟨⟨h1, h2⟩, h3, h4⟩
    exact ⟨by omega, fun j hj => by rw [Nat.testBit_and, h2 j hj, h4 j hj]; rfl⟩
theorem join_dom_l (s : Int) (c : Nat) (s' : Int) (c' : Nat) : domV (max s s') (c ||| c') s c = true := dom_iff.2 ⟨by omega, fun j hj => by rw [Nat.testBit_or, hj]; rfl⟩
theorem join_dom_r (s : Int) (c : Nat) (s' : Int) (c' : Nat) : domV (max s s') (c ||| c') s' c' = true := dom_iff.2 ⟨by omega, fun j hj => by rw [Nat.testBit_or, hj]; simp⟩
theorem dom_meet_l (s : Int) (c : Nat) (s' : Int) (c' : Nat) : domV s c (min s s') (c &&& c') = true := dom_iff.2 ⟨by omega, fun j hj => by rw [Nat.testBit_and, Bool.and_eq_true] at hj; exact hj.1⟩
theorem dom_meet_r (s : Int) (c : Nat) (s' : Int) (c' : Nat) : domV s' c' (min s s') (c &&& c') = true := dom_iff.2 ⟨by omega, fun j hj => by rw [Nat.testBit_and, Bool.and_eq_true] at hj; exact hj.2⟩

/-- The law of Dominates and Relation. -/
theorem e4 {n : Nat} (hn : 100 ≤ n) (aw : cpJ PR n 16 [] = some (.bool true)) (s : Int) (c : Nat) (hc : c < 18446744073709551616) (s' : Int) (c' : Nat) (hc' : c' < 18446744073709551616) :
    cpJ PR (n + 1) 4 [lv s c, lv s' c'] = some (.bool true) := by
  have h1 := e17 (n := n) (by omega) s c hc s' c' hc'
  have h2 := e17 (n := n) (by omega) s' c' hc' s c hc
  have h3 := e18 (n := n) (by omega) s c hc s' c' hc'
  have h4 := e19 (n := n) (by omega) s c hc s' c' hc'
  have h5 := e19 (n := n) (by omega) s' c' hc' s c hc
  have h6 := e20 (n := n) (by omega) s c hc s' c' hc'
  rw [u4]
  unfold relV at h3 h6
  cases hd : domV s c s' c' <;> cases hd' : domV s' c' s c <;> rw [hd] at h1 h3 h4 h6 <;> rw [hd'] at h2 h3 h5 h6
  · have e : ¬ (s = s' ∧ c = c') := fun h => by obtain ⟨rfl, rfl⟩ := h; rw [dom_refl] at hd; cases hd
    simp only [e, if_false] at h3 h6
    simp -implicitDefEqProofs [D4, h1, h2, h3, h4, h5, h6, aw]
  · have e : ¬ (s = s' ∧ c = c') := fun h => by obtain ⟨rfl, rfl⟩ := h; rw [dom_refl] at hd; cases hd
    simp only [e, if_false] at h3 h6
    simp -implicitDefEqProofs [D4, h1, h2, h3, h4, h5, h6, aw]
  · have e : ¬ (s = s' ∧ c = c') := fun h => by obtain ⟨rfl, rfl⟩ := h; rw [dom_refl] at hd'; cases hd'
    simp only [e, if_false] at h3 h6
    simp -implicitDefEqProofs [D4, h1, h2, h3, h4, h5, h6, aw]
  · obtain ⟨rfl, rfl⟩ := dom_anti hd hd'
    simp only [and_self, if_true] at h3 h6
    simp -implicitDefEqProofs [D4, h1, h2, h3, h4, h5, h6, aw]

/-- The law of Span and Contains. -/
theorem e9 {n : Nat} (hn : 100 ≤ n) (aw : cpJ PR n 16 [] = some (.bool true)) (s : Int) (c : Nat) (s' : Int) (c' : Nat) (h : Rok c c') (t : Int) (d : Nat) (t' : Int) (d' : Nat) (k : Rok d d') (r : Int) (b : Nat) (r' : Int) (b' : Nat) (l : Rok b b') :
    cpJ PR (n + 1) 9 [rg s c s' c', rg t d t' d', rg r b r' b'] = some (.bool true) := by
  have hs : Rok (c &&& d) (c' ||| d') := ⟨and_lt h.lo, or_lt h.hi k.hi⟩
  have h1 := e33 (n := n) (by omega) s c s' c' h t d t' d' k
  have h2 := e34 (n := n) (by omega) s c s' c' h t d t' d' k
  have h3 := e35 (n := n) (by omega) s c s' c' h t d t' d' k
  have h4 := e36 (n := n) (by omega) s c s' c' h t d t' d' k
  have h5 := e21 (n := n) (by omega) s c h.lo t' d' k.hi
  have h6 := e37 (n := n) (by omega) s c h.lo t' d' k.hi
  have h7 := e22 (n := n) (by omega) s c h.lo t' d' k.hi
  have h8 := e38 (n := n) (by omega) s c h.lo t' d' k.hi
  have h9 := e35 (n := n) (by omega) (min s t) (c &&& d) (max s' t') (c' ||| d') hs s c s' c' h
  have h10 := e35 (n := n) (by omega) (min s t) (c &&& d) (max s' t') (c' ||| d') hs t d t' d' k
  have h11 := e35 (n := n) (by omega) r b r' b' l s c s' c' h
  have h12 := e35 (n := n) (by omega) r b r' b' l t d t' d' k
  have h13 := e35 (n := n) (by omega) r b r' b' l (min s t) (c &&& d) (max s' t') (c' ||| d') hs
  have q1 : conV (min s t) (c &&& d) (max s' t') (c' ||| d') s c s' c' = true := by simp [conV, dom_meet_l, join_dom_l]
  have q2 : conV (min s t) (c &&& d) (max s' t') (c' ||| d') t d t' d' = true := by simp [conV, dom_meet_r, join_dom_r]
  have q3 : conV r b r' b' (min s t) (c &&& d) (max s' t') (c' ||| d') = (conV r b r' b' s c s' c' && conV r b r' b' t d t' d') := by
    unfold conV
    rw [dom_meet, dom_join]
    cases domV s c r b <;> cases domV t d r b <;> cases domV r' b' s' c' <;> cases domV r' b' t' d' <;> rfl
  rw [q1] at h9
  rw [q2] at h10
  rw [q3] at h13
  rw [u9]
  cases e1 : conV r b r' b' s c s' c' <;> cases e2 : conV r b r' b' t d t' d' <;> rw [e1] at h11 h13 <;> rw [e2] at h12 h13 <;>
    simp -implicitDefEqProofs [D9, h1, h2, h3, h4, h5, h6, h7, h8, h9, h10, h11, h12, h13, aw]

end Go.Proofs.YticbfdcfopilfaaDoor
