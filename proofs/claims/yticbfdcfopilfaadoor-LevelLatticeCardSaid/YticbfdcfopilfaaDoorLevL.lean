/- The law of the lattice of levels. -/
import Derived.Test.YticbfdcfopilfaaDoorLevE
set_option linter.unusedVariables false
set_option linter.unusedSimpArgs false
set_option maxRecDepth 20000
set_option maxHeartbeats 4000000
namespace Go.Proofs.YticbfdcfopilfaaDoor
open Go

theorem or_and_self (c c' : Nat) : c ||| (c &&& c') = c := by
  refine Nat.eq_of_testBit_eq fun j => ?_
  rw [Nat.testBit_or, Nat.testBit_and]
  cases c.testBit j <;> cases c'.testBit j <;> rfl
theorem and_or_self (c c' : Nat) : c &&& (c ||| c') = c := by
  refine Nat.eq_of_testBit_eq fun j => ?_
  rw [Nat.testBit_and, Nat.testBit_or]
  cases c.testBit j <;> cases c'.testBit j <;> rfl

theorem e5 {n : Nat} (hn : 100 ≤ n) (aw : cpJ PR n 16 [] = some (.bool true)) (s : Int) (c : Nat) (hc : c < 18446744073709551616) (t : Int) (d : Nat) (hd : d < 18446744073709551616) (r : Int) (b : Nat) (hb : b < 18446744073709551616) :
    cpJ PR (n + 1) 5 [lv s c, lv t d, lv r b] = some (.bool true) := by
  have hj := or_lt hc hd
  have hm := and_lt (b := d) hc
  have j1 := e21 (n := n) (by omega) s c hc t d hd
  have m1 := e22 (n := n) (by omega) s c hc t d hd
  have j2 := e21 (n := n) (by omega) t d hd s c hc
  have m2 := e22 (n := n) (by omega) t d hd s c hc
  have j3 := e21 (n := n) (by omega) s c hc (min s t) (c &&& d) hm
  have m3 := e22 (n := n) (by omega) s c hc (max s t) (c ||| d) hj
  have j4 := e21 (n := n) (by omega) (max s t) (c ||| d) hj r b hb
  have j5 := e21 (n := n) (by omega) t d hd r b hb
  have j6 := e21 (n := n) (by omega) s c hc (max t r) (d ||| b) (or_lt hd hb)
  rw [Int.max_comm t s, Nat.or_comm d c] at j2
  rw [Int.min_comm t s, Nat.and_comm d c] at m2
  rw [show max s (min s t) = s by omega, or_and_self] at j3
  rw [show min s (max s t) = s by omega, and_or_self] at m3
  rw [Int.max_assoc, Nat.or_assoc] at j4
  have d1 := e17 (n := n) (by omega) s c hc s c hc
  have d2 := e17 (n := n) (by omega) s c hc t d hd
  have d3 := e17 (n := n) (by omega) t d hd r b hb
  have d4 := e17 (n := n) (by omega) s c hc r b hb
  have d5 := e17 (n := n) (by omega) t d hd s c hc
  have d6 := e17 (n := n) (by omega) (max s t) (c ||| d) hj s c hc
  have d7 := e17 (n := n) (by omega) (max s t) (c ||| d) hj t d hd
  have d8 := e17 (n := n) (by omega) s c hc (min s t) (c &&& d) hm
  have d9 := e17 (n := n) (by omega) t d hd (min s t) (c &&& d) hm
  have d10 := e17 (n := n) (by omega) r b hb s c hc
  have d11 := e17 (n := n) (by omega) r b hb t d hd
  have d12 := e17 (n := n) (by omega) r b hb (max s t) (c ||| d) hj
  have d13 := e17 (n := n) (by omega) (min s t) (c &&& d) hm r b hb
  rw [dom_refl] at d1
  rw [join_dom_l] at d6
  rw [join_dom_r] at d7
  rw [dom_meet_l] at d8
  rw [dom_meet_r] at d9
  rw [dom_join] at d12
  rw [dom_meet] at d13
  rw [u5]
  have fin : ∀ (p1 p2 p3 p4 q1 q2 : Bool), domV s c t d = p1 → domV t d r b = p2 → domV s c r b = p3 → domV t d s c = p4 → domV r b s c = q1 → domV r b t d = q2 → (p1 = true → p2 = true → p3 = true) → (p1 = true → p4 = true → s = t ∧ c = d) →
      finP (D5 (cpJ PR n) (ciJ PR n) n (lv s c) (lv t d) (lv r b) emptySto) = some (.bool true) := by
    intro p1 p2 p3 p4 q1 q2 h1 h2 h3 h4 h5 h6 ht ha
    rw [h1] at d2
    rw [h2] at d3
    rw [h3] at d4
    rw [h4] at d5
    rw [h5] at d10
    rw [h6] at d11
    rw [h5, h6] at d12
    rw [h3, h2] at d13
    have eq : (p1 && p4) = true → (!((s == t) && ((c : Int) == (d : Int)))) = false := by
      intro h
      rw [Bool.and_eq_true] at h
      obtain ⟨rfl, rfl⟩ := ha h.1 h.2
      simp
    cases p1 <;> cases p2 <;> cases p3 <;> cases p4 <;> cases q1 <;> cases q2 <;> first
      | (exact absurd (ht rfl rfl) (by decide))
      | (simp -implicitDefEqProofs [D5, j1, j2, j3, j4, j5, j6, m1, m2, m3, d1, d2, d3, d4, d5, d6, d7, d8, d9, d10, d11, d12, d13, aw]; done)
      | (obtain ⟨rfl, rfl⟩ := ha rfl rfl; have q1 : c ||| (c ||| b) = c ||| b := by rw [← Nat.or_assoc, Nat.or_self]
         simp -implicitDefEqProofs [q1, D5, j1, j2, j3, j4, j5, j6, m1, m2, m3, d1, d2, d3, d4, d5, d6, d7, d8, d9, d10, d11, d12, d13, aw])
  exact fin _ _ _ _ _ _ rfl rfl rfl rfl rfl rfl (fun h k => dom_trans h k) (fun h k => dom_anti h k)

end Go.Proofs.YticbfdcfopilfaaDoor
