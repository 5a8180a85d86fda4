/- Strings cut at a byte: plain laws of lists, no program. -/
import Derived.Lib.IndexMore
import Derived.Lib.Split
import Derived.Lib.CountLaws
import Derived.Lib.SplitLaws
set_option linter.unusedVariables false
set_option linter.unusedSimpArgs false
namespace Go.Proofs.YtdnoonnanhnkaaaDoor
open Go

abbrev Bs := List UInt8

/-! Cutting at a byte -/

theorem index_none {c : UInt8} : ∀ {s : Bs}, c ∉ s → Lib.index s [c] = -1
  | [], _ => rfl
  | b :: l, h => by
    simp only [List.mem_cons, not_or] at h
    have := index_none h.2
    have hb : ¬ (c = b) := h.1
    simp [Lib.index, List.isPrefixOf, hb, this]

theorem index_at {c : UInt8} {b : Bs} : ∀ {a : Bs}, c ∉ a → Lib.index (a ++ c :: b) [c] = a.length
  | [], _ => by simp [Lib.index, List.isPrefixOf]
  | x :: a, h => by
    simp only [List.mem_cons, not_or] at h
    have := index_at (b := b) h.2
    have hb : ¬ (c = x) := h.1
    have hne : ¬ ((a.length : Int) = -1) := by omega
    simp [Lib.index, List.isPrefixOf, hb, this, hne]

theorem cut_miss {c : UInt8} {s : Bs} (h : c ∉ s) : Lib.cut s [c] = (s, [], false) := by
  simp [Lib.cut, index_none h]
theorem cut_hit {c : UInt8} {a b : Bs} (h : c ∉ a) : Lib.cut (a ++ c :: b) [c] = (a, b, true) := by
  have h0 : (0 : Int) ≤ a.length := by omega
  simp [Lib.cut, index_at h, h0]

theorem cut_exists (c : UInt8) : ∀ (s : Bs), c ∉ s ∨ ∃ a b, s = a ++ c :: b ∧ c ∉ a
  | [] => .inl (by simp)
  | x :: s => by
    by_cases h : x = c
    · subst h; exact .inr ⟨[], s, rfl, by simp⟩
    · rcases cut_exists c s with h' | ⟨a, b, rfl, h'⟩
      · exact .inl (by simp [h', Ne.symm h])
      · exact .inr ⟨x :: a, b, rfl, by simp [h', Ne.symm h]⟩

/-- Pieces joined by a byte. -/
def joinC (c : UInt8) (p : Bs) (r : List Bs) : Bs := p ++ r.flatMap fun q => c :: q

theorem count_join {c : UInt8} : ∀ {r : List Bs} {p : Bs}, c ∉ p → (∀ q ∈ r, c ∉ q) → Lib.count (joinC c p r) [c] = r.length
  | [], p, hp, _ => by simp [joinC, Lib.count_miss (index_none hp)]
  | q :: r, p, hp, hr => by
    have e : joinC c p (q :: r) = p ++ c :: joinC c q r := by simp [joinC]
    rw [e, Lib.count_hit (by simp) (index_at hp)]
    have : (p ++ c :: joinC c q r).drop (p.length + [c].length) = joinC c q r := by simp
    rw [this, count_join (hr q (by simp)) (fun x hx => hr x (by simp [hx]))]
    simp; omega

theorem splitK_join {c : UInt8} : ∀ {r : List Bs} {p : Bs} {k : Nat}, r.length ≤ k → c ∉ p → (∀ q ∈ r, c ∉ q) → Lib.splitK [c] 0 k (joinC c p r) = p :: r
  | [], p, k, hk, hp, _ => by
    have e : joinC c p [] = p := by simp [joinC]
    rw [e]
    cases k with
    | zero => rfl
    | succ k => simp [Lib.splitK, index_none hp]
  | q :: r, p, k, hk, hp, hr => by
    obtain ⟨k, rfl⟩ : ∃ j, k = j + 1 := ⟨k - 1, by simp at hk; omega⟩
    have e : joinC c p (q :: r) = p ++ c :: joinC c q r := by simp [joinC]
    have hne : ¬ ((p.length : Int) = -1) := by omega
    rw [e, Lib.splitK, index_at hp]
    have : (p ++ c :: joinC c q r).drop (p.length + 1) = joinC c q r := by simp
    simp [hne, this, splitK_join (k := k) (by simp at hk; omega) (hr q (by simp)) (fun x hx => hr x (by simp [hx]))]

theorem joinC_len {c : UInt8} : ∀ {r : List Bs} {p : Bs}, r.length ≤ (joinC c p r).length
  | [], p => by simp
  | q :: r, p => by
    have := joinC_len (c := c) (r := r) (p := q)
    have e : joinC c p (q :: r) = p ++ c :: joinC c q r := by simp [joinC]
    rw [e]
    simp; omega

theorem split_join {c : UInt8} {r : List Bs} {p : Bs} (hp : c ∉ p) (hr : ∀ q ∈ r, c ∉ q) : Lib.splitN (joinC c p r) [c] (Lib.count (joinC c p r) [c] + 1) = p :: r := by
  unfold Lib.splitN
  rw [count_join hp hr]
  exact splitK_join (by have := joinC_len (c := c) (r := r) (p := p); omega) hp hr

theorem split_exists (c : UInt8) : ∀ (s : Bs), ∃ p r, s = joinC c p r ∧ c ∉ p ∧ ∀ q ∈ r, c ∉ q
  | [] => ⟨[], [], rfl, by simp, by simp⟩
  | x :: s => by
    obtain ⟨p, r, rfl, h1, h2⟩ := split_exists c s
    by_cases h : x = c
    · subst h
      exact ⟨[], p :: r, by simp [joinC], by simp, by simpa using ⟨h1, h2⟩⟩
    · exact ⟨x :: p, r, by simp [joinC], by simp [h1, Ne.symm h], h2⟩

/-- The pieces between bytes c. -/
def parts (c : UInt8) : Bs → List Bs
  | [] => [[]]
  | b :: s => if b = c then [] :: parts c s else match parts c s with
    | p :: ps => (b :: p) :: ps
    | [] => [[b]]

theorem parts_ne (c : UInt8) : ∀ s, parts c s ≠ []
  | [] => by simp [parts]
  | b :: s => by
    unfold parts
    split
    · simp
    · split <;> simp

theorem parts_none {c : UInt8} : ∀ {p : Bs}, c ∉ p → parts c p = [p]
  | [], _ => rfl
  | b :: p, h => by
    simp only [List.mem_cons, not_or] at h
    simp [parts, Ne.symm h.1, parts_none h.2]

theorem parts_at {c : UInt8} : ∀ {p s : Bs}, c ∉ p → parts c (p ++ c :: s) = p :: parts c s
  | [], s, _ => by simp [parts]
  | b :: p, s, h => by
    simp only [List.mem_cons, not_or] at h
    simp [parts, Ne.symm h.1, parts_at h.2]

theorem parts_join {c : UInt8} : ∀ {r : List Bs} {p : Bs}, c ∉ p → (∀ q ∈ r, c ∉ q) → parts c (joinC c p r) = p :: r
  | [], p, hp, _ => by simp [joinC, parts_none hp]
  | q :: r, p, hp, hr => by
    have e : joinC c p (q :: r) = p ++ c :: joinC c q r := by simp [joinC]
    rw [e, parts_at hp, parts_join (hr q (by simp)) (fun x hx => hr x (by simp [hx]))]

theorem split_parts (c : UInt8) (s : Bs) : Lib.splitN s [c] (Lib.count s [c] + 1) = parts c s := by
  obtain ⟨p, r, rfl, hp, hr⟩ := split_exists c s
  rw [split_join hp hr, parts_join hp hr]

/-- The pieces, joined again. -/
theorem join_parts (c : UInt8) (s : Bs) : ∃ p r, parts c s = p :: r ∧ s = joinC c p r ∧ c ∉ p ∧ ∀ q ∈ r, c ∉ q := by
  obtain ⟨p, r, rfl, hp, hr⟩ := split_exists c s
  exact ⟨p, r, parts_join hp hr, rfl, hp, hr⟩

theorem parts_len (c : UInt8) (s : Bs) : (parts c s).length ≤ s.length + 1 ∧ ∀ p ∈ parts c s, p.length ≤ s.length := by
  induction s with
  | nil => simp [parts]
  | cons b s ih =>
    unfold parts
    split
    · refine ⟨by simp; omega, fun p hp => ?_⟩
      rcases List.mem_cons.1 hp with rfl | hp
      · simp
      · have := ih.2 p hp; simp; omega
    · split
      · rename_i q qs e
        rw [e] at ih
        refine ⟨by simp at ih ⊢; omega, fun p hp => ?_⟩
        rcases List.mem_cons.1 hp with rfl | hp
        · have := ih.2 q (by simp); simp; omega
        · have := ih.2 p (by simp [hp]); simp; omega
      · simp

/-! Two equal bytes in a row -/

/-- Are two bytes c next to each other? -/
def twice (c : UInt8) : Bs → Bool
  | a :: b :: s => (a == c && b == c) || twice c (b :: s)
  | _ => false

theorem contains_twice (c : UInt8) : ∀ s : Bs, Lib.contains s [c, c] = twice c s
  | [] => rfl
  | [b] => by simp [Lib.contains, Lib.index, List.isPrefixOf, twice]
  | a :: b :: s => by
    have ih := contains_twice c (b :: s)
    have hge := Lib.index_ge (b :: s) [c, c]
    unfold Lib.contains at ih ⊢
    rw [Lib.index, twice, ← ih]
    have e : List.isPrefixOf [c, c] (a :: b :: s) = (a == c && b == c) := by
      simp only [List.isPrefixOf, Bool.and_true]
      rw [Bool.eq_iff_iff]; simp; exact ⟨fun h => ⟨h.1.symm, h.2.symm⟩, fun h => ⟨h.1.symm, h.2.symm⟩⟩
    rw [e]
    cases h : (a == c && b == c)
    · simp only [Bool.false_eq_true, if_false, Bool.false_or, beq_iff_eq]
      split
      · rename_i e'; rw [e']
      · rw [decide_eq_decide]; constructor <;> intro <;> omega
    · simp

end Go.Proofs.YtdnoonnanhnkaaaDoor
