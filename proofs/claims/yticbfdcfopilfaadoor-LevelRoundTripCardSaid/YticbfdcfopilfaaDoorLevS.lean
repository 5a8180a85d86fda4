/- What the functions about names answer. -/
import Derived.Test.YticbfdcfopilfaaDoorLevE
import Derived.Test.YticbfdcfopilfaaDoorGlue
set_option linter.unusedVariables false
set_option linter.unusedSimpArgs false
set_option maxRecDepth 20000
set_option maxHeartbeats 2000000
namespace Go.Proofs.YticbfdcfopilfaaDoor
open Go

/-! Slices of arguments -/

section
variable {z : Bool} {sz : Nat} {es : List (List DVal)}
theorem slD_cases (z : Bool) (sz : Nat) (es : List (List DVal)) : (slD z sz es = .nils ∧ es = []) ∨ slD z sz es = .slice false 0 sz es := by
  unfold slD
  cases z <;> cases es <;> simp
@[simp] theorem len_slD : lenSlSem [slD z sz es] = some (.int .i64 es.length) := by
  rcases slD_cases z sz es with ⟨h, rfl⟩ | h <;> rw [h] <;> rfl
@[simp] theorem idx_slD {k : IntKind} {i : Int} : idxSSem sz [slD z sz es, .int k i] = if 0 ≤ i then (es[i.toNat]?).map fun e => .elem e 0 else none := by
  rcases slD_cases z sz es with ⟨h, rfl⟩ | h <;> rw [h] <;> simp [idxSSem]
@[simp] theorem cells_slD : (slD z sz es).cells = [slD z sz es] := by
  rcases slD_cases z sz es with ⟨h, rfl⟩ | h <;> rw [h] <;> rfl
@[simp] theorem okCell_slD : (slD z sz es).okCell = true := by
  rcases slD_cases z sz es with ⟨h, rfl⟩ | h <;> rw [h] <;> rfl
@[simp] theorem okVal_slD : (slD z sz es).okVal = true := by
  rcases slD_cases z sz es with ⟨h, rfl⟩ | h <;> rw [h] <;> rfl
@[simp] theorem sealCell_slD : (slD z sz es).sealCell = some (slD z sz es) := by
  rcases slD_cases z sz es with ⟨h, rfl⟩ | h <;> rw [h] <;> rfl
@[simp] theorem sealVal_slD : (slD z sz es).sealVal = some (slD z sz es) := by
  rcases slD_cases z sz es with ⟨h, rfl⟩ | h <;> rw [h] <;> rfl
@[simp] theorem stale_slD : (slD z sz es).stale = slD z sz es := by
  rcases slD_cases z sz es with ⟨h, rfl⟩ | h <;> rw [h] <;> rfl
@[simp] theorem handBack_slD {σ : Sto} : (slD z sz es).handBack σ = some (slD z sz es) := by
  rcases slD_cases z sz es with ⟨h, rfl⟩ | h <;> rw [h] <;> simp [DVal.handBack, DVal.sealVal, DVal.sealCell]
@[simp] theorem take_slD {k : IntKind} {j : Int} : slcVSem sz false true false [slD z sz es, .int k j] = if 0 ≤ j ∧ j ≤ es.length then some (slD (z && es.isEmpty) sz (es.take j.toNat)) else none := by
  by_cases h0 : z && es.isEmpty
  · have he : es = [] := by cases es with
      | nil => rfl
      | cons e es => simp at h0
    subst he
    have : slD z sz [] = .nils := by unfold slD; rw [if_pos h0]
    rw [this]
    have h2 : (z && List.isEmpty ([] : List (List DVal))) = true := h0
    simp only [slcVSem, bounds, h2]
    by_cases hj : 0 ≤ j ∧ j ≤ 0
    · have : j = 0 := by omega
      subst this
      simp [slD]
    · have : ¬ (0 ≤ j ∧ j ≤ (([] : List (List DVal)).length : Int)) := by simpa using hj
      simp [hj]
  · have : slD z sz es = .slice false 0 sz es := by unfold slD; rw [if_neg h0]
    rw [this]
    have h2 : (z && es.isEmpty) = false := by simpa using h0
    simp only [slcVSem, bounds, h2, if_true]
    by_cases hj : 0 ≤ j ∧ j ≤ es.length
    · simp [hj, slD]
    · simp [hj]
end

/-- Strings. -/
abbrev strsD (z : Bool) (l : List (List UInt8)) : DVal := slD z 1 (l.map fun s => [DVal.str s])

theorem drop_get {α : Type} {l : List α} {i : Nat} {x : α} (h : l[i]? = some x) : l.drop i = x :: l.drop (i + 1) := by
  obtain ⟨hi, rfl⟩ := List.getElem?_eq_some_iff.1 h
  exact List.drop_eq_getElem_cons hi
theorem get_some {α : Type} {l : List α} {i : Nat} (h : i < l.length) : ∃ x, l[i]? = some x := ⟨l[i], List.getElem?_eq_getElem h⟩
theorem take_get {α : Type} {l : List α} {i : Nat} {x : α} (h : l[i]? = some x) : l.take (i + 1) = l.take i ++ [x] := by
  obtain ⟨hi, rfl⟩ := List.getElem?_eq_some_iff.1 h
  rw [List.take_add_one, List.getElem?_eq_getElem hi]; rfl

/-- Is it a byte of names? -/
def chV (x : Int) : Bool := decide (97 ≤ x) && decide (x ≤ 122) || decide (65 ≤ x) && decide (x ≤ 90) || decide (48 ≤ x) && decide (x ≤ 57) || (x == 95)
def isL (b : UInt8) : Bool := chV b.toNat

theorem e70 {n : Nat} (hn : 1 ≤ n) (x : Int) : cpJ PR n 70 [.int .u8 x] = some (.bool (chV x)) := by
  obtain ⟨n, rfl⟩ : ∃ m, n = m + 1 := ⟨n - 1, by omega⟩
  rw [u70]
  simp -implicitDefEqProofs +contextual [D70, chV]

theorem e72 {n : Nat} (hn : 1 ≤ n) (x : Int) : cpJ PR n 72 [.int .u8 x] = some (.bool (chV x)) := by
  obtain ⟨n, rfl⟩ : ∃ m, n = m + 1 := ⟨n - 1, by omega⟩
  rw [u72]
  have : chV x = (decide (65 ≤ x) && decide (x ≤ 90) || decide (97 ≤ x) && decide (x ≤ 122) || decide (48 ≤ x) && decide (x ≤ 57) || (x == 95)) := by
    unfold chV
    rw [Bool.or_comm (decide (97 ≤ x) && decide (x ≤ 122))]
  rw [this]
  simp -implicitDefEqProofs +contextual [D72]

theorem wrap_succ {i : Nat} (h : i < 1000000000000) : IntKind.i64.wrap ((i : Int) + 1) = ((i + 1 : Nat) : Int) := by rw [wrap_i64 (by omega) (by omega)]; rfl

/-- level.word. -/
def wordV (s : List UInt8) : Bool := s.all isL && !s.isEmpty

theorem l60 {n : Nat} (hn : 1 ≤ n) (s : List UInt8) (hs : s.length < 1000000) (σ : Sto) : ∀ (k i m : Nat) (b : DVal), i + k = s.length → k < m →
    iterJ 0 (L60_0 (cpJ PR n) (ciJ PR n) n (.str s) (.int .i64 s.length)) m [.int .i64 i, b] σ = some (.done (.bool ((s.drop i).all isL && !s.isEmpty)) σ) := by
  intro k
  induction k with
  | zero =>
    intro i m b hi hm
    obtain ⟨m, rfl⟩ : ∃ q, m = q + 1 := ⟨m - 1, by omega⟩
    have hi' : ¬ ((i : Int) < s.length) := by omega
    refine iterJ_done ?_
    rw [List.drop_eq_nil_of_le (by omega)]
    simp -implicitDefEqProofs [L60_0, B60_0, hi']
  | succ k ih =>
    intro i m b hi hm
    obtain ⟨m, rfl⟩ : ∃ q, m = q + 1 := ⟨m - 1, by omega⟩
    have hi' : ((i : Int) < s.length) := by omega
    obtain ⟨x, hx⟩ := get_some (by omega : i < s.length)
    have he := e70 hn x.toNat
    rw [drop_get hx]
    cases hb : chV x.toNat with
    | true =>
      rw [hb] at he
      rw [iterJ_next' (vs' := [.int .i64 ((i + 1 : Nat) : Int), b]) (σ' := σ) (by simp -implicitDefEqProofs [L60_0, B60_0, hi', hx, he]; exact wrap_succ (by omega)), ih (i + 1) m b (by omega) (by omega)]
      simp [isL, hb]
    | false =>
      rw [hb] at he
      refine iterJ_done ?_
      simp -implicitDefEqProofs [L60_0, B60_0, hi', hx, he, isL, hb]

theorem e60 {n : Nat} (s : List UInt8) (hs : s.length < 1000000) (hn : s.length + 5 ≤ n) : cpJ PR n 60 [.str s] = some (.bool (wordV s)) := by
  obtain ⟨n, rfl⟩ : ∃ m, n = m + 1 := ⟨n - 1, by omega⟩
  have := l60 (n := n) (by omega) s hs emptySto s.length 0 n (.bool false) (by omega) (by omega)
  rw [u60]
  simp only [Int.natCast_zero] at this
  simp -implicitDefEqProofs [D60, this, wordV]

/-- The index of a string, from i on. -/
def idxAt (s : List UInt8) : List (List UInt8) → Nat → Int
  | [], _ => -1
  | x :: xs, i => if x = s then i else idxAt s xs (i + 1)

theorem l51 {n : Nat} (z : Bool) (l : List (List UInt8)) (hl : l.length < 1000000) (s : List UInt8) (σ : Sto) : ∀ (k i m : Nat) (b : DVal), i + k = l.length → k < m →
    iterJ 0 (L51_0 (cpJ PR n) (ciJ PR n) n (strsD z l) (.str s) (.int .i64 l.length)) m [.int .i64 i, b] σ = some (.done (.int .i64 (idxAt s (l.drop i) i)) σ) := by
  intro k
  induction k with
  | zero =>
    intro i m b hi hm
    obtain ⟨m, rfl⟩ : ∃ q, m = q + 1 := ⟨m - 1, by omega⟩
    have hi' : ¬ ((i : Int) < l.length) := by omega
    refine iterJ_done ?_
    rw [List.drop_eq_nil_of_le (by omega)]
    simp -implicitDefEqProofs [L51_0, B51_0, hi', idxAt]
  | succ k ih =>
    intro i m b hi hm
    obtain ⟨m, rfl⟩ : ∃ q, m = q + 1 := ⟨m - 1, by omega⟩
    have hi' : ((i : Int) < l.length) := by omega
    obtain ⟨x, hx⟩ := get_some (by omega : i < l.length)
    rw [drop_get hx, idxAt]
    by_cases hxs : x = s
    · refine iterJ_done ?_
      subst hxs
      simp -implicitDefEqProofs [L51_0, B51_0, hi', hx]
    · have hxs' : ¬ s = x := fun h => hxs h.symm
      rw [iterJ_next' (vs' := [.int .i64 ((i + 1 : Nat) : Int), b]) (σ' := σ) (by simp -implicitDefEqProofs [L51_0, B51_0, hi', hx, hxs']; exact wrap_succ (by omega)), ih (i + 1) m b (by omega) (by omega)]
      simp [hxs]

theorem e51 {n : Nat} (z : Bool) (l : List (List UInt8)) (s : List UInt8) (hl : l.length < 1000000) (hn : l.length + 5 ≤ n) : cpJ PR n 51 [strsD z l, .str s] = some (.int .i64 (idxAt s l 0)) := by
  obtain ⟨n, rfl⟩ : ∃ m, n = m + 1 := ⟨n - 1, by omega⟩
  have := l51 (n := n) z l hl s emptySto l.length 0 n (.int .i64 0) (by omega) (by omega)
  rw [u51]
  simp only [Int.natCast_zero, List.drop_zero] at this
  simp -implicitDefEqProofs [D51, this]

theorem l52 {n : Nat} (z : Bool) (l : List (List UInt8)) (hl : l.length < 1000000) (s : List UInt8) (σ : Sto) : ∀ (k i m : Nat) (b : DVal), i + k = l.length → k < m →
    iterJ 0 (L52_0 (cpJ PR n) (ciJ PR n) n (strsD z l) (.str s)) m [.int .i64 i, b] σ = some (.done (.int .i64 (idxAt s (l.drop i) i)) σ) := by
  intro k
  induction k with
  | zero =>
    intro i m b hi hm
    obtain ⟨m, rfl⟩ : ∃ q, m = q + 1 := ⟨m - 1, by omega⟩
    have hi' : ¬ ((i : Int) < l.length) := by omega
    refine iterJ_done ?_
    rw [List.drop_eq_nil_of_le (by omega)]
    simp -implicitDefEqProofs [L52_0, B52_0, hi', idxAt]
  | succ k ih =>
    intro i m b hi hm
    obtain ⟨m, rfl⟩ : ∃ q, m = q + 1 := ⟨m - 1, by omega⟩
    have hi' : ((i : Int) < l.length) := by omega
    obtain ⟨x, hx⟩ := get_some (by omega : i < l.length)
    rw [drop_get hx, idxAt]
    by_cases hxs : x = s
    · refine iterJ_done ?_
      subst hxs
      simp -implicitDefEqProofs [L52_0, B52_0, hi', hx]
    · rw [iterJ_next' (vs' := [.int .i64 ((i + 1 : Nat) : Int), b]) (σ' := σ) (by simp -implicitDefEqProofs [L52_0, B52_0, hi', hx, hxs]; exact wrap_succ (by omega)), ih (i + 1) m b (by omega) (by omega)]
      simp [hxs]

theorem e52 {n : Nat} (z : Bool) (l : List (List UInt8)) (s : List UInt8) (hl : l.length < 1000000) (hn : l.length + 5 ≤ n) : cpJ PR n 52 [strsD z l, .str s] = some (.int .i64 (idxAt s l 0)) := by
  obtain ⟨n, rfl⟩ : ∃ m, n = m + 1 := ⟨n - 1, by omega⟩
  have := l52 (n := n) z l hl s emptySto l.length 0 n (.int .i64 0) (by omega) (by omega)
  rw [u52]
  simp only [Int.natCast_zero, List.drop_zero] at this
  simp -implicitDefEqProofs [D52, this]

theorem idxAt_ge (s : List UInt8) : ∀ (l : List (List UInt8)) (i : Nat), (0 ≤ idxAt s l i ↔ s ∈ l)
  | [], i => by simp [idxAt]
  | x :: xs, i => by
    unfold idxAt
    by_cases h : x = s
    · simp [h]
    · have h' : ¬ s = x := fun e => h e.symm
      simp only [h, if_false, List.mem_cons, h', false_or]
      exact idxAt_ge s xs (i + 1)

theorem e68 {n : Nat} (z : Bool) (l : List (List UInt8)) (s : List UInt8) (hl : l.length < 1000000) (hn : l.length + 6 ≤ n) : cpJ PR n 68 [strsD z l, .str s] = some (.bool (decide (s ∈ l))) := by
  obtain ⟨n, rfl⟩ : ∃ m, n = m + 1 := ⟨n - 1, by omega⟩
  rw [u68]
  simp -implicitDefEqProofs [D68, e51 (n := n) z l s hl (by omega)]
  exact idxAt_ge s l 0

end Go.Proofs.YticbfdcfopilfaaDoor
