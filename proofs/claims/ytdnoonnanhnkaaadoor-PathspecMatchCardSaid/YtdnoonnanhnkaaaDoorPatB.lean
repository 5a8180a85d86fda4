/- What the functions that take texts apart answer. -/
import Derived.Test.YtdnoonnanhnkaaaDoorPatA
import Derived.Test.YtdnoonnanhnkaaaDoorCutL
set_option linter.unusedVariables false
set_option linter.unusedSimpArgs false
set_option maxRecDepth 20000
set_option maxHeartbeats 2000000
namespace Go.Proofs.YtdnoonnanhnkaaaDoor
open Go

theorem u49 (n : Nat) (xs : List DVal) : cpJ PR (n + 1) 49 xs = containsSem xs := by
  have : PR 49 = some (.prim containsSem) := by kernel_rfl
  simp only [cpJ, evJ, this, Option.map_map]
  cases containsSem xs <;> rfl
theorem u53 (n : Nat) (xs : List DVal) : cpJ PR (n + 1) 53 xs = countSem xs := by
  have : PR 53 = some (.prim countSem) := by kernel_rfl
  simp only [cpJ, evJ, this, Option.map_map]
  cases countSem xs <;> rfl
theorem u60 (n : Nat) (xs : List DVal) : cpJ PR (n + 1) 60 xs = containsRuneSem xs := by
  have : PR 60 = some (.prim containsRuneSem) := by kernel_rfl
  simp only [cpJ, evJ, this, Option.map_map]
  cases containsRuneSem xs <;> rfl
theorem u96 (n : Nat) (xs : List DVal) : cpJ PR (n + 1) 96 xs = containsAnySem xs := by
  have : PR 96 = some (.prim containsAnySem) := by kernel_rfl
  simp only [cpJ, evJ, this, Option.map_map]
  cases containsAnySem xs <;> rfl
theorem u64 (n : Nat) (xs : List DVal) : cpJ PR (n + 1) 64 xs = genSplitSem xs := by
  have : PR 64 = some (.prim genSplitSem) := by kernel_rfl
  simp only [cpJ, evJ, this, Option.map_map]
  cases genSplitSem xs <;> rfl

/-! Bytes of paths -/

theorem u8_47 (c : UInt8) : (((c.toNat : Int) == 47) : Bool) = (c == 47) := u8_lit c 47 (by decide)
theorem u8_34 (c : UInt8) : (((c.toNat : Int) == 34) : Bool) = (c == 34) := u8_lit c 34 (by decide)

def pB (b : UInt8) : Bool := decide (33 ≤ b.toNat) && decide (b.toNat ≤ 126) && b != 47 && b != 42 && b != 63 && b != 34

theorem e54 {n : Nat} (hn : 1 ≤ n) (b : UInt8) : cpJ PR n 54 [.int .u8 b.toNat] = some (.bool (pB b)) := by
  obtain ⟨n, rfl⟩ : ∃ m, n = m + 1 := ⟨n - 1, by omega⟩
  rw [u54]
  have h1 : decide ((33 : Int) ≤ b.toNat) = decide (33 ≤ b.toNat) := by rw [decide_eq_decide]; omega
  have h2 : decide ((b.toNat : Int) ≤ 126) = decide (b.toNat ≤ 126) := by rw [decide_eq_decide]; omega
  have n47 : ((b.toNat : Int) != 47) = (b != 47) := by simp only [bne, u8_47]
  have n42 : ((b.toNat : Int) != 42) = (b != 42) := by simp only [bne, u8_42]
  have n63 : ((b.toNat : Int) != 63) = (b != 63) := by simp only [bne, u8_63]
  have n34 : ((b.toNat : Int) != 34) = (b != 34) := by simp only [bne, u8_34]
  unfold pB
  rw [← h1, ← h2, ← n47, ← n42, ← n63, ← n34]
  simp -implicitDefEqProofs +contextual [D54]

theorem e50 {n : Nat} (hn : 2 ≤ n) (b : UInt8) : cpJ PR n 50 [.int .u8 b.toNat] = some (.bool (pB b)) := by
  obtain ⟨n, rfl⟩ : ∃ m, n = m + 1 := ⟨n - 1, by omega⟩
  rw [u50]
  by_cases h1 : 33 ≤ b.toNat
  · have h1' : (33 : Int) ≤ b.toNat := by omega
    by_cases h2 : b.toNat ≤ 126
    · have h2' : (b.toNat : Int) ≤ 126 := by omega
      have hw : IntKind.i32.wrap (b.toNat : Int) = b.toNat := by simp -implicitDefEqProofs [IntKind.wrap, IntKind.bits, IntKind.signed]; omega
      have hc : cpJ PR n 60 [.str [47, 42, 63, 34], .int .i32 b.toNat] = some (.bool (([47, 42, 63, 34] : Bs).contains b)) := by
        obtain ⟨n, rfl⟩ : ∃ m, n = m + 1 := ⟨n - 1, by omega⟩
        rw [u60]
        simp only [containsRuneSem]
        rw [if_pos (by omega)]
        simp
      have hp : pB b = !([47, 42, 63, 34] : Bs).contains b := by
        unfold pB
        simp only [h1, h2, decide_true, Bool.true_and, bne, List.contains_cons, List.contains_nil, Bool.or_false, Bool.not_or, Bool.and_assoc]
      simp -implicitDefEqProofs [D50, h1', h2', hw, hc, hp]
    · have h2' : ¬ (b.toNat : Int) ≤ 126 := by omega
      simp -implicitDefEqProofs [D50, h1', h2', pB, h1, h2]
  · have h1' : ¬ (33 : Int) ≤ b.toNat := by omega
    simp -implicitDefEqProofs [D50, h1', pB, h1]

/-! The texts between slashes -/

theorem e67 {n : Nat} (hn : 1 ≤ n) (s p : Bs) (hs : s.length < 1000000000) (hp : p.length < 1000000000) : cpJ PR n 67 [.str s, .str p] = some (.bool (p.isPrefixOf s)) := by
  obtain ⟨n, rfl⟩ : ∃ m, n = m + 1 := ⟨n - 1, by omega⟩
  rw [u67]
  by_cases h : (p.length : Int) ≤ s.length
  · have e : (s.take p.length == p) = p.isPrefixOf s := by
      rw [Bool.eq_iff_iff, beq_iff_eq, List.isPrefixOf_iff_prefix, List.prefix_iff_eq_take, eq_comm]
    simp -implicitDefEqProofs [D67, h, e]
  · have e : p.isPrefixOf s = false := by
      cases hh : p.isPrefixOf s with
      | false => rfl
      | true => have := (List.isPrefixOf_iff_prefix.1 hh).length_le; omega
    simp -implicitDefEqProofs [D67, h, e]

theorem e57 {n : Nat} (hn : 3 ≤ n) (s p : Bs) (hs : s.length < 1000000000) (hp : p.length < 1000000000) : cpJ PR n 57 [.str s, .str p] =
    some (.tup [.str (if p.isPrefixOf s then s.drop p.length else s), .bool (p.isPrefixOf s)]) := by
  obtain ⟨n, rfl⟩ : ∃ m, n = m + 1 := ⟨n - 1, by omega⟩
  have h63 : cpJ PR n 63 [.str s, .str p] = some (.tup [.str (if p.isPrefixOf s then s.drop p.length else s), .bool (p.isPrefixOf s)]) := by
    obtain ⟨n, rfl⟩ : ∃ m, n = m + 1 := ⟨n - 1, by omega⟩
    have h := e67 (n := n) (by omega) s p hs hp
    rw [u63]
    cases hh : p.isPrefixOf s with
    | false => rw [hh] at h; simp -implicitDefEqProofs [D63, h]
    | true =>
      rw [hh] at h
      have hle : (p.length : Int) ≤ s.length := by have := (List.isPrefixOf_iff_prefix.1 hh).length_le; omega
      have e : List.take (s.length - p.length) (s.drop p.length) = s.drop p.length := List.take_of_length_le (by simp)
      simp -implicitDefEqProofs [D63, h, hle, e]
  rw [u57]
  simp -implicitDefEqProofs [D57, h63]

theorem e58 {n : Nat} (hn : 2 ≤ n) (s : Bs) (hs : s.length ≤ 100000) : cpJ PR n 58 [.str s, .str [47]] = some (strsD false (parts 47 s)) := by
  obtain ⟨n, rfl⟩ : ∃ m, n = m + 1 := ⟨n - 1, by omega⟩
  have h : cpJ PR n 64 [.str s, .str [47], .int .i64 0, .int .i64 (-1)] = some (strsD false (parts 47 s)) := by
    obtain ⟨n, rfl⟩ : ∃ m, n = m + 1 := ⟨n - 1, by omega⟩
    rw [u64]
    simp only [genSplitSem]
    rw [if_pos ⟨by omega, by simp⟩, split_parts]
    rfl
  rw [u58]
  simp -implicitDefEqProofs [D58, h]

/-- The texts of the elements, if it begins with a slash and is not too long. -/
def divV (s : Bs) : Option (List Bs) :=
  if s = [47] then some [] else match s with
    | b :: r => if b = 47 ∧ s.length ≤ 256 then some (parts 47 r) else none
    | [] => none

theorem strsD_ne {l : List Bs} (h : l ≠ []) : strsD false l = strsD true l := by
  cases l with
  | nil => exact absurd rfl h
  | cons a l => simp [strsD, slD]

theorem e48 {n : Nat} (hn : 5 ≤ n) (s : Bs) (hs : s.length ≤ 100000) : cpJ PR n 48 [.str s] =
    some (match divV s with | some l => .tup [strsD true l, .bool true] | none => .tup [.nils, .bool false]) := by
  obtain ⟨n, rfl⟩ : ∃ m, n = m + 1 := ⟨n - 1, by omega⟩
  rw [u48]
  unfold divV
  by_cases h1 : s = [47]
  · subst h1
    simp -implicitDefEqProofs [D48, slD]
  · have h1' : (s == [47]) = false := by simpa using h1
    have hc := e57 (n := n) (by omega) s [47] (by omega) (by simp)
    rw [if_neg h1]
    cases s with
    | nil => simp -implicitDefEqProofs [D48, hc]
    | cons b r =>
      simp only [List.length_cons] at hs
      by_cases hb : b = 47
      · subst hb
        by_cases h256 : r.length + 1 ≤ 256
        · have h2 : ¬ (256 : Int) < (r.length : Int) + 1 := by omega
          have hp := e58 (n := n) (by omega) r (by omega)
          rw [strsD_ne (parts_ne _ _)] at hp
          have hh : cpJ PR n 57 [.str (47 :: r), .str [47]] = some (.tup [.str r, .bool true]) := by simpa [List.isPrefixOf] using hc
          simp -implicitDefEqProofs [D48, h1', hh, h2, h256, hp]
        · have h2 : (256 : Int) < (r.length : Int) + 1 := by omega
          have hh : cpJ PR n 57 [.str (47 :: r), .str [47]] = some (.tup [.str r, .bool true]) := by simpa [List.isPrefixOf] using hc
          simp -implicitDefEqProofs [D48, h1', hh, h2, h256]
      · have hh : cpJ PR n 57 [.str (b :: r), .str [47]] = some (.tup [.str (b :: r), .bool false]) := by
          have hb2 : (47 == b) = false := by simpa using Ne.symm hb
          simpa [List.isPrefixOf, hb2] using hc
        simp -implicitDefEqProofs [D48, h1', hh, hb]

/-! Paths -/

/-- Is it an element of a path? -/
def nameOk (t : Bs) : Bool := !t.isEmpty && t.all pB
/-- Is it an element of a pattern? -/
def eltOk (t : Bs) : Bool := t == [42, 42] || (!t.isEmpty && !twice 42 t && t.all fun b => pB b || b == 63 || b == 42)

theorem l34_0 {n : Nat} (hn : 5 ≤ n) (t : Bs) (ht : t.length ≤ 100000) (i0 : Nat) (u v : DVal) (σ : Sto) (hi0 : i0 < 100000) : ∀ (k i m : Nat), i + k = t.length → k < m →
    iterJ 1 (L34_0 (cpJ PR n) (ciJ PR n) n (.int .i64 i0) (.str t) (.int .i64 t.length)) m [.int .i64 i, u, v] σ =
      if (t.drop i).all pB then some (.next 0 [.int .i64 ((i0 + 1 : Nat) : Int), u, v] σ) else some (.done (.tup [.nils, .bool false]) σ) := by
  intro k
  induction k with
  | zero =>
    intro i m hi hm
    obtain ⟨m, rfl⟩ : ∃ q, m = q + 1 := ⟨m - 1, by omega⟩
    have hi' : ¬ ((i : Int) < t.length) := by omega
    have hw := wrap_succ (i := i0) (by omega)
    rw [List.drop_eq_nil_of_le (by omega)]
    refine iterJ_out ?_ (by decide)
    simp only [Int.natCast_add, Int.natCast_one] at hw
    simp -implicitDefEqProofs [L34_0, B34_0, hi', hw]
  | succ k ih =>
    intro i m hi hm
    obtain ⟨m, rfl⟩ : ∃ q, m = q + 1 := ⟨m - 1, by omega⟩
    have hi' : ((i : Int) < t.length) := by omega
    obtain ⟨x, hx⟩ := get_some (by omega : i < t.length)
    have hw := wrap_succ (i := i) (by omega)
    simp only [Int.natCast_add, Int.natCast_one] at hw
    have hb := e50 (n := n) (by omega) x
    rw [drop_get hx, List.all_cons]
    cases hp : pB x with
    | true =>
      rw [hp] at hb
      rw [iterJ_next' (vs' := [.int .i64 ((i + 1 : Nat) : Int), u, v]) (σ' := σ) (by simp -implicitDefEqProofs [L34_0, B34_0, hi', hx, hb, hw]), ih (i + 1) m (by omega) (by omega)]
      rw [Bool.true_and]
    | false =>
      rw [hp] at hb
      refine iterJ_done ?_
      simp -implicitDefEqProofs [L34_0, B34_0, hi', hx, hb]

theorem l34_1 {n : Nat} (hn : 100010 ≤ n) (l : List Bs) (hl : l.length < 100000) (hs : ∀ t ∈ l, t.length ≤ 100000) (σ : Sto) (u v : DVal) : ∀ (k i m : Nat), i + k = l.length → k < m →
    iterJ 0 (L34_1 (cpJ PR n) (ciJ PR n) n (strsD true l) (.int .i64 l.length)) m [.int .i64 i, u, v] σ =
      if (l.drop i).all nameOk then some (.done (.tup [strsD true l, .bool true]) σ) else some (.done (.tup [.nils, .bool false]) σ) := by
  intro k
  induction k with
  | zero =>
    intro i m hi hm
    obtain ⟨m, rfl⟩ : ∃ q, m = q + 1 := ⟨m - 1, by omega⟩
    have hi' : ¬ ((i : Int) < l.length) := by omega
    rw [List.drop_eq_nil_of_le (by omega)]
    refine iterJ_done ?_
    simp -implicitDefEqProofs [L34_1, B34_1, hi']
  | succ k ih =>
    intro i m hi hm
    obtain ⟨m, rfl⟩ : ∃ q, m = q + 1 := ⟨m - 1, by omega⟩
    have hi' : ((i : Int) < l.length) := by omega
    obtain ⟨x, hx⟩ := get_some (by omega : i < l.length)
    have hxl := hs x (List.mem_of_getElem? hx)
    rw [drop_get hx, List.all_cons]
    by_cases h0 : x = []
    · subst h0
      rw [iterJ_done (v := .tup [.nils, .bool false]) (σ' := σ) (by simp -implicitDefEqProofs [L34_1, B34_1, hi', hx])]
      simp [nameOk]
    · have h0' : (x == []) = false := by simpa using h0
      have hin := l34_0 (n := n) (by omega) x hxl i u v σ (by omega) x.length 0 n (by omega) (by omega)
      simp only [Int.natCast_zero, List.drop_zero] at hin
      have hn' : nameOk x = x.all pB := by
        unfold nameOk
        rw [List.isEmpty_eq_false_iff.2 h0]; simp
      rw [hn']
      cases hp : x.all pB with
      | true =>
        rw [hp] at hin
        simp only [if_true] at hin
        rw [iterJ_next' (vs' := [.int .i64 ((i + 1 : Nat) : Int), u, v]) (σ' := σ) (by simp -implicitDefEqProofs [L34_1, B34_1, hi', hx, h0', hin]), ih (i + 1) m (by omega) (by omega)]
        rw [Bool.true_and]
      | false =>
        rw [hp] at hin
        simp only [Bool.false_eq_true, if_false] at hin
        rw [iterJ_done (v := .tup [.nils, .bool false]) (σ' := σ) (by simp -implicitDefEqProofs [L34_1, B34_1, hi', hx, h0', hin])]
        simp

/-- The elements of a path, if it is one. -/
def namesV (s : Bs) : Option (List Bs) := (divV s).bind fun l => if l.all nameOk then some l else none

theorem divV_len {s : Bs} {l : List Bs} (h : divV s = some l) : l.length ≤ s.length ∧ ∀ t ∈ l, t.length ≤ s.length := by
  unfold divV at h
  split at h
  · simp only [Option.some.injEq] at h; subst h; simp
  · split at h
    · rename_i b r hs
      split at h
      · simp only [Option.some.injEq] at h
        subst h
        have := parts_len 47 r
        refine ⟨by simp; omega, fun t ht => ?_⟩
        have := this.2 t ht
        simp; omega
      · cases h
    · cases h

theorem e34 {n : Nat} (hn : 100020 ≤ n) (s : Bs) (hs : s.length ≤ 90000) : cpJ PR n 34 [.str s] =
    some (match namesV s with | some l => .tup [strsD true l, .bool true] | none => .tup [.nils, .bool false]) := by
  obtain ⟨n, rfl⟩ : ∃ m, n = m + 1 := ⟨n - 1, by omega⟩
  have h := e48 (n := n) (by omega) s (by omega)
  rw [u34]
  unfold namesV
  cases hd : divV s with
  | none =>
    rw [hd] at h
    simp only at h
    simp -implicitDefEqProofs [D34, h]
  | some l =>
    rw [hd] at h
    simp only at h
    have hl := divV_len hd
    have hlp := l34_1 (n := n) (by omega) l (by omega) (fun t ht => by have := hl.2 t ht; omega) emptySto (.bool false) .nils l.length 0 n (by omega) (by omega)
    simp only [Int.natCast_zero, List.drop_zero] at hlp
    cases hp : l.all nameOk with
    | true => rw [hp] at hlp; simp only [Option.bind_some, hp, if_true, Bool.false_eq_true, if_false] at hlp ⊢; simp -implicitDefEqProofs [D34, h, hlp]
    | false => rw [hp] at hlp; simp only [Option.bind_some, hp, if_true, Bool.false_eq_true, if_false] at hlp ⊢; simp -implicitDefEqProofs [D34, h, hlp]

/-! Patterns -/

/-- An element of a pattern. -/
def eltD (t : Bs) : DVal := if t = [42, 42] then .iface 72 (.agg []) else .iface 75 (.agg [.str t])
/-- Elements of a pattern. -/
def eltRows (l : List Bs) : List (List DVal) := l.map fun t => [eltD t]
@[simp] theorem eltRows_len (l : List Bs) : (eltRows l).length = l.length := by simp [eltRows]
@[simp] theorem eltRows_get (l : List Bs) (i : Nat) : (eltRows l)[i]? = (l[i]?).map fun t => [eltD t] := by simp [eltRows]
abbrev eltsD (l : List Bs) : DVal := slD true 1 (eltRows l)

def eltB (b : UInt8) : Bool := pB b || b == 63 || b == 42

theorem l31_0 {n : Nat} (hn : 5 ≤ n) (t : Bs) (h2 : t ≠ [42, 42]) (ht : t.length ≤ 100000) (i0 : Nat) (es : List (List DVal)) (hes : es.length < 100000) (u v : DVal) (σ : Sto) (hi0 : i0 < 100000) : ∀ (k i m : Nat), i + k = t.length → k < m →
    iterJ 1 (L31_0 (cpJ PR n) (ciJ PR n) n (.int .i64 i0) (apd σ 1 es).1 (.str t) (.int .i64 t.length)) m [.int .i64 i, u, v] (apd σ 1 es).2 =
      if (t.drop i).all eltB then some (.next 0 [.int .i64 ((i0 + 1 : Nat) : Int), (apd σ 1 (es ++ [[eltD t]])).1, u, v] (apd σ 1 (es ++ [[eltD t]])).2) else some (.done (.tup [.nils, .bool false]) (apd σ 1 es).2) := by
  intro k
  induction k with
  | zero =>
    intro i m hi hm
    obtain ⟨m, rfl⟩ : ∃ q, m = q + 1 := ⟨m - 1, by omega⟩
    have hi' : ¬ ((i : Int) < t.length) := by omega
    have hw := wrap_succ (i := i0) (by omega)
    have ha := app_apd (σ := σ) (sz := 1) (own := 1) (es := es) (r := [eltD t]) (by omega)
    rw [List.drop_eq_nil_of_le (by omega)]
    refine iterJ_out ?_ (by decide)
    simp only [Int.natCast_add, Int.natCast_one] at hw
    rw [eltD, if_neg h2] at ha
    simp -implicitDefEqProofs [L31_0, B31_0, hi', hw, ha, eltD, h2]
  | succ k ih =>
    intro i m hi hm
    obtain ⟨m, rfl⟩ : ∃ q, m = q + 1 := ⟨m - 1, by omega⟩
    have hi' : ((i : Int) < t.length) := by omega
    obtain ⟨x, hx⟩ := get_some (by omega : i < t.length)
    have hw := wrap_succ (i := i) (by omega)
    simp only [Int.natCast_add, Int.natCast_one] at hw
    have hb := e50 (n := n) (by omega) x
    rw [drop_get hx, List.all_cons]
    cases he : eltB x with
    | true =>
      rw [iterJ_next' (vs' := [.int .i64 ((i + 1 : Nat) : Int), u, v]) (σ' := (apd σ 1 es).2), ih (i + 1) m (by omega) (by omega)]
      · rw [Bool.true_and]
      · cases hp : pB x <;> rw [hp] at hb
        · cases h63 : (x == 63) <;> cases h42 : (x == 42) <;> simp only [eltB, hp, h63, h42, Bool.or_false, Bool.or_true, Bool.false_eq_true] at he <;> simp -implicitDefEqProofs [L31_0, B31_0, hi', hx, hb, hw, bne, u8_63, u8_42, h63, h42]
        · simp -implicitDefEqProofs [L31_0, B31_0, hi', hx, hb, hw]
    | false =>
      simp only [eltB, Bool.or_eq_false_iff] at he
      obtain ⟨⟨hp, h63⟩, h42⟩ := he
      rw [hp] at hb
      refine iterJ_done ?_
      simp -implicitDefEqProofs [L31_0, B31_0, hi', hx, hb, bne, u8_63, u8_42, h63, h42]

theorem l31_1 {n : Nat} (hn : 100010 ≤ n) (l : List Bs) (hl : l.length < 100000) (hs : ∀ t ∈ l, t.length ≤ 100000) (σ : Sto) (u v : DVal) : ∀ (k i m : Nat), i + k = l.length → k < m → (l.take i).all eltOk = true →
    ∃ σ', iterJ 0 (L31_1 (cpJ PR n) (ciJ PR n) n (strsD true l) (.int .i64 l.length)) m [.int .i64 i, (apd σ 1 (eltRows (l.take i))).1, u, v] (apd σ 1 (eltRows (l.take i))).2 =
      (if l.all eltOk then some (.done (.tup [(apd σ 1 (eltRows l)).1, .bool true]) (apd σ 1 (eltRows l)).2) else some (.done (.tup [.nils, .bool false]) σ')) := by
  intro k
  induction k with
  | zero =>
    intro i m hi hm hall
    obtain ⟨m, rfl⟩ : ∃ q, m = q + 1 := ⟨m - 1, by omega⟩
    have hi' : ¬ ((i : Int) < l.length) := by omega
    rw [List.take_of_length_le (by omega)] at hall ⊢
    rw [hall]
    refine ⟨σ, iterJ_done ?_⟩
    simp -implicitDefEqProofs [L31_1, B31_1, hi']
  | succ k ih =>
    intro i m hi hm hall
    obtain ⟨m, rfl⟩ : ∃ q, m = q + 1 := ⟨m - 1, by omega⟩
    have hi' : ((i : Int) < l.length) := by omega
    obtain ⟨x, hx⟩ := get_some (by omega : i < l.length)
    have hxl := hs x (List.mem_of_getElem? hx)
    have htk : l.take (i + 1) = l.take i ++ [x] := take_get hx
    have hrows : eltRows (l.take (i + 1)) = eltRows (l.take i) ++ [[eltD x]] := by rw [htk]; simp [eltRows]
    have hlen : (eltRows (l.take i)).length = i := by simp; omega
    have hw := wrap_succ (i := i) (by omega)
    simp only [Int.natCast_add, Int.natCast_one] at hw
    have hcont : eltOk x = true → ∃ σ', iterJ 0 (L31_1 (cpJ PR n) (ciJ PR n) n (strsD true l) (.int .i64 l.length)) m [.int .i64 ((i + 1 : Nat) : Int), (apd σ 1 (eltRows (l.take i) ++ [[eltD x]])).1, u, v] (apd σ 1 (eltRows (l.take i) ++ [[eltD x]])).2 =
      (if l.all eltOk then some (.done (.tup [(apd σ 1 (eltRows l)).1, .bool true]) (apd σ 1 (eltRows l)).2) else some (.done (.tup [.nils, .bool false]) σ')) := by
      intro hok
      rw [← hrows]
      exact ih (i + 1) m (by omega) (by omega) (by rw [htk, List.all_append, hall]; simp [hok])
    have hbad : eltOk x = false → l.all eltOk = false := by
      intro hok
      rw [List.all_eq_false]
      exact ⟨x, List.mem_of_getElem? hx, by simp [hok]⟩
    have ha := app_apd (σ := σ) (sz := 1) (own := 1) (es := eltRows (l.take i)) (r := [eltD x]) (by omega)
    by_cases h2 : x = [42, 42]
    · obtain ⟨σ', h⟩ := hcont (by simp [eltOk, h2])
      refine ⟨σ', ?_⟩
      rw [← h]
      refine iterJ_next' ?_
      subst h2
      simp only [eltD, if_true] at ha ⊢
      simp -implicitDefEqProofs [L31_1, B31_1, hi', hx, ha, hw]
    · have h2' : (x == [42, 42]) = false := by simpa using h2
      by_cases h0 : x = []
      · rw [hbad (by subst h0; decide)]
        subst h0
        refine ⟨(apd σ 1 (eltRows (l.take i))).2, iterJ_done ?_⟩
        simp -implicitDefEqProofs [L31_1, B31_1, hi', hx]
      · have h0' : (x == []) = false := by simpa using h0
        have hc : cpJ PR n 49 [.str x, .str [42, 42]] = some (.bool (twice 42 x)) := by
          obtain ⟨n, rfl⟩ : ∃ m, n = m + 1 := ⟨n - 1, by omega⟩
          rw [u49]
          simp only [containsSem]
          rw [if_pos (by omega), contains_twice]
        have hok : eltOk x = (!twice 42 x && x.all eltB) := by
          unfold eltOk
          rw [h2', List.isEmpty_eq_false_iff.2 h0]
          simp only [Bool.false_or, Bool.not_false, Bool.true_and]
          rfl
        cases htw : twice 42 x with
        | true =>
          rw [htw] at hc hok
          rw [hbad (by rw [hok]; rfl)]
          refine ⟨(apd σ 1 (eltRows (l.take i))).2, iterJ_done ?_⟩
          simp -implicitDefEqProofs [L31_1, B31_1, hi', hx, h2', h0', hc]
        | false =>
          rw [htw] at hc hok
          have hin := l31_0 (n := n) (by omega) x h2 hxl i (eltRows (l.take i)) (by omega) u v σ (by omega) x.length 0 n (by omega) (by omega)
          simp only [Int.natCast_zero, List.drop_zero] at hin
          cases hp : x.all eltB with
          | true =>
            rw [hp] at hin hok
            simp only [if_true] at hin
            obtain ⟨σ', h⟩ := hcont (by rw [hok]; rfl)
            refine ⟨σ', ?_⟩
            rw [← h]
            refine iterJ_next' ?_
            simp -implicitDefEqProofs [L31_1, B31_1, hi', hx, h2', h0', hc, hin]
          | false =>
            rw [hp] at hin hok
            simp only [Bool.false_eq_true, if_false] at hin
            rw [hbad (by rw [hok]; rfl)]
            refine ⟨(apd σ 1 (eltRows (l.take i))).2, iterJ_done ?_⟩
            simp -implicitDefEqProofs [L31_1, B31_1, hi', hx, h2', h0', hc, hin]

/-- The texts of a pattern's elements, if it is one. -/
def elemsV (s : Bs) : Option (List Bs) := (divV s).bind fun l => if l.all eltOk then some l else none

theorem e31 {n : Nat} (hn : 100020 ≤ n) (s : Bs) (hs : s.length ≤ 90000) : cpJ PR n 31 [.str s] =
    some (match elemsV s with | some l => .tup [eltsD l, .bool true] | none => .tup [.nils, .bool false]) := by
  obtain ⟨n, rfl⟩ : ∃ m, n = m + 1 := ⟨n - 1, by omega⟩
  have h := e48 (n := n) (by omega) s (by omega)
  rw [u31]
  unfold elemsV
  cases hd : divV s with
  | none =>
    rw [hd] at h
    simp only at h
    simp -implicitDefEqProofs [D31, h]
  | some l =>
    rw [hd] at h
    simp only at h
    have hl := divV_len hd
    obtain ⟨σ', hlp⟩ := l31_1 (n := n) (by omega) l (by omega) (fun t ht => by have := hl.2 t ht; omega) emptySto (.bool false) .nils l.length 0 n (by omega) (by omega) (by simp)
    simp only [Int.natCast_zero, List.take_zero] at hlp
    change iterJ 0 _ n [.int .i64 0, .nils, .bool false, .nils] emptySto = _ at hlp
    cases hp : l.all eltOk with
    | true => rw [hp] at hlp; simp only [Option.bind_some, hp, if_true, Bool.false_eq_true, if_false] at hlp ⊢; simp -implicitDefEqProofs [D31, h, hlp]
    | false => rw [hp] at hlp; simp only [Option.bind_some, hp, if_true, Bool.false_eq_true, if_false] at hlp ⊢; simp -implicitDefEqProofs [D31, h, hlp]

end Go.Proofs.YtdnoonnanhnkaaaDoor
