/- Special elements and stems. -/
import Derived.Test.YtdnoonnanhnkaaaDoorPatC
set_option linter.unusedVariables false
set_option linter.unusedSimpArgs false
set_option maxRecDepth 20000
set_option maxHeartbeats 2000000
namespace Go.Proofs.YtdnoonnanhnkaaaDoor
open Go

def specB (b : UInt8) : Bool := b == 63 || b == 42
/-- Is an element special? -/
def specV (t : Bs) : Bool := t.any specB

theorem spec_two : specV [42, 42] = true := by decide

theorem eltOk_facts {t : Bs} (h : eltOk t = true) : t ≠ [] ∧ ∀ b ∈ t, eltB b = true := by
  unfold eltOk at h
  simp only [Bool.or_eq_true, beq_iff_eq, Bool.and_eq_true, Bool.not_eq_true', List.all_eq_true] at h
  rcases h with rfl | ⟨⟨h1, -⟩, h2⟩
  · exact ⟨by simp, by decide⟩
  · exact ⟨List.isEmpty_eq_false_iff.1 h1, fun b hb => by simpa [eltB] using h2 b hb⟩

theorem eltB_ascii {b : UInt8} (h : eltB b = true) : b.toNat < 128 := by
  unfold eltB pB at h
  simp only [Bool.or_eq_true, Bool.and_eq_true, decide_eq_true_eq, beq_iff_eq] at h
  rcases h with (h | rfl) | rfl
  · omega
  · decide
  · decide

theorem elt_ascii {t : Bs} (h : eltOk t = true) : (t.all fun b => Nat.blt b.toNat 128) = true := by
  rw [List.all_eq_true]
  intro b hb
  have := eltB_ascii ((eltOk_facts h).2 b hb)
  simpa [Nat.blt_eq] using this

theorem e94 {n : Nat} (hn : 1 ≤ n) : cpJ PR n 94 [.agg []] = some (.bool true) := by
  obtain ⟨n, rfl⟩ : ∃ m, n = m + 1 := ⟨n - 1, by omega⟩
  rw [u94]
  simp -implicitDefEqProofs [D94]

theorem e95 {n : Nat} (hn : 2 ≤ n) (t : Bs) (ht : t.length ≤ 100000) (ha : (t.all fun b => Nat.blt b.toNat 128) = true) : cpJ PR n 95 [.agg [.str t]] = some (.bool (specV t)) := by
  obtain ⟨n, rfl⟩ : ∃ m, n = m + 1 := ⟨n - 1, by omega⟩
  have h : cpJ PR n 96 [.str t, .str [63, 42]] = some (.bool (specV t)) := by
    obtain ⟨n, rfl⟩ : ∃ m, n = m + 1 := ⟨n - 1, by omega⟩
    rw [u96]
    simp only [containsAnySem]
    rw [if_pos ⟨by omega, by simp, ha, by decide⟩]
    have : (fun b : UInt8 => ([63, 42] : Bs).contains b) = specB := by
      funext b
      simp only [List.contains_cons, List.contains_nil, Bool.or_false, specB]
    rw [this]
    rfl
  rw [u95]
  simp -implicitDefEqProofs [D95, h]

/-- Is an element special, as it is asked of the interface value. -/
theorem special_elt {n : Nat} (hn : 2 ≤ n) {t : Bs} (ht : t.length ≤ 100000) (hok : eltOk t = true) : callMSem (cpJ PR n) [(75, 95), (72, 94)] [eltD t] = some (.bool (specV t)) := by
  by_cases h : t = [42, 42]
  · subst h
    have := e94 (n := n) (by omega)
    simp -implicitDefEqProofs [eltD, callMSem, List.lookup, this, spec_two]
  · have := e95 (n := n) (by omega) t ht (elt_ascii hok)
    simp -implicitDefEqProofs [eltD, h, callMSem, List.lookup, this]

theorem e45 {n : Nat} (hn : 1 ≤ n) (t : Bs) : cpJ PR n 45 [eltD t] = some (.str t) := by
  obtain ⟨n, rfl⟩ : ∃ m, n = m + 1 := ⟨n - 1, by omega⟩
  rw [u45]
  by_cases h : t = [42, 42]
  · subst h; simp -implicitDefEqProofs [D45, eltD]
  · simp -implicitDefEqProofs [D45, eltD, h]

theorem e42 {n : Nat} (hn : 1 ≤ n) (t : Bs) : cpJ PR n 42 [eltD t] = some (.bool (t == [42, 42])) := by
  obtain ⟨n, rfl⟩ : ∃ m, n = m + 1 := ⟨n - 1, by omega⟩
  rw [u42]
  by_cases h : t = [42, 42]
  · subst h; simp -implicitDefEqProofs [D42, eltD]
  · have h' : (t == [42, 42]) = false := by simpa using h
    simp -implicitDefEqProofs [D42, eltD, h, h']

@[simp] theorem eltD_cells (t : Bs) : (eltD t).cells = [eltD t] := by unfold eltD; split <;> rfl
@[simp] theorem eltD_seal (t : Bs) : (eltD t).sealVal = some (eltD t) := by unfold eltD; split <;> rfl

theorem l37 {n : Nat} (t : Bs) (ht : t.length < 100000) (u : DVal) (σ : Sto) : ∀ (k i m : Nat), i + k = t.length → k < m →
    iterJ 0 (L37_0 (cpJ PR n) (ciJ PR n) n (.str t)) m [.int .i64 i, u] σ = some (.done (.bool (!specV (t.drop i))) σ) := by
  intro k
  induction k with
  | zero =>
    intro i m hi hm
    obtain ⟨m, rfl⟩ : ∃ q, m = q + 1 := ⟨m - 1, by omega⟩
    have hi' : ¬ ((i : Int) < t.length) := by omega
    rw [List.drop_eq_nil_of_le (by omega)]
    refine iterJ_done ?_
    simp -implicitDefEqProofs [L37_0, B37_0, hi', specV]
  | succ k ih =>
    intro i m hi hm
    obtain ⟨m, rfl⟩ : ∃ q, m = q + 1 := ⟨m - 1, by omega⟩
    have hi' : ((i : Int) < t.length) := by omega
    have hw := wrap_succ (i := i) (by omega)
    simp only [Int.natCast_add, Int.natCast_one] at hw
    obtain ⟨x, hx⟩ := get_some (by omega : i < t.length)
    rw [drop_get hx]
    cases hs : specB x with
    | false =>
      have hs' := hs
      simp only [specB, Bool.or_eq_false_iff] at hs'
      rw [iterJ_next' (vs' := [.int .i64 ((i + 1 : Nat) : Int), u]) (σ' := σ) (by simp -implicitDefEqProofs [L37_0, B37_0, hi', hx, u8_42, u8_63, hs'.1, hs'.2, hw]), ih (i + 1) m (by omega) (by omega)]
      simp [specV, hs]
    | true =>
      refine iterJ_done ?_
      simp only [specV, List.any_cons, hs, Bool.true_or, Bool.not_true]
      cases h42 : (x == 42) with
      | true => simp -implicitDefEqProofs [L37_0, B37_0, hi', hx, u8_42, u8_63, h42]
      | false =>
        have h63 : (x == 63) = true := by simpa [specB, h42] using hs
        simp -implicitDefEqProofs [L37_0, B37_0, hi', hx, u8_42, u8_63, h42, h63]

theorem e37 {n : Nat} (hn : 100010 ≤ n) (t : Bs) (ht : t.length < 100000) : cpJ PR n 37 [.str t] = some (.bool (!specV t)) := by
  obtain ⟨n, rfl⟩ : ∃ m, n = m + 1 := ⟨n - 1, by omega⟩
  rw [u37]
  have h := l37 (n := n) t ht (.bool false) emptySto t.length 0 n (by omega) (by omega)
  simp only [Int.natCast_zero, List.drop_zero] at h
  simp -implicitDefEqProofs [D37, h]

/-! Stems -/

def stemL : List Bs → Bs
  | [] => []
  | t :: l => if specV t then [] else 47 :: t ++ stemL l
def orS (s : Bs) : Bs := if s = [] then [47] else s
def stemV (l : List Bs) : Bs := orS (stemL l)

section
variable {n : Nat} {l : List Bs} (hl : l.length ≤ 1000) (hs : ∀ t ∈ l, t.length < 100000)
include hl hs

theorem l35 (hn : 10 ≤ n) (hok : l.all eltOk = true) (σ : Sto) : ∀ (k i m : Nat) (acc : Bs), i + k = l.length → k < m → acc.length ≤ i * 100001 →
    ∃ j, iterJ 1 (L35_0 (cpJ PR n) (ciJ PR n) n (eltsD l) (.int .i64 l.length)) m [.int .i64 i, .str acc] σ = some (.next 0 [j, .str (acc ++ stemL (l.drop i))] σ) := by
  intro k
  induction k with
  | zero =>
    intro i m acc hi hm ha
    obtain ⟨m, rfl⟩ : ∃ q, m = q + 1 := ⟨m - 1, by omega⟩
    have hi' : ¬ ((i : Int) < l.length) := by omega
    rw [List.drop_eq_nil_of_le (by omega)]
    refine ⟨.int .i64 i, iterJ_out ?_ (by decide)⟩
    simp -implicitDefEqProofs [L35_0, B35_0, hi', stemL]
  | succ k ih =>
    intro i m acc hi hm ha
    obtain ⟨m, rfl⟩ : ∃ q, m = q + 1 := ⟨m - 1, by omega⟩
    have hi' : ((i : Int) < l.length) := by omega
    have hw := wrap_succ (i := i) (by omega)
    simp only [Int.natCast_add, Int.natCast_one] at hw
    obtain ⟨x, hx⟩ := get_some (by omega : i < l.length)
    have hxm := List.mem_of_getElem? hx
    have hxl := hs x hxm
    have hsp := special_elt (n := n) (by omega) (by omega : x.length ≤ 100000) (List.all_eq_true.1 hok x hxm)
    rw [drop_get hx]
    simp only [stemL]
    cases hsv : specV x with
    | true =>
      rw [hsv] at hsp
      refine ⟨.int .i64 i, iterJ_out ?_ (by decide)⟩
      simp -implicitDefEqProofs [-callMSem.eq_1, L35_0, B35_0, hi', hx, hsp]
    | false =>
      rw [hsv] at hsp
      have ht := e45 (n := n) (by omega) x
      have a1 : binStr .add [47] x = some (.str (47 :: x)) := by have := addS (x := [47]) (y := x) (by simp; omega); simpa using this
      have a2 : binStr .add acc (47 :: x) = some (.str (acc ++ 47 :: x)) := addS (by simp; omega)
      obtain ⟨j, h⟩ := ih (i + 1) m (acc ++ 47 :: x) (by omega) (by omega) (by simp; omega)
      refine ⟨j, ?_⟩
      rw [iterJ_next' (vs' := [.int .i64 ((i + 1 : Nat) : Int), .str (acc ++ 47 :: x)]) (σ' := σ), h]
      · simp
      · simp -implicitDefEqProofs [-callMSem.eq_1, -binStr.eq_1, L35_0, B35_0, hi', hx, hsp, ht, a1, a2, hw]

theorem e35 (hn : 1010 ≤ n) (hok : l.all eltOk = true) : cpJ PR n 35 [eltsD l] = some (.str (stemV l)) := by
  obtain ⟨n, rfl⟩ : ∃ m, n = m + 1 := ⟨n - 1, by omega⟩
  rw [u35]
  obtain ⟨j, h⟩ := l35 (n := n) hl hs (by omega) hok emptySto l.length 0 n [] (by omega) (by omega) (by simp)
  simp only [Int.natCast_zero, List.drop_zero, List.nil_append] at h
  unfold stemV orS
  by_cases he : stemL l = []
  · rw [he] at h
    simp -implicitDefEqProofs [D35, h, L35_1, J35_1, he]
  · have he' : (stemL l == []) = false := by simpa using he
    simp -implicitDefEqProofs [D35, h, L35_1, J35_1, he, he']

theorem l21 (hn : 100010 ≤ n) (σ : Sto) : ∀ (k i m : Nat) (acc : Bs), i + k = l.length → k < m → acc.length ≤ i * 100001 →
    iterJ 0 (L21_0 (cpJ PR n) (ciJ PR n) n (strsD true l)) m [.int .i64 i, .str acc] σ = some (.done (.str (orS (acc ++ stemL (l.drop i)))) σ) := by
  intro k
  induction k with
  | zero =>
    intro i m acc hi hm ha
    obtain ⟨m, rfl⟩ : ∃ q, m = q + 1 := ⟨m - 1, by omega⟩
    have hi' : ¬ ((i : Int) < l.length) := by omega
    rw [List.drop_eq_nil_of_le (by omega)]
    refine iterJ_done ?_
    simp only [stemL, List.append_nil, orS]
    by_cases he : acc = []
    · subst he; simp -implicitDefEqProofs [L21_0, B21_0, hi']
    · have he' : (acc == []) = false := by simpa using he
      simp -implicitDefEqProofs [L21_0, B21_0, hi', he, he']
  | succ k ih =>
    intro i m acc hi hm ha
    obtain ⟨m, rfl⟩ : ∃ q, m = q + 1 := ⟨m - 1, by omega⟩
    have hi' : ((i : Int) < l.length) := by omega
    have hw := wrap_succ (i := i) (by omega)
    simp only [Int.natCast_add, Int.natCast_one] at hw
    obtain ⟨x, hx⟩ := get_some (by omega : i < l.length)
    have hxm := List.mem_of_getElem? hx
    have hxl := hs x hxm
    have hlit := e37 (n := n) (by omega) x hxl
    rw [drop_get hx]
    simp only [stemL]
    cases hsv : specV x with
    | true =>
      rw [hsv] at hlit
      refine iterJ_done ?_
      simp only [if_true, List.append_nil, orS]
      by_cases he : acc = []
      · subst he; simp -implicitDefEqProofs [L21_0, B21_0, hi', hx, hlit]
      · have he' : (acc == []) = false := by simpa using he
        simp -implicitDefEqProofs [L21_0, B21_0, hi', hx, hlit, he, he']
    | false =>
      rw [hsv] at hlit
      have a1 : binStr .add acc [47] = some (.str (acc ++ [47])) := addS (by simp; omega)
      have a2 : binStr .add (acc ++ [47]) x = some (.str (acc ++ 47 :: x)) := by have := addS (x := acc ++ [47]) (y := x) (by simp; omega); simpa using this
      have h := ih (i + 1) m (acc ++ 47 :: x) (by omega) (by omega) (by simp; omega)
      rw [iterJ_next' (vs' := [.int .i64 ((i + 1 : Nat) : Int), .str (acc ++ 47 :: x)]) (σ' := σ), h]
      · simp
      · simp -implicitDefEqProofs [-binStr.eq_1, L21_0, B21_0, hi', hx, hlit, a1, a2, hw]

end

theorem parse_len {sp : Bool} {s : Bs} {l : List Bs} (h : parseV sp s = some l) : s.length ≤ 256 ∧ l.length ≤ 256 ∧ (∀ t ∈ l, t.length ≤ 256) ∧ l.all (okOf sp) = true := by
  have h0 : chkV sp s = 0 := chk_zero.2 ⟨l, h⟩
  have hle : s.length ≤ 256 := by
    unfold chkV at h0
    split at h0
    · cases h0
    · omega
  unfold parseV at h
  cases hd : divV s with
  | none => rw [hd] at h; cases h
  | some l' =>
    rw [hd] at h
    simp only [Option.bind_some] at h
    split at h
    · rename_i hall
      simp only [Option.some.injEq] at h
      subst h
      have := divV_len hd
      exact ⟨hle, by omega, fun t ht => by have := this.2 t ht; omega, hall⟩
    · cases h

/-- What Stem answers. -/
def stemP (s : Bs) : Bs := match parseV true s with | some l => stemV l | none => []

theorem e20 {n : Nat} (hn : 100040 ≤ n) (s : Bs) (hs : s.length ≤ 90000) : cpJ PR n 20 [.str s] = some (.str (stemP s)) := by
  obtain ⟨n, rfl⟩ : ∃ m, n = m + 1 := ⟨n - 1, by omega⟩
  have h1 := e31 (n := n) (by omega) s hs
  rw [elems_parse] at h1
  rw [u20]
  unfold stemP
  cases h : parseV true s with
  | none => rw [h] at h1; simp only at h1; simp -implicitDefEqProofs [D20, h1]
  | some l =>
    rw [h] at h1
    obtain ⟨-, p1, p2, p3⟩ := parse_len h
    have h2 := e35 (n := n) (l := l) (by omega) (fun t ht => by have := p2 t ht; omega) (by omega) p3
    simp only at h1
    simp -implicitDefEqProofs [D20, h1, h2]

theorem split_parse {sp : Bool} {s : Bs} {l : List Bs} (h : parseV sp s = some l) : splitV s = l ∧ 0 < s.length := by
  unfold parseV divV at h
  unfold splitV
  split at h
  · rename_i h1
    rw [if_pos h1]
    simp only [Option.bind_some] at h
    split at h
    · simp only [Option.some.injEq] at h; exact ⟨h, by rw [h1]; simp⟩
    · cases h
  · rename_i h1
    rw [if_neg h1]
    split at h
    · split at h
      · simp only [Option.bind_some] at h
        split at h
        · simp only [Option.some.injEq] at h; exact ⟨h, by simp⟩
        · cases h
      · cases h
    · cases h

theorem e21 {n : Nat} (hn : 100050 ≤ n) (s : Bs) (hs : s.length ≤ 90000) : cpJ PR n 21 [.str s] = some (.str (stemP s)) := by
  obtain ⟨n, rfl⟩ : ∃ m, n = m + 1 := ⟨n - 1, by omega⟩
  have h1 := e17 (n := n) (by omega) s hs
  rw [u21]
  unfold stemP
  cases h : parseV true s with
  | none =>
    have hne : chkV true s ≠ 0 := fun e => by obtain ⟨l, hl⟩ := chk_zero.1 e; rw [h] at hl; cases hl
    have hne' : (chkV true s != 0) = true := by simpa using hne
    simp -implicitDefEqProofs [D21, h1, hne']
  | some l =>
    have h0 : chkV true s = 0 := chk_zero.2 ⟨l, h⟩
    obtain ⟨-, p1, p2, p3⟩ := parse_len h
    obtain ⟨q1, q2⟩ := split_parse h
    have h2 := e36 (n := n) (by omega) s (by omega) q2
    rw [q1] at h2
    have h3 := l21 (n := n) (l := l) (by omega) (fun t ht => by have := p2 t ht; omega) (by omega) emptySto l.length 0 n [] (by omega) (by omega) (by simp)
    simp only [Int.natCast_zero, List.drop_zero, List.nil_append] at h3
    rw [h0] at h1
    unfold stemV
    simp -implicitDefEqProofs [D21, h1, h2, splitD, h3]

end Go.Proofs.YtdnoonnanhnkaaaDoor
