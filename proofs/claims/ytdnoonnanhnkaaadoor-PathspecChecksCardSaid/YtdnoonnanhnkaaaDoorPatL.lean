/- Weights of patterns, Less and its law. -/
import Derived.Test.YtdnoonnanhnkaaaDoorPatM2
set_option linter.unusedVariables false
set_option linter.unusedSimpArgs false
set_option maxRecDepth 20000
set_option maxHeartbeats 2000000
namespace Go.Proofs.YtdnoonnanhnkaaaDoor
open Go

abbrev quad (a b c d : Int) : DVal := .agg [.int .i64 a, .int .i64 b, .int .i64 c, .int .i64 d]

/-- The store with one object of four numbers. -/
abbrev st4 (a b c d : Int) : Sto := emptySto.new (quad a b c d)

theorem ld4 (a b c d : Int) (sz : Option Nat) (off : Nat) : ldOSem (st4 a b c d) sz [.obj 0 off] = (readCells [.int .i64 a, .int .i64 b, .int .i64 c, .int .i64 d] off sz).map fun v => (v, st4 a b c d) :=
  ld_obj sz (Sto.new_obj (σ := emptySto)) Nat.zero_lt_one
theorem put4 (a b c d : Int) (e : DVal) : (st4 a b c d).put 0 e = emptySto.new e := Sto.new_put (σ := emptySto)
theorem st4_0 (a b c d x : Int) : stOSem (st4 a b c d) 1 [.obj 0 0, .int .i64 x] = some (.undef, st4 x b c d) := by
  rw [st_obj (σ := st4 a b c d) (id := 0) (off := 0) (k := 1) (v := .int .i64 x) (Sto.new_obj (σ := emptySto)) Nat.zero_lt_one rfl rfl]
  simp [put4]
theorem st4_1 (a b c d x : Int) : stOSem (st4 a b c d) 1 [.obj 0 1, .int .i64 x] = some (.undef, st4 a x c d) := by
  rw [st_obj (σ := st4 a b c d) (id := 0) (off := 1) (k := 1) (v := .int .i64 x) (Sto.new_obj (σ := emptySto)) Nat.zero_lt_one rfl rfl]
  simp [put4]
theorem st4_2 (a b c d x : Int) : stOSem (st4 a b c d) 1 [.obj 0 2, .int .i64 x] = some (.undef, st4 a b x d) := by
  rw [st_obj (σ := st4 a b c d) (id := 0) (off := 2) (k := 1) (v := .int .i64 x) (Sto.new_obj (σ := emptySto)) Nat.zero_lt_one rfl rfl]
  simp [put4]
theorem st4_3 (a b c d x : Int) : stOSem (st4 a b c d) 1 [.obj 0 3, .int .i64 x] = some (.undef, st4 a b c x) := by
  rw [st_obj (σ := st4 a b c d) (id := 0) (off := 3) (k := 1) (v := .int .i64 x) (Sto.new_obj (σ := emptySto)) Nat.zero_lt_one rfl rfl]
  simp [put4]
theorem st4_all (a b c d x y z w : Int) : stOSem (st4 a b c d) 4 [.obj 0 0, quad x y z w] = some (.undef, st4 x y z w) := by
  rw [st_obj (σ := st4 a b c d) (id := 0) (off := 0) (k := 4) (v := quad x y z w) (Sto.new_obj (σ := emptySto)) Nat.zero_lt_one rfl rfl]
  simp [put4]
theorem alloc4 : allocOSem emptySto [.int .i64 0, .int .i64 0, .int .i64 0, .int .i64 0] [] = some (.obj 0 0, st4 0 0 0 0) := alloc_obj

theorem count_succ {q : UInt8 → Bool} {p : Bs} {i : Nat} {x : UInt8} (hx : p[i]? = some x) : ((p.drop i).countP q : Int) = (if q x then 1 else 0) + ((p.drop (i + 1)).countP q : Int) := by
  rw [drop_get hx, List.countP_cons]
  cases q x <;> simp <;> omega

theorem countP_le' (q : UInt8 → Bool) (p : Bs) : p.countP q ≤ p.length := List.countP_le_length

section
variable {n : Nat} {p : Bs} (hp : p.length < 100000)
include hp

theorem l40_0 (hn : 5 ≤ n) (a b d : Int) : ∀ (k i m : Nat) (c : Nat), i + k = p.length → k < m → c ≤ i →
    iterJ 1 (L40_0 (cpJ PR n) (ciJ PR n) n (.str p) (.obj 0 0) (.int .i64 p.length)) m [.int .i64 i] (st4 a b c d) =
      some (.done (quad a b ((c + (p.drop i).countP pB : Nat) : Int) d) (st4 a b ((c + (p.drop i).countP pB : Nat) : Int) d)) := by
  intro k
  induction k with
  | zero =>
    intro i m c hi hm hc
    obtain ⟨m, rfl⟩ : ∃ q, m = q + 1 := ⟨m - 1, by omega⟩
    have hi' : ¬ ((i : Int) < p.length) := by omega
    rw [List.drop_eq_nil_of_le (by omega)]
    refine iterJ_done ?_
    simp -implicitDefEqProofs [L40_0, B40_0, hi', ld4]
  | succ k ih =>
    intro i m c hi hm hc
    obtain ⟨m, rfl⟩ : ∃ q, m = q + 1 := ⟨m - 1, by omega⟩
    have hi' : ((i : Int) < p.length) := by omega
    have hw := wrap_succ (i := i) (by omega)
    have hwc := wrap_succ (i := c) (by omega)
    simp only [Int.natCast_add, Int.natCast_one] at hw hwc
    obtain ⟨x, hx⟩ := get_some (by omega : i < p.length)
    have hb := e50 (n := n) (by omega) x
    have hcnt := count_succ (q := pB) hx
    cases hpb : pB x with
    | false =>
      rw [hpb] at hb hcnt
      rw [iterJ_next' (vs' := [.int .i64 ((i + 1 : Nat) : Int)]) (σ' := st4 a b c d) (by simp -implicitDefEqProofs [L40_0, B40_0, hi', hx, hb, hw]), ih (i + 1) m c (by omega) (by omega) (by omega)]
      have e : c + (p.drop (i + 1)).countP pB = c + (p.drop i).countP pB := by simp at hcnt; omega
      rw [e]
    | true =>
      rw [hpb] at hb hcnt
      have hst := st4_2 a b c d ((c : Int) + 1)
      rw [iterJ_next' (vs' := [.int .i64 ((i + 1 : Nat) : Int)]) (σ' := st4 a b ((c + 1 : Nat) : Int) d), ih (i + 1) m (c + 1) (by omega) (by omega) (by omega)]
      · have e : c + 1 + (p.drop (i + 1)).countP pB = c + (p.drop i).countP pB := by simp at hcnt; omega
        rw [e]
      · simp -implicitDefEqProofs [L40_0, B40_0, hi', hx, hb, hw, ld4, hwc, hst]

/-- The weight of a pattern with the elements l. -/
def weightV (p : Bs) (l : List Bs) : List Int := [if l.any specV then 0 else 1, (stemV l).length, p.countP pB, p.count 63]
def quadL : List Int → DVal := fun l => .agg (l.map (.int .i64))

theorem l40_1 {l : List Bs} (hl : l.length ≤ 1000) (hs : ∀ t ∈ l, t.length < 100000) (hok : l.all eltOk = true) (hn : 100010 ≤ n) (b d : Int) : ∀ (k i m : Nat) (a : Int), i + k = l.length → k < m →
    ∃ σ', iterJ 0 (L40_1 (cpJ PR n) (ciJ PR n) n (.str p) (eltsD l) (.obj 0 0) (.int .i64 l.length)) m [.int .i64 i] (st4 a b 0 d) =
      some (.done (quad (if (l.drop i).any specV then 0 else a) b (p.countP pB) d) σ') := by
  intro k
  induction k with
  | zero =>
    intro i m a hi hm
    obtain ⟨m, rfl⟩ : ∃ q, m = q + 1 := ⟨m - 1, by omega⟩
    have hi' : ¬ ((i : Int) < l.length) := by omega
    rw [List.drop_eq_nil_of_le (by omega)]
    have h := l40_0 (n := n) hp (by omega) a b d p.length 0 n 0 (by omega) (by omega) (by omega)
    simp only [Int.natCast_zero, List.drop_zero, Nat.zero_add] at h
    refine ⟨st4 a b (p.countP pB) d, iterJ_done ?_⟩
    simp -implicitDefEqProofs [L40_1, B40_1, hi', h]
  | succ k ih =>
    intro i m a hi hm
    obtain ⟨m, rfl⟩ : ∃ q, m = q + 1 := ⟨m - 1, by omega⟩
    have hi' : ((i : Int) < l.length) := by omega
    have hw := wrap_succ (i := i) (by omega)
    simp only [Int.natCast_add, Int.natCast_one] at hw
    obtain ⟨x, hx⟩ := get_some (by omega : i < l.length)
    have hxm := List.mem_of_getElem? hx
    have hsp := special_elt (n := n) (by omega) (by have := hs x hxm; omega) (List.all_eq_true.1 hok x hxm)
    rw [drop_get hx, List.any_cons]
    cases hsv : specV x with
    | false =>
      rw [hsv] at hsp
      obtain ⟨σ', h⟩ := ih (i + 1) m a (by omega) (by omega)
      refine ⟨σ', ?_⟩
      rw [iterJ_next' (vs' := [.int .i64 ((i + 1 : Nat) : Int)]) (σ' := st4 a b 0 d) (by simp -implicitDefEqProofs [-callMSem.eq_1, L40_1, B40_1, hi', hx, hsp, hw]), h]
      simp
    | true =>
      rw [hsv] at hsp
      obtain ⟨σ', h⟩ := ih (i + 1) m 0 (by omega) (by omega)
      refine ⟨σ', ?_⟩
      have hst := st4_0 a b 0 d 0
      rw [iterJ_next' (vs' := [.int .i64 ((i + 1 : Nat) : Int)]) (σ' := st4 0 b 0 d) (by simp -implicitDefEqProofs [-callMSem.eq_1, L40_1, B40_1, hi', hx, hsp, hw, hst]), h]
      simp

theorem e40 {l : List Bs} (hl : l.length ≤ 1000) (hs : ∀ t ∈ l, t.length < 100000) (hok : l.all eltOk = true) (hn : 100020 ≤ n) : cpJ PR n 40 [.str p, eltsD l] = some (quadL (weightV p l)) := by
  obtain ⟨n, rfl⟩ : ∃ m, n = m + 1 := ⟨n - 1, by omega⟩
  have h1 := e35 (n := n) hl hs (by omega) hok
  have h2 : cpJ PR n 53 [.str p, .str [63]] = some (.int .i64 (p.count 63)) := by
    obtain ⟨n, rfl⟩ : ∃ m, n = m + 1 := ⟨n - 1, by omega⟩
    rw [u53]
    rfl
  have h3 := st4_all 0 0 0 0 1 (stemV l).length 0 (p.count 63)
  obtain ⟨σ', h4⟩ := l40_1 (n := n) hp hl hs hok (by omega) (stemV l).length (p.count 63) l.length 0 n 1 (by omega) (by omega)
  simp only [Int.natCast_zero, List.drop_zero] at h4
  rw [u40]
  simp -implicitDefEqProofs [D40, h1, h2, alloc4, h3, h4, quadL, weightV]

theorem l41_1 (hn : 5 ≤ n) (a b : Int) : ∀ (k i m : Nat) (c d : Nat), i + k = p.length → k < m → c ≤ i → d ≤ i →
    ∃ σ', iterJ 0 (L41_1 (cpJ PR n) (ciJ PR n) n (.str p) (.obj 0 0)) m [.int .i64 i] (st4 a b c d) =
      some (.done (quad a b ((c + (p.drop i).countP pB : Nat) : Int) ((d + (p.drop i).count 63 : Nat) : Int)) σ') := by
  intro k
  induction k with
  | zero =>
    intro i m c d hi hm hc hd
    obtain ⟨m, rfl⟩ : ∃ q, m = q + 1 := ⟨m - 1, by omega⟩
    have hi' : ¬ ((i : Int) < p.length) := by omega
    rw [List.drop_eq_nil_of_le (by omega)]
    refine ⟨st4 a b c d, iterJ_done ?_⟩
    simp -implicitDefEqProofs [L41_1, B41_1, hi', ld4]
  | succ k ih =>
    intro i m c d hi hm hc hd
    obtain ⟨m, rfl⟩ : ∃ q, m = q + 1 := ⟨m - 1, by omega⟩
    have hi' : ((i : Int) < p.length) := by omega
    have hw := wrap_succ (i := i) (by omega)
    have hwc := wrap_succ (i := c) (by omega)
    have hwd := wrap_succ (i := d) (by omega)
    simp only [Int.natCast_add, Int.natCast_one] at hw hwc hwd
    obtain ⟨x, hx⟩ := get_some (by omega : i < p.length)
    have hb := e54 (n := n) (by omega) x
    have hcnt := count_succ (q := pB) hx
    have hcd := count_succ (q := (· == 63)) hx
    obtain ⟨σ', h⟩ := ih (i + 1) m (if pB x then c + 1 else c) (if x == 63 then d + 1 else d) (by omega) (by omega) (by split <;> omega) (by split <;> omega)
    refine ⟨σ', ?_⟩
    have e1 : (if pB x = true then c + 1 else c) + (p.drop (i + 1)).countP pB = c + (p.drop i).countP pB := by
      split <;> rename_i hh <;> simp only [hh, if_true, if_false, Bool.false_eq_true] at hcnt <;> omega
    have e2 : (if (x == 63) = true then d + 1 else d) + (p.drop (i + 1)).count 63 = d + (p.drop i).count 63 := by
      unfold List.count
      split <;> rename_i hh <;> simp only [hh, if_true, if_false, Bool.false_eq_true] at hcd <;> omega
    rw [e1, e2] at h
    rw [← h]
    have q1 := st4_2 a b c d ((c : Int) + 1)
    have q2 := st4_3 a b c d ((d : Int) + 1)
    have q3 := st4_3 a b ((c : Int) + 1) d ((d : Int) + 1)
    refine iterJ_next' ?_
    cases hpb : pB x <;> rw [hpb] at hb <;> cases h63 : (x == 63) <;>
      simp -implicitDefEqProofs [L41_1, B41_1, L41_0, J41_0, hi', hx, hb, u8_63, h63, ld4, hw, hwc, hwd, q1, q2, q3]

theorem e41 (hn : 100060 ≤ n) (hp9 : p.length ≤ 90000) {l : List Bs} (hpar : parseV true p = some l) : cpJ PR n 41 [.str p] = some (quad (if specV p then 0 else 1) (stemV l).length (p.countP pB) (p.count 63)) := by
  obtain ⟨n, rfl⟩ : ∃ m, n = m + 1 := ⟨n - 1, by omega⟩
  have h1 := e37 (n := n) (by omega) p (by omega)
  have h2 := e21 (n := n) (by omega) p hp9
  have hst : stemP p = stemV l := by unfold stemP; rw [hpar]
  rw [hst] at h2
  rw [u41]
  cases hsp : specV p with
  | true =>
    rw [hsp] at h1
    obtain ⟨σ', h⟩ := l41_1 (n := n) hp (by omega) 0 (stemV l).length p.length 0 n 0 0 (by omega) (by omega) (by omega) (by omega)
    simp only [Int.natCast_zero, List.drop_zero, Nat.zero_add] at h
    have q := st4_1 0 0 0 0 (stemV l).length
    simp -implicitDefEqProofs [D41, L41_2, J41_2, h1, h2, alloc4, h, q]
  | false =>
    rw [hsp] at h1
    obtain ⟨σ', h⟩ := l41_1 (n := n) hp (by omega) 1 (stemV l).length p.length 0 n 0 0 (by omega) (by omega) (by omega) (by omega)
    simp only [Int.natCast_zero, List.drop_zero, Nat.zero_add] at h
    have q := st4_1 1 0 0 0 (stemV l).length
    have q0 := st4_0 0 0 0 0 1
    simp -implicitDefEqProofs [D41, L41_2, J41_2, h1, h2, alloc4, h, q, q0]
end

theorem spec_join : ∀ (r : List Bs) (p : Bs), specV (joinC 47 p r) = (p :: r).any specV
  | [], p => by simp [joinC]
  | q :: r, p => by
    have ih := spec_join r q
    have e : joinC 47 p (q :: r) = p ++ 47 :: joinC 47 q r := by simp [joinC]
    have e2 : specV (p ++ 47 :: joinC 47 q r) = (specV p || specV (joinC 47 q r)) := by simp [specV, specB]
    rw [e, e2, ih]
    rfl

theorem spec_parse {p : Bs} {l : List Bs} (h : parseV true p = some l) : specV p = l.any specV := by
  obtain ⟨h1, h2⟩ := split_parse h
  unfold splitV at h1
  split at h1
  · rename_i e
    subst h1 e
    decide
  · rename_i e
    cases p with
    | nil => simp at h2
    | cons b r =>
      have hb : b = 47 := by
        unfold parseV divV at h
        rw [if_neg e] at h
        simp only at h
        split at h
        · rename_i hc; exact hc.1
        · cases h
      subst hb
      simp only [List.drop_succ_cons, List.drop_zero] at h1
      obtain ⟨q, qs, g1, g2, -, -⟩ := join_parts 47 r
      rw [g1] at h1
      have e3 : specV (47 :: r) = specV r := by simp [specV, specB]
      rw [e3, g2, spec_join, ← h1]

theorem e41' {n : Nat} {p : Bs} (hn : 100060 ≤ n) (hp9 : p.length ≤ 90000) {l : List Bs} (hpar : parseV true p = some l) : cpJ PR n 41 [.str p] = some (quadL (weightV p l)) := by
  rw [e41 (by omega) hn hp9 hpar, spec_parse hpar]
  rfl

end Go.Proofs.YtdnoonnanhnkaaaDoor
