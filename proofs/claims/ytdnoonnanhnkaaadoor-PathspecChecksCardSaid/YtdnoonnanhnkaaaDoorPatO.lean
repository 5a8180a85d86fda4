/- The least length of a text that matches two elements: the program's table. -/
import Derived.Test.YtdnoonnanhnkaaaDoorPatG
set_option linter.unusedVariables false
set_option linter.unusedSimpArgs false
set_option maxRecDepth 20000
set_option maxHeartbeats 4000000
namespace Go.Proofs.YtdnoonnanhnkaaaDoor
open Go

def k2B (c d : UInt8) : Nat := if c == d || c == 63 || d == 63 then 1 else 1048576
/-- The least length of a text that matches both, at most 2^20. -/
abbrev cmD (a b : Bs) : Nat := dp sB 1048576 (fun _ => 1) k2B a b

theorem cm_le (a b : Bs) : cmD a b ≤ 1048576 := dp_le a b

theorem min3 (p q m : Nat) : min p (min q m) = min m (min p q) := by omega
theorem mnN (a b : Nat) : mnSem [.int .i64 (a : Int), .int .i64 (b : Int)] = some (.int .i64 ((min a b : Nat) : Int)) := by
  simp only [mnSem, if_true]
  congr 2
  split <;> omega
theorem mnL (a : Nat) : mnSem [.int .i64 (a : Int), .int .i64 1048576] = some (.int .i64 ((min a 1048576 : Nat) : Int)) := mnN a 1048576
theorem mnN1 (a b : Nat) : mnSem [.int .i64 (a : Int), .int .i64 ((b : Int) + 1)] = some (.int .i64 ((min a (b + 1) : Nat) : Int)) := mnN a (b + 1)
theorem mnL1 (a : Nat) : mnSem [.int .i64 ((a : Int) + 1), .int .i64 1048576] = some (.int .i64 ((min (a + 1) 1048576 : Nat) : Int)) := mnN (a + 1) 1048576

theorem e56 {n : Nat} (hn : 1 ≤ n) (c : UInt8) : cpJ PR n 56 [.int .u8 c.toNat] = some (.int .i64 (if c == 42 then 0 else 1)) := by
  obtain ⟨n, rfl⟩ : ∃ m, n = m + 1 := ⟨n - 1, by omega⟩
  rw [u56]
  cases h : (c == 42) <;> simp -implicitDefEqProofs [D56, u8_42, h]

/-- A row of numbers. -/
abbrev nR (r : Nat → Nat) : Nat → DVal := fun i => .int .i64 (r i : Int)
abbrev msD (id n : Nat) : DVal := .mslice id 0 n n

section
variable {n : Nat} {a b : Bs} (hn : 10 ≤ n) (ha : a.length ≤ 100000) (hb : b.length ≤ 100000)
include hn ha hb

/-- What stands in a place of the program's table. -/
abbrev pC (a b : Bs) (i k : Nat) : Nat := cmD (a.drop i) (b.drop k)

theorem cell44 {i k lid row prev : Nat} (hi : i ≤ a.length) (hk : k ≤ b.length) {σ : Sto} {lf g : Nat → DVal}
    (hlid : σ.obj lid = arrD (a.length + 1) lf) (hrow : σ.obj row = arrD (b.length + 1) g) (h1 : lid < σ.nobj) (h2 : row < σ.nobj)
    (hlf : lf i = msD row (b.length + 1)) (hg : k < b.length → g (k + 1) = .int .i64 (pC a b i (k + 1)))
    (hprev : i < a.length → lf (i + 1) = msD prev (b.length + 1) ∧ σ.obj prev = arrD (b.length + 1) (nR (pC a b (i + 1))) ∧ prev < σ.nobj) :
    L44_1 (cpJ PR n) (ciJ PR n) n (.str a) (.str b) (msD lid (a.length + 1)) (.int .i64 i) [.int .i64 k] σ =
      some (.next 1 [.int .i64 ((k : Int) - 1)] (σ.put row (arrD (b.length + 1) (upd g k (.int .i64 (pC a b i k)))))) := by
  have hi' : (i : Int) < (a.length : Int) + 1 := by omega
  have hk' : (k : Int) < (b.length : Int) + 1 := by omega
  have hwk : IntKind.i64.wrap ((k : Int) - 1) = (k : Int) - 1 := wrap_i64 (by omega) (by omega)
  have hwi := wrap_succ (i := i) (by omega)
  have hwk1 := wrap_succ (i := k) (by omega)
  simp only [Int.natCast_add, Int.natCast_one] at hwi hwk1
  have ld1 : ldOSem σ none [.obj lid i] = some (msD row (b.length + 1), σ) := by rw [ld_arr hlid h1 (by omega), hlf]
  have st : ∀ v : Nat, v = pC a b i k → stOSem σ 1 [.obj row k, .int .i64 (v : Int)] = some (.undef, σ.put row (arrD (b.length + 1) (upd g k (.int .i64 (pC a b i k))))) := by
    rintro v rfl
    exact st_arr hrow h2 (by omega) rfl rfl
  have w1 : ∀ x : Nat, x ≤ 1048576 → IntKind.i64.wrap ((x : Int) + 1) = (x : Int) + 1 := fun x hx => wrap_i64 (by omega) (by omega)
  have w0 : ∀ x : Nat, x ≤ 1048576 → IntKind.i64.wrap (x : Int) = (x : Int) := fun x hx => wrap_i64 (by omega) (by omega)
  by_cases ci : i < a.length
  · have ci' : (i : Int) < a.length := by omega
    have cne : ((i : Int) == (a.length : Int)) = false := beq_eq_false_iff_ne.2 (by omega)
    obtain ⟨x, hx⟩ := get_some ci
    obtain ⟨p1, p2, p3⟩ := hprev ci
    have ld2 : ldOSem σ none [.obj lid (i + 1)] = some (msD prev (b.length + 1), σ) := by rw [ld_arr hlid h1 (by omega), p1]
    have ldp : ldOSem σ none [.obj prev k] = some (.int .i64 (pC a b (i + 1) k), σ) := ld_arr p2 p3 (by omega)
    have q1 : pC a b (i + 1) k ≤ 1048576 := cm_le _ _
    by_cases ck : k < b.length
    · have ck' : (k : Int) < b.length := by omega
      obtain ⟨y, hy⟩ := get_some ck
      have ldp1 : ldOSem σ none [.obj prev (k + 1)] = some (.int .i64 (pC a b (i + 1) (k + 1)), σ) := ld_arr p2 p3 (by omega)
      have ldr : ldOSem σ none [.obj row (k + 1)] = some (.int .i64 (pC a b i (k + 1)), σ) := by rw [ld_arr hrow h2 (by omega), hg ck]
      have q2 : pC a b i (k + 1) ≤ 1048576 := cm_le _ _
      have q3 : pC a b (i + 1) (k + 1) ≤ 1048576 := cm_le _ _
      have hdp : pC a b i k = min 1048576 (if sB x then (if sB y then min (pC a b (i + 1) k) (pC a b i (k + 1)) else min (pC a b (i + 1) k) (pC a b i (k + 1) + 1)) else if sB y then min (pC a b i (k + 1)) (pC a b (i + 1) k + 1) else pC a b (i + 1) (k + 1) + k2B x y) := by
        show dp _ _ _ _ _ _ = _
        rw [drop_get hx, drop_get hy, dp, ← drop_get hx, ← drop_get hy]
      have hlen := e56 (n := n) (by omega) y
      generalize pC a b (i + 1) k = A at *
      generalize pC a b i (k + 1) = B at *
      generalize pC a b (i + 1) (k + 1) = E at *
      cases cx : (x == 42)
      · cases cy : (y == 42)
        · have hv := hdp
          simp only [sB, cx, cy, if_false, Bool.false_eq_true, k2B] at hv
          cases cxy : (x == y) <;> cases c3 : (x == 63) <;> cases c4 : (y == 63) <;> simp only [cxy, c3, c4, Bool.or_false, Bool.or_true, Bool.false_or, Bool.true_or, if_true, if_false, Bool.false_eq_true] at hv
          · have st2 : stOSem σ 1 [.obj row k, .int .i64 1048576] = _ := st 1048576 (by rw [hv, Nat.min_eq_left (Nat.le_add_left _ _)])
            simp -implicitDefEqProofs [-mnSem.eq_1, L44_1, B44_1, L44_0, J44_0, hi', hk', hwk, hwi, hwk1, ld1, ld2, ci', ck', cne, hx, hy, u8_42, u8_63, u8_beq, cx, cy, cxy, c3, c4, mnSem, st2]
          all_goals
            have st' := st (min (E + 1) 1048576) (by rw [hv, Nat.min_comm])
            simp -implicitDefEqProofs [-mnSem.eq_1, L44_1, B44_1, L44_0, J44_0, hi', hk', hwk, hwi, hwk1, ld1, ld2, ldp1, ci', ck', cne, hx, hy, u8_42, u8_63, u8_beq, cx, cy, cxy, c3, c4, w1 E q3, mnL1, st']
        · have hv := hdp
          simp only [sB, cx, cy, if_true, if_false, Bool.false_eq_true] at hv
          have st' := st (min B (min (A + 1) 1048576)) (by rw [hv]; exact min3 _ _ _)
          simp -implicitDefEqProofs [-mnSem.eq_1, L44_1, B44_1, L44_0, J44_0, hi', hk', hwk, hwi, hwk1, ld1, ld2, ldp, ldr, ci', ck', cne, hx, hy, u8_42, cx, cy, w1 A q1, mnN1, mnL, st']
      · cases cy : (y == 42)
        · have hv := hdp
          simp only [sB, cx, cy, if_true, if_false, Bool.false_eq_true] at hv
          rw [cy] at hlen
          have st' := st (min A (min (B + 1) 1048576)) (by rw [hv]; exact min3 _ _ _)
          simp -implicitDefEqProofs [-mnSem.eq_1, L44_1, B44_1, L44_0, J44_0, hi', hk', hwk, hwi, hwk1, ld1, ld2, ldp, ldr, ci', ck', cne, hx, hy, u8_42, cx, cy, hlen, w1 B q2, mnN1, mnL, st']
        · have hv := hdp
          simp only [sB, cx, cy, if_true] at hv
          rw [cy] at hlen
          have st' := st (min A (min B 1048576)) (by rw [hv]; exact min3 _ _ _)
          simp -implicitDefEqProofs [-mnSem.eq_1, L44_1, B44_1, L44_0, J44_0, hi', hk', hwk, hwi, hwk1, ld1, ld2, ldp, ldr, ci', ck', cne, hx, hy, u8_42, cx, cy, hlen, w0 B q2, mnN, mnL, st']
    · have ck' : ¬ (k : Int) < b.length := by omega
      have hdp : pC a b i k = if sB x then pC a b (i + 1) k else 1048576 := by
        show cmD (a.drop i) (b.drop k) = if sB x then cmD (a.drop (i + 1)) (b.drop k) else 1048576
        rw [List.drop_eq_nil_of_le (by omega : b.length ≤ k), drop_get hx]
        show dp _ _ _ _ _ _ = _
        rw [dp]
      generalize pC a b (i + 1) k = A at *
      cases cx : (x == 42)
      · have hv := hdp
        simp only [sB, cx, if_false, Bool.false_eq_true] at hv
        have st2 : stOSem σ 1 [.obj row k, .int .i64 1048576] = _ := st 1048576 hv.symm
        simp -implicitDefEqProofs [-mnSem.eq_1, L44_1, B44_1, L44_0, J44_0, hi', hk', hwk, hwi, hwk1, ld1, ld2, ci', ck', cne, hx, u8_42, cx, mnSem, st2]
      · have hv := hdp
        simp only [sB, cx, if_true] at hv
        have st' := st (min A 1048576) (by rw [hv, Nat.min_eq_left q1])
        simp -implicitDefEqProofs [-mnSem.eq_1, L44_1, B44_1, L44_0, J44_0, hi', hk', hwk, hwi, hwk1, ld1, ld2, ldp, ci', ck', cne, hx, u8_42, cx, mnL, st']
  · have ci' : ¬ (i : Int) < a.length := by omega
    obtain rfl : i = a.length := by omega
    by_cases ck : k < b.length
    · have ck' : (k : Int) < b.length := by omega
      have kne : ((k : Int) == (b.length : Int)) = false := beq_eq_false_iff_ne.2 (by omega)
      obtain ⟨y, hy⟩ := get_some ck
      have ldr : ldOSem σ none [.obj row (k + 1)] = some (.int .i64 (pC a b a.length (k + 1)), σ) := by rw [ld_arr hrow h2 (by omega), hg ck]
      have q2 : pC a b a.length (k + 1) ≤ 1048576 := cm_le _ _
      have hdp : pC a b a.length k = if sB y then pC a b a.length (k + 1) else 1048576 := by
        show dp _ _ _ _ _ _ = _
        rw [drop_get hy, List.drop_length, dp, ← List.drop_length (l := a)]
      generalize pC a b a.length (k + 1) = B at *
      cases cy : (y == 42)
      · have hv := hdp
        simp only [sB, cy, if_false, Bool.false_eq_true] at hv
        have st2 : stOSem σ 1 [.obj row k, .int .i64 1048576] = _ := st 1048576 hv.symm
        simp -implicitDefEqProofs [-mnSem.eq_1, L44_1, B44_1, L44_0, J44_0, hi', hk', hwk, hwi, hwk1, ld1, ck', kne, hy, u8_42, cy, mnSem, st2]
      · have hv := hdp
        simp only [sB, cy, if_true] at hv
        have st' := st (min B 1048576) (by rw [hv, Nat.min_eq_left q2])
        simp -implicitDefEqProofs [-mnSem.eq_1, L44_1, B44_1, L44_0, J44_0, hi', hk', hwk, hwi, hwk1, ld1, ldr, ck', kne, hy, u8_42, cy, mnL, st']
    · obtain rfl : k = b.length := by omega
      have hdp : pC a b a.length b.length = 0 := by
        show dp _ _ _ _ _ _ = _
        rw [List.drop_length, List.drop_length, dp]
      have st2 : stOSem σ 1 [.obj row b.length, .int .i64 0] = _ := st 0 hdp.symm
      simp -implicitDefEqProofs [-mnSem.eq_1, L44_1, B44_1, L44_0, J44_0, hi', hk', hwk, hwi, hwk1, ld1, mnSem, st2]

/-- A row of the table. -/
theorem l44_1 {i lid row prev : Nat} (hi : i ≤ a.length) {σ : Sto} {lf : Nat → DVal} {z : DVal} (hne : lid ≠ row) (hpr : i < a.length → prev ≠ row)
    (hlid : σ.obj lid = arrD (a.length + 1) lf) (h1 : lid < σ.nobj) (h2 : row < σ.nobj) (hlf : lf i = msD row (b.length + 1))
    (hprev : i < a.length → lf (i + 1) = msD prev (b.length + 1) ∧ σ.obj prev = arrD (b.length + 1) (nR (pC a b (i + 1))) ∧ prev < σ.nobj) :
    ∀ (j m : Nat), j ≤ b.length + 1 → j < m →
    iterJ 1 (L44_1 (cpJ PR n) (ciJ PR n) n (.str a) (.str b) (msD lid (a.length + 1)) (.int .i64 i)) m [.int .i64 ((j : Int) - 1)] (σ.put row (arrD (b.length + 1) (from' j (nR (pC a b i)) fun _ => z))) =
      some (.next 0 [.int .i64 ((i : Int) - 1)] (σ.put row (arrD (b.length + 1) (nR (pC a b i))))) := by
  intro j
  induction j with
  | zero =>
    intro m _ hm
    obtain ⟨m, rfl⟩ : ∃ q, m = q + 1 := ⟨m - 1, by omega⟩
    have hwi : IntKind.i64.wrap ((i : Int) - 1) = (i : Int) - 1 := wrap_i64 (by omega) (by omega)
    rw [from_zero]
    refine iterJ_out ?_ (by decide)
    simp -implicitDefEqProofs [L44_1, B44_1, hwi]
  | succ j ih =>
    intro m hj hm
    obtain ⟨m, rfl⟩ : ∃ q, m = q + 1 := ⟨m - 1, by omega⟩
    have e : (((j + 1 : Nat) : Int) - 1) = (j : Int) := by omega
    rw [e]
    rw [iterJ_next' (cell44 hn ha hb hi (by omega : j ≤ b.length) (lid := lid) (row := row) (prev := prev) (lf := lf) (by rw [Sto.put_obj_ne hne, hlid]) Sto.put_obj h1 h2 hlf (fun hlt => from_ge _ _ (Nat.le_refl _))
      (fun hlt => ⟨(hprev hlt).1, by rw [Sto.put_obj_ne (hpr hlt)]; exact (hprev hlt).2.1, (hprev hlt).2.2⟩))]
    rw [Sto.put_put, from_pred]
    exact ih m (by omega) (by omega)

theorem l44_2 (hn2 : 200000 ≤ n) {lid : Nat} : ∀ (j m : Nat) (σ : Sto) (lf : Nat → DVal) (prev : Nat), j ≤ a.length + 1 → j < m → σ.obj lid = arrD (a.length + 1) lf → lid < σ.nobj →
    (j ≤ a.length → lf j = msD prev (b.length + 1) ∧ σ.obj prev = arrD (b.length + 1) (nR (pC a b j)) ∧ prev < σ.nobj ∧ prev ≠ lid) →
    ∃ σ', iterJ 0 (L44_2 (cpJ PR n) (ciJ PR n) n (.str a) (.str b) (msD lid (a.length + 1))) m [.int .i64 ((j : Int) - 1)] σ = some (.done (.int .i64 ((max (cmD a b) 1 : Nat) : Int)) σ') := by
  intro j
  induction j with
  | zero =>
    intro m σ lf prev _ hm hlid h1 hp
    obtain ⟨m, rfl⟩ : ∃ q, m = q + 1 := ⟨m - 1, by omega⟩
    obtain ⟨p1, p2, p3, p4⟩ := hp (Nat.zero_le _)
    have ld1 : ldOSem σ none [.obj lid 0] = some (msD prev (b.length + 1), σ) := by rw [ld_arr hlid h1 (by omega), p1]
    have ld2 : ldOSem σ none [.obj prev 0] = some (.int .i64 (cmD a b), σ) := by
      rw [ld_arr p2 p3 (by omega)]
      simp [nR, pC]
    have hmx : mxSem [.int .i64 (cmD a b : Int), .int .i64 1] = some (.int .i64 ((max (cmD a b) 1 : Nat) : Int)) := by
      simp only [mxSem, if_true]
      congr 2
      split <;> omega
    refine ⟨σ, iterJ_done ?_⟩
    have hl : ((max (cmD a b) 1 : Nat) : Int) = ((max (cmD a b) 1 : Nat) : Int) := rfl
    generalize cmD a b = c at *
    simp -implicitDefEqProofs [-mxSem.eq_1, L44_2, B44_2, ld1, ld2, hmx]
  | succ j ih =>
    intro m σ lf prev hj hm hlid h1 hp
    obtain ⟨m, rfl⟩ : ∃ q, m = q + 1 := ⟨m - 1, by omega⟩
    have e : (((j + 1 : Nat) : Int) - 1) = (j : Int) := by omega
    have hj' : (j : Int) < (a.length : Int) + 1 := by omega
    have hw := wrap_succ (i := b.length) (by omega)
    rw [e]
    have g1 := make_arr (σ := σ) (z := .int .i64 0) (n := b.length + 1) (by omega)
    have g2 : stOSem (σ.new (arrD (b.length + 1) fun _ => .int .i64 0)) 1 [.obj lid j, msD σ.nobj (b.length + 1)] = some (.undef, (σ.new (arrD (b.length + 1) fun _ => .int .i64 0)).put lid (arrD (a.length + 1) (upd lf j (msD σ.nobj (b.length + 1))))) :=
      st_arr (by rw [Sto.new_obj_ne h1, hlid]) (by simp; omega) (by omega) rfl rfl
    have hne : lid ≠ σ.nobj := by omega
    have hs : (σ.new (arrD (b.length + 1) fun _ => .int .i64 0)).put lid (arrD (a.length + 1) (upd lf j (msD σ.nobj (b.length + 1)))) =
        ((σ.new (arrD (b.length + 1) fun _ => .int .i64 0)).put lid (arrD (a.length + 1) (upd lf j (msD σ.nobj (b.length + 1))))).put σ.nobj (arrD (b.length + 1) (from' (b.length + 1) (nR (pC a b j)) fun _ => .int .i64 0)) := by
      rw [arr_from]
      exact (put_self (by rw [Sto.put_obj_ne (Ne.symm hne), Sto.new_obj])).symm
    have hlj : ∀ q, q = j + 1 → upd lf j (msD σ.nobj (b.length + 1)) q = lf q := fun q hq => upd_ne _ _ (by omega)
    have g3 := l44_1 (n := n) (a := a) (b := b) hn ha hb (i := j) (lid := lid) (row := σ.nobj) (prev := prev) (by omega) (σ := (σ.new (arrD (b.length + 1) fun _ => .int .i64 0)).put lid (arrD (a.length + 1) (upd lf j (msD σ.nobj (b.length + 1)))))
      (lf := upd lf j (msD σ.nobj (b.length + 1))) (z := .int .i64 0) hne (fun hlt => by have := (hp (by omega)).2.2.1; omega) (by rw [Sto.put_obj]) (by simp; omega) (by simp) (upd_same _ _ _)
      (fun hlt => by
        obtain ⟨p1, p2, p3, p4⟩ := hp (by omega)
        exact ⟨by rw [hlj _ rfl]; exact p1, by rw [Sto.put_obj_ne p4, Sto.new_obj_ne p3, p2], by simp; omega⟩)
      (b.length + 1) n (Nat.le_refl _) (by omega)
    rw [← hs] at g3
    obtain ⟨σ', h⟩ := ih m (((σ.new (arrD (b.length + 1) fun _ => .int .i64 0)).put lid (arrD (a.length + 1) (upd lf j (msD σ.nobj (b.length + 1))))).put σ.nobj (arrD (b.length + 1) (nR (pC a b j)))) (upd lf j (msD σ.nobj (b.length + 1))) σ.nobj (by omega) (by omega) (by rw [Sto.put_obj_ne hne, Sto.put_obj]) (by simp; omega)
      (fun _ => ⟨upd_same _ _ _, Sto.put_obj, by simp, Ne.symm hne⟩)
    refine ⟨σ', ?_⟩
    rw [← h]
    refine iterJ_next' ?_
    have e2 : (((b.length + 1 : Nat) : Int) - 1) = (b.length : Int) := by omega
    rw [e2] at g3
    simp only [Int.natCast_add, Int.natCast_one] at hw g1
    simp -implicitDefEqProofs [L44_2, B44_2, hj', hw, g1, g2, g3]

/-- The common length of two elements. -/
def comV (a b : Bs) : Nat := max (cmD a b) 1

theorem e44 (hn2 : 200001 ≤ n) : cpJ PR n 44 [.str a, .str b] = some (.int .i64 (comV a b : Int)) := by
  obtain ⟨n, rfl⟩ : ∃ m, n = m + 1 := ⟨n - 1, by omega⟩
  have hw := wrap_succ (i := a.length) (by omega)
  have g1 := make_arr (σ := emptySto) (z := .nils) (n := a.length + 1) (by omega)
  obtain ⟨σ', h⟩ := l44_2 (n := n) (a := a) (b := b) (by omega) ha hb (by omega) (lid := emptySto.nobj) (a.length + 1) n (emptySto.new (arrD (a.length + 1) fun _ => .nils)) (fun _ => .nils) 0 (Nat.le_refl _) (by omega) Sto.new_obj (by simp) (fun h => by omega)
  have e2 : (((a.length + 1 : Nat) : Int) - 1) = (a.length : Int) := by omega
  rw [e2] at h
  rw [u44]
  unfold comV
  simp only [Int.natCast_add, Int.natCast_one] at hw g1
  simp -implicitDefEqProofs [D44, hw, g1, h]
end

end Go.Proofs.YtdnoonnanhnkaaaDoor
