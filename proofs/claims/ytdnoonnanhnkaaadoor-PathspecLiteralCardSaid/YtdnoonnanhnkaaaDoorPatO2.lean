/- The least length of a text that matches two elements: the reference's table; and that the two agree. -/
import Derived.Test.YtdnoonnanhnkaaaDoorPatO
set_option linter.unusedVariables false
set_option linter.unusedSimpArgs false
set_option maxRecDepth 20000
set_option maxHeartbeats 4000000
namespace Go.Proofs.YtdnoonnanhnkaaaDoor
open Go

theorem mnF (a : Nat) : mnSem [.int .i64 1048576, .int .i64 (a : Int)] = some (.int .i64 ((min 1048576 a : Nat) : Int)) := mnN 1048576 a
theorem mnF1 (a : Nat) : mnSem [.int .i64 1048576, .int .i64 ((a : Int) + 1)] = some (.int .i64 ((min 1048576 (a + 1) : Nat) : Int)) := mnN 1048576 (a + 1)

theorem take_rev {α : Type} {l : List α} {i : Nat} {x : α} (h : l[i]? = some x) : (l.take (i + 1)).reverse = x :: (l.take i).reverse := by
  rw [take_get h]; simp

section
variable {n : Nat} {a b : Bs} (ha : a.length ≤ 100000) (hb : b.length ≤ 100000)
include ha hb

/-- What stands in a place of the reference's table. -/
abbrev rC (a b : Bs) (i k : Nat) : Nat := cmD (a.take i).reverse (b.take k).reverse

theorem cell46 {i k row prev own : Nat} {pt : Bool} (hi : i ≤ a.length) (hk : k ≤ b.length) {σ : Sto} {best : DVal} {es : List (List DVal)} {g : Nat → DVal}
    (hrow : σ.obj row = arrD (b.length + 1) g) (h2 : row < σ.nobj) (hg : 0 < k → g (k - 1) = .int .i64 (rC a b i (k - 1)))
    (hprev : 0 < i → best = .slice pt own 1 es ∧ es[i - 1]? = some [msD prev (b.length + 1)] ∧ σ.obj prev = arrD (b.length + 1) (nR (rC a b (i - 1))) ∧ prev < σ.nobj) :
    L46_6 (cpJ PR n) (ciJ PR n) n (.str a) (.str b) (.int .i64 i) best (msD row (b.length + 1)) [.int .i64 k] σ =
      some (.next 1 [.int .i64 ((k : Int) + 1)] (σ.put row (arrD (b.length + 1) (upd g k (.int .i64 (rC a b i k)))))) := by
  have hk' : (k : Int) ≤ b.length := by omega
  have hk2 : (k : Int) < (b.length : Int) + 1 := by omega
  have hwk := wrap_succ (i := k) (by omega)
  simp only [Int.natCast_add, Int.natCast_one] at hwk
  have st : ∀ v : Nat, v = rC a b i k → stOSem σ 1 [.obj row k, .int .i64 (v : Int)] = some (.undef, σ.put row (arrD (b.length + 1) (upd g k (.int .i64 (rC a b i k))))) := by
    rintro v rfl
    exact st_arr hrow h2 (by omega) rfl rfl
  have w1 : ∀ x : Nat, x ≤ 1048576 → IntKind.i64.wrap ((x : Int) + 1) = (x : Int) + 1 := fun x hx => wrap_i64 (by omega) (by omega)
  cases i with
  | zero =>
    cases k with
    | zero =>
      have hdp : rC a b 0 0 = 0 := by
        show dp _ _ _ _ _ _ = _
        simp only [List.take_zero, List.reverse_nil, dp]
      have st2 : stOSem σ 1 [.obj row 0, .int .i64 0] = _ := st 0 hdp.symm
      simp only [Int.natCast_zero] at hk' hk2 hwk
      simp -implicitDefEqProofs [-mnSem.eq_1, L46_6, B46_6, L46_5, J46_5, L46_4, J46_4, L46_3, J46_3, L46_2, J46_2, L46_1, J46_1, L46_0, J46_0, hk', hk2, st2]
      simpa using hwk
    | succ k =>
      obtain ⟨y, hy⟩ := get_some (by omega : k < b.length)
      have hpk : IntKind.i64.wrap (k : Int) = k := wrap_i64 (by omega) (by omega)
      have hk3 : (k : Int) < (b.length : Int) + 1 := by omega
      simp only [Nat.add_sub_cancel] at hg
      have ldr : ldOSem σ none [.obj row k] = some (.int .i64 (rC a b 0 k), σ) := by rw [ld_arr hrow h2 (by omega), hg (by omega)]
      have q2 : rC a b 0 k ≤ 1048576 := cm_le _ _
      have hdp : rC a b 0 (k + 1) = if sB y then rC a b 0 k else 1048576 := by
        show cmD (a.take 0).reverse (b.take (k + 1)).reverse = if sB y then cmD (a.take 0).reverse (b.take k).reverse else 1048576
        rw [take_rev hy, List.take_zero]
        show dp _ _ _ _ [] _ = _
        rw [dp]
        rfl
      simp only [Int.natCast_add, Int.natCast_one] at hk' hk2 hwk
      generalize rC a b 0 k = B at *
      cases cy : (y == 42)
      · have hv := hdp
        simp only [sB, cy, if_false, Bool.false_eq_true] at hv
        have st2 : stOSem σ 1 [.obj row (k + 1), .int .i64 1048576] = _ := st 1048576 hv.symm
        simp -implicitDefEqProofs [-mnSem.eq_1, L46_6, B46_6, L46_5, J46_5, L46_4, J46_4, L46_3, J46_3, L46_2, J46_2, L46_1, J46_1, L46_0, J46_0, hk', hk2, hwk, hpk, hy, u8_42, cy, st2]
      · have hv := hdp
        simp only [sB, cy, if_true] at hv
        have st2 := st (min 1048576 B) (by rw [hv, Nat.min_eq_right q2])
        simp -implicitDefEqProofs [-mnSem.eq_1, L46_6, B46_6, L46_5, J46_5, L46_4, J46_4, L46_3, J46_3, L46_2, J46_2, L46_1, J46_1, L46_0, J46_0, hk', hk2, hk3, hwk, hpk, hy, u8_42, cy, ldr, mnF, st2]
  | succ i =>
    obtain ⟨p0, p1, p2, p3⟩ := hprev (by omega)
    simp only [Nat.add_sub_cancel] at p1 p2
    subst p0
    obtain ⟨x, hx⟩ := get_some (by omega : i < a.length)
    have hpi : IntKind.i64.wrap (i : Int) = i := wrap_i64 (by omega) (by omega)
    have ldp : ldOSem σ none [.obj prev k] = some (.int .i64 (rC a b i k), σ) := ld_arr p2 p3 (by omega)
    have q1 : rC a b i k ≤ 1048576 := cm_le _ _
    cases k with
    | zero =>
      have hdp : rC a b (i + 1) 0 = if sB x then rC a b i 0 else 1048576 := by
        show cmD (a.take (i + 1)).reverse (b.take 0).reverse = if sB x then cmD (a.take i).reverse (b.take 0).reverse else 1048576
        rw [take_rev hx, List.take_zero]
        show dp _ _ _ _ _ [] = _
        rw [dp]
        rfl
      simp only [Int.natCast_zero] at hk' hk2 hwk
      generalize rC a b i 0 = A at *
      cases cx : (x == 42)
      · have hv := hdp
        simp only [sB, cx, if_false, Bool.false_eq_true] at hv
        have st2 : stOSem σ 1 [.obj row 0, .int .i64 1048576] = _ := st 1048576 hv.symm
        simp -implicitDefEqProofs [-mnSem.eq_1, L46_6, B46_6, L46_5, J46_5, L46_4, J46_4, L46_3, J46_3, L46_2, J46_2, L46_1, J46_1, L46_0, J46_0, hk', hk2, hpi, hx, u8_42, cx, st2]
        simpa using hwk
      · have hv := hdp
        simp only [sB, cx, if_true] at hv
        have st2 := st (min 1048576 A) (by rw [hv, Nat.min_eq_right q1])
        simp -implicitDefEqProofs [-mnSem.eq_1, L46_6, B46_6, L46_5, J46_5, L46_4, J46_4, L46_3, J46_3, L46_2, J46_2, L46_1, J46_1, L46_0, J46_0, hk', hk2, hpi, hx, u8_42, cx, p1, ldp, mnF, st2]
        simpa using hwk
    | succ k =>
      obtain ⟨y, hy⟩ := get_some (by omega : k < b.length)
      have hpk : IntKind.i64.wrap (k : Int) = k := wrap_i64 (by omega) (by omega)
      have hk3 : (k : Int) < (b.length : Int) + 1 := by omega
      simp only [Nat.add_sub_cancel] at hg
      have ldr : ldOSem σ none [.obj row k] = some (.int .i64 (rC a b (i + 1) k), σ) := by rw [ld_arr hrow h2 (by omega), hg (by omega)]
      have ldp1 : ldOSem σ none [.obj prev k] = some (.int .i64 (rC a b i k), σ) := ld_arr p2 p3 (by omega)
      have q2 : rC a b (i + 1) k ≤ 1048576 := cm_le _ _
      have q3 : rC a b i k ≤ 1048576 := cm_le _ _
      have hdp : rC a b (i + 1) (k + 1) = min 1048576 (if sB x then (if sB y then min (rC a b i (k + 1)) (rC a b (i + 1) k) else min (rC a b i (k + 1)) (rC a b (i + 1) k + 1)) else if sB y then min (rC a b (i + 1) k) (rC a b i (k + 1) + 1) else rC a b i k + k2B x y) := by
        show cmD (a.take (i + 1)).reverse (b.take (k + 1)).reverse = _
        rw [take_rev hx, take_rev hy]
        show dp _ _ _ _ _ _ = _
        rw [dp, ← take_rev hx, ← take_rev hy]
      simp only [Int.natCast_add, Int.natCast_one] at hk' hk2 hwk ldp
      generalize rC a b i (k + 1) = A at *
      generalize rC a b (i + 1) k = B at *
      generalize rC a b i k = E at *
      cases cx : (x == 42)
      · cases cy : (y == 42)
        · have hv := hdp
          simp only [sB, cx, cy, if_false, Bool.false_eq_true, k2B] at hv
          cases cxy : (x == y) <;> cases c3 : (x == 63) <;> cases c4 : (y == 63) <;> simp only [cxy, c3, c4, Bool.or_false, Bool.or_true, Bool.false_or, Bool.true_or, if_true, if_false, Bool.false_eq_true] at hv
          · have st2 : stOSem σ 1 [.obj row (k + 1), .int .i64 1048576] = _ := st 1048576 (by rw [hv, Nat.min_eq_left (Nat.le_add_left _ _)])
            simp -implicitDefEqProofs [-mnSem.eq_1, L46_6, B46_6, L46_5, J46_5, L46_4, J46_4, L46_3, J46_3, L46_2, J46_2, L46_1, J46_1, L46_0, J46_0, hk', hk2, hwk, hpi, hpk, hx, hy, u8_42, u8_63, u8_beq, bne, cx, cy, cxy, c3, c4, st2]
          all_goals
            have st2 := st (min 1048576 (E + 1)) hv.symm
            simp -implicitDefEqProofs [-mnSem.eq_1, L46_6, B46_6, L46_5, J46_5, L46_4, J46_4, L46_3, J46_3, L46_2, J46_2, L46_1, J46_1, L46_0, J46_0, hk', hk2, hk3, hwk, hpi, hpk, hx, hy, u8_42, u8_63, u8_beq, bne, cx, cy, cxy, c3, c4, p1, ldp1, w1 E q3, mnF1, st2]
        · have hv := hdp
          simp only [sB, cx, cy, if_true, if_false, Bool.false_eq_true] at hv
          have st2 := st (min 1048576 (min B (A + 1))) hv.symm
          simp -implicitDefEqProofs [-mnSem.eq_1, L46_6, B46_6, L46_5, J46_5, L46_4, J46_4, L46_3, J46_3, L46_2, J46_2, L46_1, J46_1, L46_0, J46_0, hk', hk2, hk3, hwk, hpi, hpk, hx, hy, u8_42, bne, cx, cy, p1, ldp, ldr, w1 A q1, mnF, mnN1, st2]
      · cases cy : (y == 42)
        · have hv := hdp
          simp only [sB, cx, cy, if_true, if_false, Bool.false_eq_true] at hv
          have st2 := st (min 1048576 (min A (B + 1))) hv.symm
          simp -implicitDefEqProofs [-mnSem.eq_1, L46_6, B46_6, L46_5, J46_5, L46_4, J46_4, L46_3, J46_3, L46_2, J46_2, L46_1, J46_1, L46_0, J46_0, hk', hk2, hk3, hwk, hpi, hpk, hx, hy, u8_42, bne, cx, cy, p1, ldp, ldr, w1 B q2, mnF, mnN1, st2]
        · have hv := hdp
          simp only [sB, cx, cy, if_true] at hv
          have st2 := st (min 1048576 (min A B)) hv.symm
          simp -implicitDefEqProofs [-mnSem.eq_1, L46_6, B46_6, L46_5, J46_5, L46_4, J46_4, L46_3, J46_3, L46_2, J46_2, L46_1, J46_1, L46_0, J46_0, hk', hk2, hk3, hwk, hpi, hpk, hx, hy, u8_42, bne, cx, cy, p1, ldp, ldr, mnF, mnN, st2]

theorem l46_6 {i row prev own : Nat} {pt : Bool} (hi : i ≤ a.length) {σ : Sto} {best : DVal} {es : List (List DVal)} {z : DVal} (h2 : row < σ.nobj) (hpr : 0 < i → prev ≠ row)
    (hprev : 0 < i → best = .slice pt own 1 es ∧ es[i - 1]? = some [msD prev (b.length + 1)] ∧ σ.obj prev = arrD (b.length + 1) (nR (rC a b (i - 1))) ∧ prev < σ.nobj) {vs : List DVal} {σ' : Sto}
    (hend : L46_6 (cpJ PR n) (ciJ PR n) n (.str a) (.str b) (.int .i64 i) best (msD row (b.length + 1)) [.int .i64 ((b.length + 1 : Nat) : Int)] (σ.put row (arrD (b.length + 1) (nR (rC a b i)))) = some (.next 0 vs σ')) :
    ∀ (j k m : Nat), k + j = b.length + 1 → j < m →
    iterJ 1 (L46_6 (cpJ PR n) (ciJ PR n) n (.str a) (.str b) (.int .i64 i) best (msD row (b.length + 1))) m [.int .i64 k] (σ.put row (arrD (b.length + 1) (upto k (nR (rC a b i)) fun _ => z))) = some (.next 0 vs σ') := by
  intro j
  induction j with
  | zero =>
    intro k m hk hm
    obtain ⟨m, rfl⟩ : ∃ q, m = q + 1 := ⟨m - 1, by omega⟩
    obtain rfl : k = b.length + 1 := by omega
    rw [arr_upto]
    exact iterJ_out hend (by decide)
  | succ j ih =>
    intro k m hk hm
    obtain ⟨m, rfl⟩ : ∃ q, m = q + 1 := ⟨m - 1, by omega⟩
    rw [iterJ_next' (cell46 ha hb hi (by omega : k ≤ b.length) (row := row) (prev := prev) Sto.put_obj h2 (fun h0 => upto_lt _ _ (by omega))
      (fun h0 => ⟨(hprev h0).1, (hprev h0).2.1, by rw [Sto.put_obj_ne (hpr h0)]; exact (hprev h0).2.2.1, (hprev h0).2.2.2⟩))]
    rw [Sto.put_put, upto_succ]
    exact ih (k + 1) m (by omega) (by omega)

/-- A slice of rows that has grown from nothing. -/
def Grown (σ : Sto) (best : DVal) (es : List (List DVal)) : Prop :=
  (es = [] ∧ best = .nils) ∨ ∃ own, best = .slice true own 1 es ∧ 3 ≤ own ∧ σ.fr (own - 3) = es.length

omit ha hb in
theorem Grown.app {σ : Sto} {best : DVal} {es : List (List DVal)} (h : Grown σ best es) (hl : es.length + 1 ≤ 4294967296) (v : DVal) :
    ∃ best' σ', app2Sem true 1 σ [best, .slice true 1 1 [[v]]] = some (best', σ') ∧ Grown σ' best' (es ++ [[v]]) ∧ σ'.obj = σ.obj ∧ σ'.nobj = σ.nobj := by
  rcases h with ⟨rfl, rfl⟩ | ⟨own, rfl, h3, hf⟩
  · refine ⟨.slice true (σ.ntok + 3) 1 [[v]], { σ with ntok := σ.ntok + 1, fr := upd σ.fr σ.ntok (1 * 1) }, ?_, .inr ⟨_, rfl, by omega, ?_⟩, rfl, rfl⟩
    · simp [app2Sem, appSem, elemsOf, DVal.szOk, maxAppend]
    · simp [upd]
  · refine ⟨.slice true own 1 (es ++ [[v]]), { σ with fr := upd σ.fr (own - 3) ((es.length + 1) * 1) }, ?_, .inr ⟨own, rfl, h3, ?_⟩, rfl, rfl⟩
    · have h1 : es.length + 1 ≤ maxAppend := by simpa [maxAppend] using hl
      have h4 : ¬ own = 1 := by omega
      have h5 : 3 ≤ own ∧ σ.fr (own - 3) = es.length * 1 := ⟨h3, by omega⟩
      simp only [app2Sem, appSem, elemsOf, DVal.szOk, beq_self_eq_true, Bool.not_true, Bool.and_false, Bool.or_self, Bool.false_eq_true, if_false, List.length_cons, List.length_nil, Nat.zero_add, h1, and_self, if_true, List.isEmpty_cons, h4, h5]
    · simp [upd]

theorem l46_7 (hn2 : 200000 ≤ n) : ∀ (j i m : Nat) (σ : Sto) (best : DVal) (es : List (List DVal)) (prev : Nat), i + j = a.length + 1 → j < m → Grown σ best es → es.length = i →
    (0 < i → es[i - 1]? = some [msD prev (b.length + 1)] ∧ σ.obj prev = arrD (b.length + 1) (nR (rC a b (i - 1))) ∧ prev < σ.nobj) →
    ∃ σ', iterJ 0 (L46_7 (cpJ PR n) (ciJ PR n) n (.str a) (.str b)) m [.int .i64 i, best] σ = some (.done (.int .i64 ((max (cmD a.reverse b.reverse) 1 : Nat) : Int)) σ') := by
  intro j
  induction j with
  | zero =>
    intro i m σ best es prev hi hm hg hl hp
    obtain ⟨m, rfl⟩ : ∃ q, m = q + 1 := ⟨m - 1, by omega⟩
    obtain rfl : i = a.length + 1 := by omega
    obtain ⟨p1, p2, p3⟩ := hp (by omega)
    simp only [Nat.add_sub_cancel] at p1 p2
    rcases hg with ⟨rfl, -⟩ | ⟨own, rfl, -, -⟩
    · simp at hl
    have hi' : ¬ (((a.length + 1 : Nat) : Int) ≤ a.length) := by omega
    have ld2 : ldOSem σ none [.obj prev b.length] = some (.int .i64 (cmD a.reverse b.reverse), σ) := by
      rw [ld_arr p2 p3 (by omega)]
      simp [nR, rC]
    have hle := cm_le a.reverse b.reverse
    have hb1 : (b.length : Int) < (b.length : Int) + 1 := by omega
    refine ⟨σ, iterJ_done ?_⟩
    simp only [Int.natCast_add, Int.natCast_one] at hi'
    generalize cmD a.reverse b.reverse = c at *
    by_cases hc : c = 0
    · subst hc
      simp -implicitDefEqProofs [L46_7, B46_7, hi', hb1, p1, ld2]
    · have hc' : ((c : Int) == 0) = false := beq_eq_false_iff_ne.2 (by omega)
      have e1 : min c 1048576 = c := Nat.min_eq_left hle
      have e2 : max c 1 = c := by omega
      have hm := mnL c
      rw [e1] at hm
      simp -implicitDefEqProofs [-mnSem.eq_1, L46_7, B46_7, hi', hb1, p1, ld2, hc', hm, e2]
  | succ j ih =>
    intro i m σ best es prev hi hm hg hl hp
    obtain ⟨m, rfl⟩ : ∃ q, m = q + 1 := ⟨m - 1, by omega⟩
    have hi' : (i : Int) ≤ a.length := by omega
    have hw := wrap_succ (i := b.length) (by omega)
    have hwi := wrap_succ (i := i) (by omega)
    have g1 := make_arr (σ := σ) (z := .int .i64 0) (n := b.length + 1) (by omega)
    have hg2 : Grown ((σ.new (arrD (b.length + 1) fun _ => .int .i64 0)).put σ.nobj (arrD (b.length + 1) (nR (rC a b i)))) best es := hg
    obtain ⟨best', σ2, a1, a2, a3, a4⟩ := hg2.app (by omega) (msD σ.nobj (b.length + 1))
    have hnb : ¬ (((b.length + 1 : Nat) : Int) ≤ b.length) := by omega
    obtain ⟨own, hbest⟩ : ∃ own, 0 < i → best = .slice true own 1 es := by
      rcases hg with ⟨rfl, -⟩ | ⟨own, h, -, -⟩
      · exact ⟨0, fun h0 => by simp at hl; omega⟩
      · exact ⟨own, fun _ => h⟩
    have g3 := l46_6 (n := n) (a := a) (b := b) ha hb (i := i) (row := σ.nobj) (prev := prev) (own := own) (pt := true) (by omega) (σ := σ.new (arrD (b.length + 1) fun _ => .int .i64 0)) (best := best) (es := es) (z := .int .i64 0) (by simp) (fun h0 => by have := (hp h0).2.2; omega)
      (fun h0 => ⟨hbest h0, (hp h0).1, by rw [Sto.new_obj_ne (hp h0).2.2]; exact (hp h0).2.1, by have := (hp h0).2.2; simp; omega⟩) (vs := [.int .i64 ((i + 1 : Nat) : Int), best']) (σ' := σ2)
      (by
        simp only [Int.natCast_add, Int.natCast_one] at hnb hwi
        simp -implicitDefEqProofs [L46_6, B46_6, hnb]
        rw [Sto.new_put] at a1
        simp -implicitDefEqProofs [a1, hwi]) (b.length + 1) 0 n (by omega) (by omega)
    rw [upto_zero, Sto.new_put] at g3
    obtain ⟨σ', h⟩ := ih (i + 1) m σ2 best' (es ++ [[msD σ.nobj (b.length + 1)]]) σ.nobj (by omega) (by omega) a2 (by simp [hl]) (fun _ => ⟨by rw [Nat.add_sub_cancel, ← hl]; simp, by rw [a3, Sto.put_obj, Nat.add_sub_cancel], by rw [a4]; simp⟩)
    refine ⟨σ', ?_⟩
    rw [← h]
    refine iterJ_next' ?_
    simp only [Int.natCast_add, Int.natCast_one, Int.natCast_zero] at hw g1 g3
    simp -implicitDefEqProofs [L46_7, B46_7, hi', hw, g1, g3]

end

/-! The two tables agree -/

theorem cm_reverse (a b : Bs) : cmD a.reverse b.reverse = cmD a b := by
  refine dp_reverse (S := sB) (L := fun _ => True) (ok := okB) (c := fun _ => 1) (D := fun _ => True) (fun _ _ _ => Nat.le_refl _) (fun c d x h1 h2 => ?_) (fun c _ _ _ => ⟨c, trivial, .inr rfl, rfl⟩) (fun c d _ _ _ _ hlt => ?_) (fun _ _ => trivial) (fun _ _ => trivial)
  · unfold k2B
    have : (c == d || c == 63 || d == 63) = true := by
      rcases h1 with h1 | h1
      · simp [h1]
      · rcases h2 with h2 | h2
        · simp [h2]
        · simp [h1, h2]
    rw [this]
    exact Nat.le_refl _
  · unfold k2B at hlt ⊢
    split at hlt
    · rename_i h
      rw [if_pos h]
      simp only [Bool.or_eq_true, beq_iff_eq] at h
      rcases h with (h | h) | h
      · exact ⟨c, .inr rfl, .inr h.symm, rfl⟩
      · exact ⟨d, .inl h, .inr rfl, rfl⟩
      · exact ⟨c, .inr rfl, .inl h, rfl⟩
    · omega

theorem e46 {n : Nat} {a b : Bs} (ha : a.length ≤ 100000) (hb : b.length ≤ 100000) (hn2 : 200001 ≤ n) : cpJ PR n 46 [.str a, .str b] = some (.int .i64 (comV a b : Int)) := by
  obtain ⟨n, rfl⟩ : ∃ m, n = m + 1 := ⟨n - 1, by omega⟩
  obtain ⟨σ', h⟩ := l46_7 (n := n) ha hb (by omega) (a.length + 1) 0 n emptySto .nils [] 0 (by omega) (by omega) (.inl ⟨rfl, rfl⟩) rfl (fun h0 => by omega)
  rw [cm_reverse] at h
  rw [u46]
  unfold comV
  simp only [Int.natCast_zero] at h
  simp -implicitDefEqProofs [D46, h]

theorem e55 {n : Nat} {a : Bs} (ha : a.length ≤ 100000) (hn2 : 200010 ≤ n) : cpJ PR n 55 [.str a] = some (.int .i64 (comV a [42] : Int)) := by
  obtain ⟨n, rfl⟩ : ∃ m, n = m + 1 := ⟨n - 1, by omega⟩
  have h := e44 (n := n) (a := a) (b := [42]) (by omega) ha (by simp) (by omega)
  rw [u55]
  simp -implicitDefEqProofs [D55, h]

theorem e47 {n : Nat} {a : Bs} (ha : a.length ≤ 100000) (hn2 : 200010 ≤ n) : cpJ PR n 47 [.str a] = some (.int .i64 (comV a [42] : Int)) := by
  obtain ⟨n, rfl⟩ : ∃ m, n = m + 1 := ⟨n - 1, by omega⟩
  have h := e46 (n := n) (a := a) (b := [42]) ha (by simp) (by omega)
  rw [u47]
  simp -implicitDefEqProofs [D47, h]

theorem com_le (a b : Bs) : comV a b ≤ 1048576 := by
  have := cm_le a b
  unfold comV
  exact Nat.max_le.2 ⟨this, by decide⟩

theorem e43 {n : Nat} {t : Bs} (ht : t.length ≤ 100000) (hn2 : 200020 ≤ n) : cpJ PR n 43 [eltD t] = some (.int .i64 ((if t = [42, 42] then 0 else 1 + comV t [42] : Nat) : Int)) := by
  obtain ⟨n, rfl⟩ : ∃ m, n = m + 1 := ⟨n - 1, by omega⟩
  have h1 := e42 (n := n) (by omega) t
  have h2 := e45 (n := n) (by omega) t
  have h3 := e55 (n := n) ht (by omega)
  have hle := com_le t [42]
  rw [u43]
  by_cases c : t = [42, 42]
  · have c' : (t == [42, 42]) = true := by simpa using c
    rw [c'] at h1
    rw [if_pos c]
    simp -implicitDefEqProofs [D43, h1]
  · have c' : (t == [42, 42]) = false := by simpa using c
    have hw : IntKind.i64.wrap (1 + (comV t [42] : Int)) = 1 + (comV t [42] : Int) := wrap_i64 (by omega) (by omega)
    rw [c'] at h1
    rw [if_neg c]
    simp -implicitDefEqProofs [D43, h1, h2, h3, hw]

end Go.Proofs.YtdnoonnanhnkaaaDoor
