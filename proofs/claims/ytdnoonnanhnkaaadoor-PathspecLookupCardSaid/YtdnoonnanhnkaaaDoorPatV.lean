/- Overlap: the program's table over the elements of two patterns. -/
import Derived.Test.YtdnoonnanhnkaaaDoorPatO2
set_option linter.unusedVariables false
set_option linter.unusedSimpArgs false
set_option maxRecDepth 20000
set_option maxHeartbeats 4000000
namespace Go.Proofs.YtdnoonnanhnkaaaDoor
open Go

def k1T (t : Bs) : Nat := 1 + comV t [42]
def k2T (s t : Bs) : Nat := 1 + comV s t
/-- The least length of a path that matches both, at most 2^20. -/
abbrev oD (l m : List Bs) : Nat := dp sT 1048576 k1T k2T l m
theorem o_le (l m : List Bs) : oD l m ≤ 1048576 := dp_le l m

theorem mnI (x y : Int) : mnSem [.int .i64 x, .int .i64 y] = some (.int .i64 (min x y)) := by
  simp only [mnSem, if_true]
  congr 2
  split <;> omega

abbrev oP (l m : List Bs) (i k : Nat) : Nat := oD (l.drop i) (m.drop k)

section
variable {n : Nat} {l m : List Bs} (hn : 200100 ≤ n) (hl : l.length ≤ 1000) (hm : m.length ≤ 1000) (hls : ∀ t ∈ l, t.length ≤ 100000) (hms : ∀ t ∈ m, t.length ≤ 100000)
include hn hl hm hls hms

theorem cell28 {i k lid row prev : Nat} (hi : i ≤ l.length) (hk : k ≤ m.length) {σ : Sto} {lf g : Nat → DVal}
    (hlid : σ.obj lid = arrD (l.length + 1) lf) (hrow : σ.obj row = arrD (m.length + 1) g) (h1 : lid < σ.nobj) (h2 : row < σ.nobj)
    (hlf : lf i = msD row (m.length + 1)) (hg : k < m.length → g (k + 1) = .int .i64 (oP l m i (k + 1)))
    (hprev : i < l.length → lf (i + 1) = msD prev (m.length + 1) ∧ σ.obj prev = arrD (m.length + 1) (nR (oP l m (i + 1))) ∧ prev < σ.nobj) :
    L28_4 (cpJ PR n) (ciJ PR n) n (eltsD l) (eltsD m) (msD lid (l.length + 1)) (.int .i64 i) [.int .i64 k] σ =
      some (.next 1 [.int .i64 ((k : Int) - 1)] (σ.put row (arrD (m.length + 1) (upd g k (.int .i64 (oP l m i k)))))) := by
  have hi' : (i : Int) < (l.length : Int) + 1 := by omega
  have hk' : (k : Int) < (m.length : Int) + 1 := by omega
  have hwk : IntKind.i64.wrap ((k : Int) - 1) = (k : Int) - 1 := wrap_i64 (by omega) (by omega)
  have hwi := wrap_succ (i := i) (by omega)
  have hwk1 := wrap_succ (i := k) (by omega)
  simp only [Int.natCast_add, Int.natCast_one] at hwi hwk1
  have ld1 : ldOSem σ none [.obj lid i] = some (msD row (m.length + 1), σ) := by rw [ld_arr hlid h1 (by omega), hlf]
  have st : ∀ v : Int, v = (oP l m i k : Int) → stOSem σ 1 [.obj row k, .int .i64 v] = some (.undef, σ.put row (arrD (m.length + 1) (upd g k (.int .i64 (oP l m i k))))) := by
    rintro v rfl
    exact st_arr hrow h2 (by omega) rfl rfl
  have hMi : (1048576 : Int) = ((1048576 : Nat) : Int) := rfl
  by_cases ci : i < l.length
  · have ci' : (i : Int) < l.length := by omega
    have cne : ((i : Int) == (l.length : Int)) = false := beq_eq_false_iff_ne.2 (by omega)
    obtain ⟨x, hx⟩ := get_some ci
    have hxm := List.mem_of_getElem? hx
    obtain ⟨p1, p2, p3⟩ := hprev ci
    have ld2 : ldOSem σ none [.obj lid (i + 1)] = some (msD prev (m.length + 1), σ) := by rw [ld_arr hlid h1 (by omega), p1]
    have ldp : ldOSem σ none [.obj prev k] = some (.int .i64 (oP l m (i + 1) k), σ) := ld_arr p2 p3 (by omega)
    have q1 : oP l m (i + 1) k ≤ 1048576 := o_le _ _
    have dx := e42 (n := n) (by omega) x
    have tx := e45 (n := n) (by omega) x
    have cx := e43 (n := n) (t := x) (hls x hxm) (by omega)
    have lx := com_le x [42]
    by_cases ck : k < m.length
    · have ck' : (k : Int) < m.length := by omega
      obtain ⟨y, hy⟩ := get_some ck
      have hym := List.mem_of_getElem? hy
      have ldp1 : ldOSem σ none [.obj prev (k + 1)] = some (.int .i64 (oP l m (i + 1) (k + 1)), σ) := ld_arr p2 p3 (by omega)
      have ldr : ldOSem σ none [.obj row (k + 1)] = some (.int .i64 (oP l m i (k + 1)), σ) := by rw [ld_arr hrow h2 (by omega), hg ck]
      have q2 : oP l m i (k + 1) ≤ 1048576 := o_le _ _
      have q3 : oP l m (i + 1) (k + 1) ≤ 1048576 := o_le _ _
      have dy := e42 (n := n) (by omega) y
      have ty := e45 (n := n) (by omega) y
      have cy := e43 (n := n) (t := y) (hms y hym) (by omega)
      have ly := com_le y [42]
      have cxy := e44 (n := n) (a := x) (b := y) (by omega) (hls x hxm) (hms y hym) (by omega)
      have lxy := com_le x y
      have hdp : oP l m i k = min 1048576 (if sT x then (if sT y then min (oP l m (i + 1) k) (oP l m i (k + 1)) else min (oP l m (i + 1) k) (oP l m i (k + 1) + k1T y)) else if sT y then min (oP l m i (k + 1)) (oP l m (i + 1) k + k1T x) else oP l m (i + 1) (k + 1) + k2T x y) := by
        show dp _ _ _ _ _ _ = _
        rw [drop_get hx, drop_get hy, dp, ← drop_get hx, ← drop_get hy]
      generalize oP l m (i + 1) k = A at *
      generalize oP l m i (k + 1) = B at *
      generalize oP l m (i + 1) (k + 1) = E at *
      generalize hC : comV x [42] = Cx at *
      generalize hC2 : comV y [42] = Cy at *
      generalize hC3 : comV x y = Cxy at *
      by_cases sx : x = [42, 42]
      · have sx' : (x == [42, 42]) = true := by simpa using sx
        rw [if_pos sx] at cx
        rw [sx'] at dx
        have wA : IntKind.i64.wrap (A : Int) = A := wrap_i64 (by omega) (by omega)
        by_cases sy : y = [42, 42]
        · have sy' : (y == [42, 42]) = true := by simpa using sy
          rw [if_pos sy] at cy
          rw [sy'] at dy
          have wB : IntKind.i64.wrap (B : Int) = B := wrap_i64 (by omega) (by omega)
          simp only [sT, sx', sy', if_true] at hdp
          simp -implicitDefEqProofs [-mnSem.eq_1, L28_4, B28_4, L28_3, J28_3, L28_2, J28_2, L28_1, J28_1, L28_0, J28_0, hi', hk', hwk, hwi, hwk1, ld1, mnI, ld2, ldp, ldr, ci', ck', cne, hx, hy, dx, dy, cx, cy, wA, wB]
          rw [st]
          · simp -implicitDefEqProofs [hwk]
          · rw [hdp]; simp only [hMi]; try (generalize (1048576 : Nat) = M at *; omega)
        · have sy' : (y == [42, 42]) = false := by simpa using sy
          rw [if_neg sy] at cy
          rw [sy'] at dy
          have wB : IntKind.i64.wrap ((B : Int) + (1 + (Cy : Int))) = (B : Int) + (1 + (Cy : Int)) := wrap_i64 (by omega) (by omega)
          simp only [sT, sx', sy', if_true, if_false, Bool.false_eq_true, k1T, hC2] at hdp
          simp only [Int.natCast_add, Int.natCast_one] at cy
          simp -implicitDefEqProofs [-mnSem.eq_1, L28_4, B28_4, L28_3, J28_3, L28_2, J28_2, L28_1, J28_1, L28_0, J28_0, hi', hk', hwk, hwi, hwk1, ld1, mnI, ld2, ldp, ldr, ci', ck', cne, hx, hy, dx, dy, cx, cy, wA, wB]
          rw [st]
          · simp -implicitDefEqProofs [hwk]
          · rw [hdp]; simp only [hMi]; try (generalize (1048576 : Nat) = M at *; omega)
      · have sx' : (x == [42, 42]) = false := by simpa using sx
        rw [if_neg sx] at cx
        rw [sx'] at dx
        simp only [Int.natCast_add, Int.natCast_one] at cx
        by_cases sy : y = [42, 42]
        · have sy' : (y == [42, 42]) = true := by simpa using sy
          rw [if_pos sy] at cy
          rw [sy'] at dy
          have wA : IntKind.i64.wrap ((A : Int) + (1 + (Cx : Int))) = (A : Int) + (1 + (Cx : Int)) := wrap_i64 (by omega) (by omega)
          simp only [sT, sx', sy', if_true, if_false, Bool.false_eq_true, k1T, hC] at hdp
          simp -implicitDefEqProofs [-mnSem.eq_1, L28_4, B28_4, L28_3, J28_3, L28_2, J28_2, L28_1, J28_1, L28_0, J28_0, hi', hk', hwk, hwi, hwk1, ld1, mnI, ld2, ldp, ldr, ci', ck', cne, hx, hy, dx, dy, cx, cy, wA]
          rw [st]
          · simp -implicitDefEqProofs [hwk]
          · rw [hdp]; simp only [hMi]; try (generalize (1048576 : Nat) = M at *; omega)
        · have sy' : (y == [42, 42]) = false := by simpa using sy
          rw [sy'] at dy
          have wE : IntKind.i64.wrap ((E : Int) + 1) = (E : Int) + 1 := wrap_i64 (by omega) (by omega)
          have wE2 : IntKind.i64.wrap ((E : Int) + 1 + (Cxy : Int)) = (E : Int) + 1 + (Cxy : Int) := wrap_i64 (by omega) (by omega)
          simp only [sT, sx', sy', if_false, Bool.false_eq_true, k2T, hC3] at hdp
          simp -implicitDefEqProofs [-mnSem.eq_1, L28_4, B28_4, L28_3, J28_3, L28_2, J28_2, L28_1, J28_1, L28_0, J28_0, hi', hk', hwk, hwi, hwk1, ld1, mnI, ld2, ldp1, ci', ck', cne, hx, hy, dx, dy, tx, ty, cxy, wE, wE2]
          rw [st]
          · simp -implicitDefEqProofs [hwk]
          · rw [hdp]; simp only [hMi]; try (generalize (1048576 : Nat) = M at *; omega)
    · have ck' : ¬ (k : Int) < m.length := by omega
      have hdp : oP l m i k = if sT x then oP l m (i + 1) k else 1048576 := by
        show oD (l.drop i) (m.drop k) = if sT x then oD (l.drop (i + 1)) (m.drop k) else 1048576
        rw [List.drop_eq_nil_of_le (by omega : m.length ≤ k), drop_get hx]
        show dp _ _ _ _ _ _ = _
        rw [dp]
      generalize oP l m (i + 1) k = A at *
      by_cases sx : x = [42, 42]
      · have sx' : (x == [42, 42]) = true := by simpa using sx
        rw [sx'] at dx
        simp only [sT, sx', if_true] at hdp
        simp -implicitDefEqProofs [-mnSem.eq_1, L28_4, B28_4, L28_3, J28_3, L28_2, J28_2, L28_1, J28_1, L28_0, J28_0, hi', hk', hwk, hwi, hwk1, ld1, mnI, ld2, ldp, ci', ck', cne, hx, dx]
        rw [st]
        · simp -implicitDefEqProofs [hwk]
        · rw [hdp]; simp only [hMi]; try (generalize (1048576 : Nat) = M at *; omega)
      · have sx' : (x == [42, 42]) = false := by simpa using sx
        rw [sx'] at dx
        simp only [sT, sx', if_false, Bool.false_eq_true] at hdp
        simp -implicitDefEqProofs [-mnSem.eq_1, L28_4, B28_4, L28_3, J28_3, L28_2, J28_2, L28_1, J28_1, L28_0, J28_0, hi', hk', hwk, hwi, hwk1, ld1, mnI, ld2, ldp, ci', ck', cne, hx, dx]
        rw [st]
        · simp -implicitDefEqProofs [hwk]
        · rw [hdp]; simp only [hMi]; try (generalize (1048576 : Nat) = M at *; omega)
  · have ci' : ¬ (i : Int) < l.length := by omega
    obtain rfl : i = l.length := by omega
    by_cases ck : k < m.length
    · have ck' : (k : Int) < m.length := by omega
      have kne : ((k : Int) == (m.length : Int)) = false := beq_eq_false_iff_ne.2 (by omega)
      obtain ⟨y, hy⟩ := get_some ck
      have hym := List.mem_of_getElem? hy
      have dy := e42 (n := n) (by omega) y
      have ldr : ldOSem σ none [.obj row (k + 1)] = some (.int .i64 (oP l m l.length (k + 1)), σ) := by rw [ld_arr hrow h2 (by omega), hg ck]
      have q2 : oP l m l.length (k + 1) ≤ 1048576 := o_le _ _
      have hdp : oP l m l.length k = if sT y then oP l m l.length (k + 1) else 1048576 := by
        show dp _ _ _ _ _ _ = _
        rw [drop_get hy, List.drop_length, dp, ← List.drop_length (l := l)]
      generalize oP l m l.length (k + 1) = B at *
      by_cases sy : y = [42, 42]
      · have sy' : (y == [42, 42]) = true := by simpa using sy
        rw [sy'] at dy
        simp only [sT, sy', if_true] at hdp
        simp -implicitDefEqProofs [-mnSem.eq_1, L28_4, B28_4, L28_3, J28_3, L28_2, J28_2, L28_1, J28_1, L28_0, J28_0, hi', hk', hwk, hwi, hwk1, ld1, mnI, ldr, ck', kne, hy, dy]
        rw [st]
        · simp -implicitDefEqProofs [hwk]
        · rw [hdp]; simp only [hMi]; try (generalize (1048576 : Nat) = M at *; omega)
      · have sy' : (y == [42, 42]) = false := by simpa using sy
        rw [sy'] at dy
        simp only [sT, sy', if_false, Bool.false_eq_true] at hdp
        simp -implicitDefEqProofs [-mnSem.eq_1, L28_4, B28_4, L28_3, J28_3, L28_2, J28_2, L28_1, J28_1, L28_0, J28_0, hi', hk', hwk, hwi, hwk1, ld1, mnI, ck', kne, hy, dy]
        rw [st]
        · simp -implicitDefEqProofs [hwk]
        · rw [hdp]; simp only [hMi]; try (generalize (1048576 : Nat) = M at *; omega)
    · obtain rfl : k = m.length := by omega
      have hdp : oP l m l.length m.length = 0 := by
        show dp _ _ _ _ _ _ = _
        rw [List.drop_length, List.drop_length, dp]
      simp -implicitDefEqProofs [-mnSem.eq_1, L28_4, B28_4, L28_3, J28_3, L28_2, J28_2, L28_1, J28_1, L28_0, J28_0, hi', hk', hwk, hwi, hwk1, ld1, mnI]
      rw [st]
      · simp -implicitDefEqProofs [hwk]
      · rw [hdp]; simp only [hMi]; try (generalize (1048576 : Nat) = M at *; omega)
/-- A row of the table. -/
theorem l28_4 {i lid row prev : Nat} (hi : i ≤ l.length) {σ : Sto} {lf : Nat → DVal} {z : DVal} (hne : lid ≠ row) (hpr : i < l.length → prev ≠ row)
    (hlid : σ.obj lid = arrD (l.length + 1) lf) (h1 : lid < σ.nobj) (h2 : row < σ.nobj) (hlf : lf i = msD row (m.length + 1))
    (hprev : i < l.length → lf (i + 1) = msD prev (m.length + 1) ∧ σ.obj prev = arrD (m.length + 1) (nR (oP l m (i + 1))) ∧ prev < σ.nobj) :
    ∀ (j q : Nat), j ≤ m.length + 1 → j < q →
    iterJ 1 (L28_4 (cpJ PR n) (ciJ PR n) n (eltsD l) (eltsD m) (msD lid (l.length + 1)) (.int .i64 i)) q [.int .i64 ((j : Int) - 1)] (σ.put row (arrD (m.length + 1) (from' j (nR (oP l m i)) fun _ => z))) =
      some (.next 0 [.int .i64 ((i : Int) - 1)] (σ.put row (arrD (m.length + 1) (nR (oP l m i))))) := by
  intro j
  induction j with
  | zero =>
    intro q _ hq
    obtain ⟨q, rfl⟩ : ∃ r, q = r + 1 := ⟨q - 1, by omega⟩
    have hwi : IntKind.i64.wrap ((i : Int) - 1) = (i : Int) - 1 := wrap_i64 (by omega) (by omega)
    rw [from_zero]
    refine iterJ_out ?_ (by decide)
    simp -implicitDefEqProofs [L28_4, B28_4, hwi]
  | succ j ih =>
    intro q hj hq
    obtain ⟨q, rfl⟩ : ∃ r, q = r + 1 := ⟨q - 1, by omega⟩
    have e : (((j + 1 : Nat) : Int) - 1) = (j : Int) := by omega
    rw [e]
    rw [iterJ_next' (cell28 hn hl hm hls hms hi (by omega : j ≤ m.length) (lid := lid) (row := row) (prev := prev) (lf := lf) (by rw [Sto.put_obj_ne hne, hlid]) Sto.put_obj h1 h2 hlf (fun hlt => from_ge _ _ (Nat.le_refl _))
      (fun hlt => ⟨(hprev hlt).1, by rw [Sto.put_obj_ne (hpr hlt)]; exact (hprev hlt).2.1, (hprev hlt).2.2⟩))]
    rw [Sto.put_put, from_pred]
    exact ih q (by omega) (by omega)

theorem l28_5 {lid : Nat} : ∀ (j q : Nat) (σ : Sto) (lf : Nat → DVal) (prev : Nat), j ≤ l.length + 1 → j < q → σ.obj lid = arrD (l.length + 1) lf → lid < σ.nobj →
    (j ≤ l.length → lf j = msD prev (m.length + 1) ∧ σ.obj prev = arrD (m.length + 1) (nR (oP l m j)) ∧ prev < σ.nobj ∧ prev ≠ lid) →
    ∃ σ', iterJ 0 (L28_5 (cpJ PR n) (ciJ PR n) n (eltsD l) (eltsD m) (msD lid (l.length + 1))) q [.int .i64 ((j : Int) - 1)] σ = some (.done (.bool (decide (oD l m ≤ 256))) σ') := by
  intro j
  induction j with
  | zero =>
    intro q σ lf prev _ hq hlid h1 hp
    obtain ⟨q, rfl⟩ : ∃ r, q = r + 1 := ⟨q - 1, by omega⟩
    obtain ⟨p1, p2, p3, p4⟩ := hp (Nat.zero_le _)
    have ld1 : ldOSem σ none [.obj lid 0] = some (msD prev (m.length + 1), σ) := by rw [ld_arr hlid h1 (by omega), p1]
    have ld2 : ldOSem σ none [.obj prev 0] = some (.int .i64 (oD l m), σ) := by
      rw [ld_arr p2 p3 (by omega)]
      simp [nR, oP]
    have hd : decide ((oD l m : Int) ≤ 256) = decide (oD l m ≤ 256) := by rw [decide_eq_decide]; omega
    refine ⟨σ, iterJ_done ?_⟩
    rw [← hd]
    generalize oD l m = c at *
    simp -implicitDefEqProofs [L28_5, B28_5, ld1, ld2]
  | succ j ih =>
    intro q σ lf prev hj hq hlid h1 hp
    obtain ⟨q, rfl⟩ : ∃ r, q = r + 1 := ⟨q - 1, by omega⟩
    have e : (((j + 1 : Nat) : Int) - 1) = (j : Int) := by omega
    have hj' : (j : Int) < (l.length : Int) + 1 := by omega
    have hw := wrap_succ (i := m.length) (by omega)
    rw [e]
    have g1 := make_arr (σ := σ) (z := .int .i64 0) (n := m.length + 1) (by omega)
    have g2 : stOSem (σ.new (arrD (m.length + 1) fun _ => .int .i64 0)) 1 [.obj lid j, msD σ.nobj (m.length + 1)] = some (.undef, (σ.new (arrD (m.length + 1) fun _ => .int .i64 0)).put lid (arrD (l.length + 1) (upd lf j (msD σ.nobj (m.length + 1))))) :=
      st_arr (by rw [Sto.new_obj_ne h1, hlid]) (by simp; omega) (by omega) rfl rfl
    have hne : lid ≠ σ.nobj := by omega
    have hs : (σ.new (arrD (m.length + 1) fun _ => .int .i64 0)).put lid (arrD (l.length + 1) (upd lf j (msD σ.nobj (m.length + 1)))) =
        ((σ.new (arrD (m.length + 1) fun _ => .int .i64 0)).put lid (arrD (l.length + 1) (upd lf j (msD σ.nobj (m.length + 1))))).put σ.nobj (arrD (m.length + 1) (from' (m.length + 1) (nR (oP l m j)) fun _ => .int .i64 0)) := by
      rw [arr_from]
      exact (put_self (by rw [Sto.put_obj_ne (Ne.symm hne), Sto.new_obj])).symm
    have hlj : ∀ q, q = j + 1 → upd lf j (msD σ.nobj (m.length + 1)) q = lf q := fun q hq => upd_ne _ _ (by omega)
    have g3 := l28_4 (n := n) (l := l) (m := m) hn hl hm hls hms (i := j) (lid := lid) (row := σ.nobj) (prev := prev) (by omega) (σ := (σ.new (arrD (m.length + 1) fun _ => .int .i64 0)).put lid (arrD (l.length + 1) (upd lf j (msD σ.nobj (m.length + 1)))))
      (lf := upd lf j (msD σ.nobj (m.length + 1))) (z := .int .i64 0) hne (fun hlt => by have := (hp (by omega)).2.2.1; omega) (by rw [Sto.put_obj]) (by simp; omega) (by simp) (upd_same _ _ _)
      (fun hlt => by
        obtain ⟨p1, p2, p3, p4⟩ := hp (by omega)
        exact ⟨by rw [hlj _ rfl]; exact p1, by rw [Sto.put_obj_ne p4, Sto.new_obj_ne p3, p2], by simp; omega⟩)
      (m.length + 1) n (Nat.le_refl _) (by omega)
    rw [← hs] at g3
    obtain ⟨σ', h⟩ := ih q (((σ.new (arrD (m.length + 1) fun _ => .int .i64 0)).put lid (arrD (l.length + 1) (upd lf j (msD σ.nobj (m.length + 1))))).put σ.nobj (arrD (m.length + 1) (nR (oP l m j)))) (upd lf j (msD σ.nobj (m.length + 1))) σ.nobj (by omega) (by omega) (by rw [Sto.put_obj_ne hne, Sto.put_obj]) (by simp; omega)
      (fun _ => ⟨upd_same _ _ _, Sto.put_obj, by simp, Ne.symm hne⟩)
    refine ⟨σ', ?_⟩
    rw [← h]
    refine iterJ_next' ?_
    have e2 : (((m.length + 1 : Nat) : Int) - 1) = (m.length : Int) := by omega
    rw [e2] at g3
    simp only [Int.natCast_add, Int.natCast_one] at hw g1
    simp -implicitDefEqProofs [L28_5, B28_5, hj', hw, g1, g2, g3]
end

/-- What Overlap answers. -/
def overV (a b : Bs) : Bool := match parseV true a, parseV true b with
  | some l, some m => decide (oD l m ≤ 256)
  | _, _ => false

theorem e28 {n : Nat} (hn : 200200 ≤ n) (a b : Bs) (ha : a.length ≤ 90000) (hb : b.length ≤ 90000) : cpJ PR n 28 [.str a, .str b] = some (.bool (overV a b)) := by
  obtain ⟨n, rfl⟩ : ∃ m, n = m + 1 := ⟨n - 1, by omega⟩
  have h1 := e31 (n := n) (by omega) a ha
  have h2 := e31 (n := n) (by omega) b hb
  rw [elems_parse] at h1 h2
  rw [u28]
  unfold overV
  cases c1 : parseV true a with
  | none => rw [c1] at h1; cases c2 : parseV true b <;> rw [c2] at h2 <;> simp only at h1 h2 <;> simp -implicitDefEqProofs [D28, h1, h2]
  | some l =>
    rw [c1] at h1
    cases c2 : parseV true b with
    | none => rw [c2] at h2; simp only at h1 h2; simp -implicitDefEqProofs [D28, h1, h2]
    | some m =>
      rw [c2] at h2
      obtain ⟨-, p1, p2, p3⟩ := parse_len c1
      obtain ⟨-, q1, q2, q3⟩ := parse_len c2
      have hw := wrap_succ (i := l.length) (by omega)
      have g1 := make_arr (σ := emptySto) (z := .nils) (n := l.length + 1) (by omega)
      obtain ⟨σ', h⟩ := l28_5 (n := n) (l := l) (m := m) (by omega) (by omega) (by omega) (fun t ht => by have := p2 t ht; omega) (fun t ht => by have := q2 t ht; omega) (lid := emptySto.nobj) (l.length + 1) n (emptySto.new (arrD (l.length + 1) fun _ => .nils)) (fun _ => .nils) 0 (Nat.le_refl _) (by omega) Sto.new_obj (by simp) (fun h => by omega)
      have e2 : (((l.length + 1 : Nat) : Int) - 1) = (l.length : Int) := by omega
      rw [e2] at h
      simp only at h1 h2
      simp only [Int.natCast_add, Int.natCast_one] at hw g1
      simp -implicitDefEqProofs [D28, h1, h2, hw, g1, h]

end Go.Proofs.YtdnoonnanhnkaaaDoor
