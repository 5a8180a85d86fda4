/- Overlap: the reference's table over the elements of two patterns; the law. -/
import Derived.Test.YtdnoonnanhnkaaaDoorPatV
set_option linter.unusedVariables false
set_option linter.unusedSimpArgs false
set_option maxRecDepth 20000
set_option maxHeartbeats 4000000
namespace Go.Proofs.YtdnoonnanhnkaaaDoor
open Go

abbrev oR (l m : List Bs) (i k : Nat) : Nat := oD (l.take i).reverse (m.take k).reverse

section
variable {n : Nat} {l m : List Bs} (hn : 200100 ≤ n) (hl : l.length ≤ 1000) (hm : m.length ≤ 1000) (hls : ∀ t ∈ l, t.length ≤ 100000) (hms : ∀ t ∈ m, t.length ≤ 100000)
include hn hl hm hls hms

theorem cell29 {i k row prev own : Nat} {pt : Bool} (hi : i ≤ l.length) (hk : k ≤ m.length) {σ : Sto} {best : DVal} {es : List (List DVal)} {g : Nat → DVal}
    (hrow : σ.obj row = arrD (m.length + 1) g) (h2 : row < σ.nobj) (hg : 0 < k → g (k - 1) = .int .i64 (oR l m i (k - 1)))
    (hprev : 0 < i → best = .slice pt own 1 es ∧ es[i - 1]? = some [msD prev (m.length + 1)] ∧ σ.obj prev = arrD (m.length + 1) (nR (oR l m (i - 1))) ∧ prev < σ.nobj) :
    L29_6 (cpJ PR n) (ciJ PR n) n (strsD true l) (strsD true m) (.int .i64 i) best (msD row (m.length + 1)) [.int .i64 k] σ =
      some (.next 1 [.int .i64 ((k : Int) + 1)] (σ.put row (arrD (m.length + 1) (upd g k (.int .i64 (oR l m i k)))))) := by
  have hk' : (k : Int) ≤ m.length := by omega
  have hk2 : (k : Int) < (m.length : Int) + 1 := by omega
  have hwk := wrap_succ (i := k) (by omega)
  simp only [Int.natCast_add, Int.natCast_one] at hwk
  have hMi : (1048576 : Int) = ((1048576 : Nat) : Int) := rfl
  have st : ∀ v : Int, v = (oR l m i k : Int) → stOSem σ 1 [.obj row k, .int .i64 v] = some (.undef, σ.put row (arrD (m.length + 1) (upd g k (.int .i64 (oR l m i k))))) := by
    rintro v rfl
    exact st_arr hrow h2 (by omega) rfl rfl
  cases i with
  | zero =>
    cases k with
    | zero =>
      have hdp : oR l m 0 0 = 0 := by
        show dp _ _ _ _ _ _ = _
        simp only [List.take_zero, List.reverse_nil, dp]
      simp only [Int.natCast_zero] at hk' hk2 hwk
      simp -implicitDefEqProofs [-mnSem.eq_1, L29_6, B29_6, L29_5, J29_5, L29_4, J29_4, L29_3, J29_3, L29_2, J29_2, L29_1, J29_1, L29_0, J29_0, hk', hk2, mnI, hrow]
      rw [st]
      · try simp -implicitDefEqProofs
        try simpa using hwk
      · rw [hdp]; first | rfl | (simp only [hMi]; done) | (simp only [hMi]; generalize (1048576 : Nat) = M at *; omega)
    | succ k =>
      obtain ⟨y, hy⟩ := get_some (by omega : k < m.length)
      have hpk : IntKind.i64.wrap (k : Int) = k := wrap_i64 (by omega) (by omega)
      have hk3 : (k : Int) < (m.length : Int) + 1 := by omega
      simp only [Nat.add_sub_cancel] at hg
      have ldr : ldOSem σ none [.obj row k] = some (.int .i64 (oR l m 0 k), σ) := by rw [ld_arr hrow h2 (by omega), hg (by omega)]
      have q2 : oR l m 0 k ≤ 1048576 := o_le _ _
      have hdp : oR l m 0 (k + 1) = if sT y then oR l m 0 k else 1048576 := by
        show oD (l.take 0).reverse (m.take (k + 1)).reverse = if sT y then oD (l.take 0).reverse (m.take k).reverse else 1048576
        rw [take_rev hy, List.take_zero]
        show dp _ _ _ _ [] _ = _
        rw [dp]
        rfl
      simp only [Int.natCast_add, Int.natCast_one] at hk' hk2 hwk
      generalize oR l m 0 k = B at *
      by_cases sy : y = [42, 42]
      · have sy' : (y == [42, 42]) = true := by simpa using sy
        simp only [sT, sy', if_true] at hdp
        simp -implicitDefEqProofs [-mnSem.eq_1, L29_6, B29_6, L29_5, J29_5, L29_4, J29_4, L29_3, J29_3, L29_2, J29_2, L29_1, J29_1, L29_0, J29_0, hk', hk2, mnI, hk3, hwk, hpk, hy, sy', ldr]
        rw [st]
        · try simp -implicitDefEqProofs
          try simpa using hwk
        · rw [hdp]; first | rfl | (simp only [hMi]; done) | (simp only [hMi]; generalize (1048576 : Nat) = M at *; omega)
      · have sy' : (y == [42, 42]) = false := by simpa using sy
        simp only [sT, sy', if_false, Bool.false_eq_true] at hdp
        simp -implicitDefEqProofs [-mnSem.eq_1, L29_6, B29_6, L29_5, J29_5, L29_4, J29_4, L29_3, J29_3, L29_2, J29_2, L29_1, J29_1, L29_0, J29_0, hk', hk2, mnI, hk3, hwk, hpk, hy, sy']
        rw [st]
        · try simp -implicitDefEqProofs
          try simpa using hwk
        · rw [hdp]; first | rfl | (simp only [hMi]; done) | (simp only [hMi]; generalize (1048576 : Nat) = M at *; omega)
  | succ i =>
    obtain ⟨p0, p1, p2, p3⟩ := hprev (by omega)
    simp only [Nat.add_sub_cancel] at p1 p2
    subst p0
    obtain ⟨x, hx⟩ := get_some (by omega : i < l.length)
    have hxm := List.mem_of_getElem? hx
    have hpi : IntKind.i64.wrap (i : Int) = i := wrap_i64 (by omega) (by omega)
    have ldp : ldOSem σ none [.obj prev k] = some (.int .i64 (oR l m i k), σ) := ld_arr p2 p3 (by omega)
    have q1 : oR l m i k ≤ 1048576 := o_le _ _
    cases k with
    | zero =>
      have hdp : oR l m (i + 1) 0 = if sT x then oR l m i 0 else 1048576 := by
        show oD (l.take (i + 1)).reverse (m.take 0).reverse = if sT x then oD (l.take i).reverse (m.take 0).reverse else 1048576
        rw [take_rev hx, List.take_zero]
        show dp _ _ _ _ _ [] = _
        rw [dp]
        rfl
      simp only [Int.natCast_zero] at hk' hk2 hwk
      generalize oR l m i 0 = A at *
      by_cases sx : x = [42, 42]
      · have sx' : (x == [42, 42]) = true := by simpa using sx
        simp only [sT, sx', if_true] at hdp
        simp -implicitDefEqProofs [-mnSem.eq_1, L29_6, B29_6, L29_5, J29_5, L29_4, J29_4, L29_3, J29_3, L29_2, J29_2, L29_1, J29_1, L29_0, J29_0, hk', hk2, mnI, hpi, hx, sx', p1, ldp]
        rw [st]
        · try simp -implicitDefEqProofs
          try simpa using hwk
        · rw [hdp]; first | rfl | (simp only [hMi]; done) | (simp only [hMi]; generalize (1048576 : Nat) = M at *; omega)
      · have sx' : (x == [42, 42]) = false := by simpa using sx
        simp only [sT, sx', if_false, Bool.false_eq_true] at hdp
        simp -implicitDefEqProofs [-mnSem.eq_1, L29_6, B29_6, L29_5, J29_5, L29_4, J29_4, L29_3, J29_3, L29_2, J29_2, L29_1, J29_1, L29_0, J29_0, hk', hk2, mnI, hpi, hx, sx']
        rw [st]
        · try simp -implicitDefEqProofs
          try simpa using hwk
        · rw [hdp]; first | rfl | (simp only [hMi]; done) | (simp only [hMi]; generalize (1048576 : Nat) = M at *; omega)
    | succ k =>
      obtain ⟨y, hy⟩ := get_some (by omega : k < m.length)
      have hym := List.mem_of_getElem? hy
      have hpk : IntKind.i64.wrap (k : Int) = k := wrap_i64 (by omega) (by omega)
      have hk3 : (k : Int) < (m.length : Int) + 1 := by omega
      simp only [Nat.add_sub_cancel] at hg
      have ldr : ldOSem σ none [.obj row k] = some (.int .i64 (oR l m (i + 1) k), σ) := by rw [ld_arr hrow h2 (by omega), hg (by omega)]
      have ldp1 : ldOSem σ none [.obj prev k] = some (.int .i64 (oR l m i k), σ) := ld_arr p2 p3 (by omega)
      have q2 : oR l m (i + 1) k ≤ 1048576 := o_le _ _
      have q3 : oR l m i k ≤ 1048576 := o_le _ _
      have cx := e47 (n := n) (a := x) (hls x hxm) (by omega)
      have lx := com_le x [42]
      have cy := e47 (n := n) (a := y) (hms y hym) (by omega)
      have ly := com_le y [42]
      have cxy := e46 (n := n) (a := x) (b := y) (hls x hxm) (hms y hym) (by omega)
      have lxy := com_le x y
      have hdp : oR l m (i + 1) (k + 1) = min 1048576 (if sT x then (if sT y then min (oR l m i (k + 1)) (oR l m (i + 1) k) else min (oR l m i (k + 1)) (oR l m (i + 1) k + k1T y)) else if sT y then min (oR l m (i + 1) k) (oR l m i (k + 1) + k1T x) else oR l m i k + k2T x y) := by
        show oD (l.take (i + 1)).reverse (m.take (k + 1)).reverse = _
        rw [take_rev hx, take_rev hy]
        show dp _ _ _ _ _ _ = _
        rw [dp, ← take_rev hx, ← take_rev hy]
      simp only [Int.natCast_add, Int.natCast_one] at hk' hk2 hwk ldp
      generalize oR l m i (k + 1) = A at *
      generalize oR l m (i + 1) k = B at *
      generalize oR l m i k = E at *
      generalize hC : comV x [42] = Cx at *
      generalize hC2 : comV y [42] = Cy at *
      generalize hC3 : comV x y = Cxy at *
      by_cases sx : x = [42, 42]
      · have sx' : (x == [42, 42]) = true := by simpa using sx
        by_cases sy : y = [42, 42]
        · have sy' : (y == [42, 42]) = true := by simpa using sy
          simp only [sT, sx', sy', if_true] at hdp
          simp -implicitDefEqProofs [-mnSem.eq_1, L29_6, B29_6, L29_5, J29_5, L29_4, J29_4, L29_3, J29_3, L29_2, J29_2, L29_1, J29_1, L29_0, J29_0, hk', hk2, mnI, hk3, hwk, hpi, hpk, hx, hy, sx', sy', p1, ldp, ldr]
          rw [st]
          · try simp -implicitDefEqProofs
            try simpa using hwk
          · rw [hdp]; first | rfl | (simp only [hMi]; done) | (simp only [hMi]; generalize (1048576 : Nat) = M at *; omega)
        · have sy' : (y == [42, 42]) = false := by simpa using sy
          have wB : IntKind.i64.wrap ((B : Int) + 1) = (B : Int) + 1 := wrap_i64 (by omega) (by omega)
          have wB2 : IntKind.i64.wrap ((B : Int) + 1 + (Cy : Int)) = (B : Int) + 1 + (Cy : Int) := wrap_i64 (by omega) (by omega)
          simp only [sT, sx', sy', if_true, if_false, Bool.false_eq_true, k1T, hC2] at hdp
          simp -implicitDefEqProofs [-mnSem.eq_1, L29_6, B29_6, L29_5, J29_5, L29_4, J29_4, L29_3, J29_3, L29_2, J29_2, L29_1, J29_1, L29_0, J29_0, hk', hk2, mnI, hk3, hwk, hpi, hpk, hx, hy, sx', sy', p1, ldp, ldr, cy, wB, wB2]
          rw [st]
          · try simp -implicitDefEqProofs
            try simpa using hwk
          · rw [hdp]; first | rfl | (simp only [hMi]; done) | (simp only [hMi]; generalize (1048576 : Nat) = M at *; omega)
      · have sx' : (x == [42, 42]) = false := by simpa using sx
        by_cases sy : y = [42, 42]
        · have sy' : (y == [42, 42]) = true := by simpa using sy
          have wA : IntKind.i64.wrap ((A : Int) + 1) = (A : Int) + 1 := wrap_i64 (by omega) (by omega)
          have wA2 : IntKind.i64.wrap ((A : Int) + 1 + (Cx : Int)) = (A : Int) + 1 + (Cx : Int) := wrap_i64 (by omega) (by omega)
          simp only [sT, sx', sy', if_true, if_false, Bool.false_eq_true, k1T, hC] at hdp
          simp -implicitDefEqProofs [-mnSem.eq_1, L29_6, B29_6, L29_5, J29_5, L29_4, J29_4, L29_3, J29_3, L29_2, J29_2, L29_1, J29_1, L29_0, J29_0, hk', hk2, mnI, hk3, hwk, hpi, hpk, hx, hy, sx', sy', p1, ldp, ldr, cx, wA, wA2]
          rw [st]
          · try simp -implicitDefEqProofs
            try simpa using hwk
          · rw [hdp]; first | rfl | (simp only [hMi]; done) | (simp only [hMi]; generalize (1048576 : Nat) = M at *; omega)
        · have sy' : (y == [42, 42]) = false := by simpa using sy
          have wE : IntKind.i64.wrap ((E : Int) + 1) = (E : Int) + 1 := wrap_i64 (by omega) (by omega)
          have wE2 : IntKind.i64.wrap ((E : Int) + 1 + (Cxy : Int)) = (E : Int) + 1 + (Cxy : Int) := wrap_i64 (by omega) (by omega)
          simp only [sT, sx', sy', if_false, Bool.false_eq_true, k2T, hC3] at hdp
          simp -implicitDefEqProofs [-mnSem.eq_1, L29_6, B29_6, L29_5, J29_5, L29_4, J29_4, L29_3, J29_3, L29_2, J29_2, L29_1, J29_1, L29_0, J29_0, hk', hk2, mnI, hk3, hwk, hpi, hpk, hx, hy, sx', sy', p1, ldp1, cxy, wE, wE2]
          rw [st]
          · try simp -implicitDefEqProofs
            try simpa using hwk
          · rw [hdp]; first | rfl | (simp only [hMi]; done) | (simp only [hMi]; generalize (1048576 : Nat) = M at *; omega)

theorem l29_6 {i row prev own : Nat} {pt : Bool} (hi : i ≤ l.length) {σ : Sto} {best : DVal} {es : List (List DVal)} {z : DVal} (h2 : row < σ.nobj) (hpr : 0 < i → prev ≠ row)
    (hprev : 0 < i → best = .slice pt own 1 es ∧ es[i - 1]? = some [msD prev (m.length + 1)] ∧ σ.obj prev = arrD (m.length + 1) (nR (oR l m (i - 1))) ∧ prev < σ.nobj) {vs : List DVal} {σ' : Sto}
    (hend : L29_6 (cpJ PR n) (ciJ PR n) n (strsD true l) (strsD true m) (.int .i64 i) best (msD row (m.length + 1)) [.int .i64 ((m.length + 1 : Nat) : Int)] (σ.put row (arrD (m.length + 1) (nR (oR l m i)))) = some (.next 0 vs σ')) :
    ∀ (j k q : Nat), k + j = m.length + 1 → j < q →
    iterJ 1 (L29_6 (cpJ PR n) (ciJ PR n) n (strsD true l) (strsD true m) (.int .i64 i) best (msD row (m.length + 1))) q [.int .i64 k] (σ.put row (arrD (m.length + 1) (upto k (nR (oR l m i)) fun _ => z))) = some (.next 0 vs σ') := by
  intro j
  induction j with
  | zero =>
    intro k q hk hq
    obtain ⟨q, rfl⟩ : ∃ r, q = r + 1 := ⟨q - 1, by omega⟩
    obtain rfl : k = m.length + 1 := by omega
    rw [arr_upto]
    exact iterJ_out hend (by decide)
  | succ j ih =>
    intro k q hk hq
    obtain ⟨q, rfl⟩ : ∃ r, q = r + 1 := ⟨q - 1, by omega⟩
    rw [iterJ_next' (cell29 hn hl hm hls hms hi (by omega : k ≤ m.length) (row := row) (prev := prev) Sto.put_obj h2 (fun h0 => upto_lt _ _ (by omega))
      (fun h0 => ⟨(hprev h0).1, (hprev h0).2.1, by rw [Sto.put_obj_ne (hpr h0)]; exact (hprev h0).2.2.1, (hprev h0).2.2.2⟩))]
    rw [Sto.put_put, upto_succ]
    exact ih (k + 1) q (by omega) (by omega)

theorem l29_7 : ∀ (j i q : Nat) (σ : Sto) (best : DVal) (es : List (List DVal)) (prev : Nat), i + j = l.length + 1 → j < q → Grown σ best es → es.length = i →
    (0 < i → es[i - 1]? = some [msD prev (m.length + 1)] ∧ σ.obj prev = arrD (m.length + 1) (nR (oR l m (i - 1))) ∧ prev < σ.nobj) →
    ∃ σ', iterJ 0 (L29_7 (cpJ PR n) (ciJ PR n) n (strsD true l) (strsD true m)) q [.int .i64 i, best] σ = some (.done (.bool (decide (oD l.reverse m.reverse ≤ 256))) σ') := by
  intro j
  induction j with
  | zero =>
    intro i q σ best es prev hi hq hg hle hp
    obtain ⟨q, rfl⟩ : ∃ r, q = r + 1 := ⟨q - 1, by omega⟩
    obtain rfl : i = l.length + 1 := by omega
    obtain ⟨p1, p2, p3⟩ := hp (by omega)
    simp only [Nat.add_sub_cancel] at p1 p2
    rcases hg with ⟨rfl, -⟩ | ⟨own, rfl, -, -⟩
    · simp at hle
    have hi' : ¬ (((l.length + 1 : Nat) : Int) ≤ l.length) := by omega
    have hb1 : (m.length : Int) < (m.length : Int) + 1 := by omega
    have ld2 : ldOSem σ none [.obj prev m.length] = some (.int .i64 (oD l.reverse m.reverse), σ) := by
      rw [ld_arr p2 p3 (by omega)]
      simp [nR, oR]
    have hd : decide ((oD l.reverse m.reverse : Int) ≤ 256) = decide (oD l.reverse m.reverse ≤ 256) := by rw [decide_eq_decide]; omega
    refine ⟨σ, iterJ_done ?_⟩
    rw [← hd]
    simp only [Int.natCast_add, Int.natCast_one] at hi'
    generalize oD l.reverse m.reverse = c at *
    simp -implicitDefEqProofs [L29_7, B29_7, hi', hb1, p1, ld2]
  | succ j ih =>
    intro i q σ best es prev hi hq hg hle hp
    obtain ⟨q, rfl⟩ : ∃ r, q = r + 1 := ⟨q - 1, by omega⟩
    have hi' : (i : Int) ≤ l.length := by omega
    have hw := wrap_succ (i := m.length) (by omega)
    have hwi := wrap_succ (i := i) (by omega)
    have g1 := make_arr (σ := σ) (z := .int .i64 0) (n := m.length + 1) (by omega)
    have hg2 : Grown ((σ.new (arrD (m.length + 1) fun _ => .int .i64 0)).put σ.nobj (arrD (m.length + 1) (nR (oR l m i)))) best es := hg
    obtain ⟨best', σ2, a1, a2, a3, a4⟩ := hg2.app (by omega) (msD σ.nobj (m.length + 1))
    have hnb : ¬ (((m.length + 1 : Nat) : Int) ≤ m.length) := by omega
    obtain ⟨own, hbest⟩ : ∃ own, 0 < i → best = .slice true own 1 es := by
      rcases hg with ⟨rfl, -⟩ | ⟨own, h, -, -⟩
      · exact ⟨0, fun h0 => by simp at hle; omega⟩
      · exact ⟨own, fun _ => h⟩
    have g3 := l29_6 (n := n) (l := l) (m := m) hn hl hm hls hms (i := i) (row := σ.nobj) (prev := prev) (own := own) (pt := true) (by omega) (σ := σ.new (arrD (m.length + 1) fun _ => .int .i64 0)) (best := best) (es := es) (z := .int .i64 0) (by simp) (fun h0 => by have := (hp h0).2.2; omega)
      (fun h0 => ⟨hbest h0, (hp h0).1, by rw [Sto.new_obj_ne (hp h0).2.2]; exact (hp h0).2.1, by have := (hp h0).2.2; simp; omega⟩) (vs := [.int .i64 ((i + 1 : Nat) : Int), best']) (σ' := σ2)
      (by
        simp only [Int.natCast_add, Int.natCast_one] at hnb hwi
        simp -implicitDefEqProofs [L29_6, B29_6, hnb]
        rw [Sto.new_put] at a1
        simp -implicitDefEqProofs [a1, hwi]) (m.length + 1) 0 n (by omega) (by omega)
    rw [upto_zero, Sto.new_put] at g3
    obtain ⟨σ', h⟩ := ih (i + 1) q σ2 best' (es ++ [[msD σ.nobj (m.length + 1)]]) σ.nobj (by omega) (by omega) a2 (by simp [hle]) (fun _ => ⟨by rw [Nat.add_sub_cancel, ← hle]; simp, by rw [a3, Sto.put_obj, Nat.add_sub_cancel], by rw [a4]; simp⟩)
    refine ⟨σ', ?_⟩
    rw [← h]
    refine iterJ_next' ?_
    simp only [Int.natCast_add, Int.natCast_one, Int.natCast_zero] at hw g1 g3
    simp -implicitDefEqProofs [L29_7, B29_7, hi', hw, g1, g3]

end

/-! The law -/

theorem comV_word {a b : Bs} (hab : a ≠ [] ∧ b ≠ []) (h : comV a b < 1048576) : ∃ w, w ≠ [] ∧ w.length = comV a b ∧ GB a w ∧ GB b w := by
  have hlt : cmD a b < 1048576 := by
    unfold comV at h
    exact Nat.lt_of_le_of_lt (Nat.le_max_left _ _) h
  have hcw : ∀ w : Bs, costW (fun _ : UInt8 => 1) w = w.length := by
    intro w
    induction w with
    | nil => rfl
    | cons b w ih => simp [costW, ih]; omega
  obtain ⟨w, hw, g1, g2⟩ := dp_attained (S := sB) (L := fun _ => True) (ok := okB) (c := fun _ => 1) (k1 := fun _ => 1) (k2 := k2B) (inf := 1048576) (fun _ => True) (fun c _ _ _ => ⟨c, trivial, .inr rfl, rfl⟩) (fun c d _ _ _ _ hlt => by
    unfold k2B at hlt ⊢
    split at hlt
    · rename_i h
      rw [if_pos h]
      simp only [Bool.or_eq_true, beq_iff_eq] at h
      rcases h with (h | h) | h
      · exact ⟨c, .inr rfl, .inr h.symm, rfl⟩
      · exact ⟨d, .inl h, .inr rfl, rfl⟩
      · exact ⟨c, .inr rfl, .inl h, rfl⟩
    · omega) _ a b (Nat.lt_succ_self _) (fun _ _ => trivial) (fun _ _ => trivial) hlt
  rw [hcw] at hw
  change w.length = cmD a b at hw
  cases w with
  | cons x w =>
    refine ⟨x :: w, by simp, ?_, g1, g2⟩
    unfold comV
    simp only [List.length_cons] at hw ⊢
    omega
  | nil =>
    -- both are stars: any letter will do
    have one : ∀ {p : Bs}, p ≠ [] → GB p [] → GB p [0] := by
      intro p hp hg
      cases hg with
      | nil => exact absurd rfl hp
      | star0 hs h => exact .star1 hs trivial (.star0 hs h)
    refine ⟨[0], by simp, ?_, one hab.1 g1, one hab.2 g2⟩
    unfold comV
    simp only [List.length_nil] at hw
    rw [← hw]
    rfl

theorem comV_le {a b w : Bs} (hw : w ≠ []) (h1 : GB a w) (h2 : GB b w) : comV a b ≤ w.length := by
  have hcw : ∀ w : Bs, costW (fun _ : UInt8 => 1) w = w.length := by
    intro w
    induction w with
    | nil => rfl
    | cons b w ih => simp [costW, ih]; omega
  have := dp_lower (S := sB) (L := fun _ => True) (ok := okB) (c := fun _ => 1) (k1 := fun _ => 1) (k2 := k2B) (inf := 1048576) (fun _ _ _ => Nat.le_refl _) (fun c d x h1 h2 => by
    unfold k2B
    have : (c == d || c == 63 || d == 63) = true := by
      rcases h1 with h1 | h1
      · simp [h1]
      · rcases h2 with h2 | h2
        · simp [h2]
        · simp [h1, h2]
    rw [this]
    exact Nat.le_refl _) _ a b w (Nat.lt_succ_self _) h1 h2
  rw [hcw] at this
  have : 0 < w.length := by cases w with
    | nil => exact absurd rfl hw
    | cons x w => simp
  unfold comV cmD
  omega

theorem star_any (w : Bs) : GB [42] w := (Gm.star_iff (by decide) (fun _ _ => trivial)).2 ⟨w.length, Nat.le_refl _, by simp [Gm.nil_iff]⟩

/-- The length of a word with its slash. -/
def wL (w : Bs) : Nat := 1 + w.length

theorem o_l1 : ∀ (t w : Bs), okT t w → k1T t ≤ wL w := fun t w h => by
  have := comV_le h.1 h.2 (star_any w)
  unfold k1T wL
  omega
theorem o_l2 : ∀ (s t w : Bs), okT s w → okT t w → k2T s t ≤ wL w := fun s t w h h' => by
  have := comV_le h.1 h.2 h'.2
  unfold k2T wL
  omega
theorem o_h1 : ∀ t : Bs, t ≠ [] → sT t = false → k1T t < 1048576 → ∃ w, w ≠ [] ∧ okT t w ∧ wL w = k1T t := fun t ht _ h => by
  unfold k1T at h
  obtain ⟨w, g1, g2, g3, -⟩ := comV_word ⟨ht, by simp⟩ (Nat.lt_of_le_of_lt (Nat.le_add_left _ 1) h)
  exact ⟨w, g1, ⟨g1, g3⟩, by unfold wL k1T; rw [g2]⟩
theorem o_h2 : ∀ s t : Bs, s ≠ [] → t ≠ [] → sT s = false → sT t = false → k2T s t < 1048576 → ∃ w, okT s w ∧ okT t w ∧ wL w = k2T s t := fun s t hs ht _ _ h => by
  unfold k2T at h
  obtain ⟨w, g1, g2, g3, g4⟩ := comV_word ⟨hs, ht⟩ (Nat.lt_of_le_of_lt (Nat.le_add_left _ 1) h)
  exact ⟨w, ⟨g1, g3⟩, ⟨g1, g4⟩, by unfold wL k2T; rw [g2]⟩

theorem o_reverse {l m : List Bs} (hl : ∀ t ∈ l, t ≠ []) (hm : ∀ t ∈ m, t ≠ []) : oD l.reverse m.reverse = oD l m :=
  dp_reverse (S := sT) (L := fun w => w ≠ []) (ok := okT) (c := wL) (D := fun t => t ≠ []) o_l1 o_l2 o_h1 o_h2 hl hm
theorem o_comm {l m : List Bs} (hl : ∀ t ∈ l, t ≠ []) (hm : ∀ t ∈ m, t ≠ []) : oD m l = oD l m :=
  dp_comm (S := sT) (L := fun w => w ≠ []) (ok := okT) (c := wL) (D := fun t => t ≠ []) o_l1 o_l2 o_h1 o_h2 hl hm

theorem parse_ne {s : Bs} {l : List Bs} (h : parseV true s = some l) : ∀ t ∈ l, t ≠ [] := by
  obtain ⟨-, -, -, hall⟩ := parse_len h
  intro t ht
  have : eltOk t = true := by simpa [okOf] using List.all_eq_true.1 hall t ht
  exact (eltOk_facts this).1

theorem over_comm (a b : Bs) : overV b a = overV a b := by
  unfold overV
  cases c1 : parseV true a <;> cases c2 : parseV true b <;> simp only
  rw [o_comm (parse_ne c1) (parse_ne c2)]

theorem costW_text : ∀ ws : List Bs, costW wL ws = (textP ws).length
  | [] => rfl
  | w :: ws => by
    have := costW_text ws
    simp only [costW, this, textP, List.flatMap_cons, List.length_append, List.length_cons, wL]
    omega

/-- A path that matches both makes them overlap. -/
theorem over_both {a b s : Bs} (h1 : matchV a s = true) (h2 : matchV b s = true) : overV a b = true := by
  unfold matchV at h1 h2
  unfold overV
  cases c1 : parseV true a with
  | none => rw [c1] at h1; cases h1
  | some l =>
    cases c2 : parseV true b with
    | none => rw [c2] at h2; cases h2
    | some m =>
      rw [c1] at h1
      rw [c2] at h2
      cases c3 : parseV false s with
      | none => rw [c3] at h1; cases h1
      | some ws =>
        rw [c3] at h1 h2
        obtain ⟨-, h4⟩ := path_pattern c3
        have g1 := (pathV_iff (fun w hw => (h4 w hw).1)).1 h1
        have g2 := (pathV_iff (fun w hw => (h4 w hw).1)).1 h2
        have hlow := dp_lower (S := sT) (L := fun w => w ≠ []) (ok := okT) (c := wL) (k1 := k1T) (k2 := k2T) (inf := 1048576) o_l1 o_l2 _ l m ws (Nat.lt_succ_self _) g1 g2
        rw [costW_text] at hlow
        have hs := parse_text c3
        have hlen := (parse_len c3).1
        have hle : (textP ws).length ≤ s.length := by
          rw [hs]
          unfold orS
          split
          · rename_i e; rw [e]; simp
          · exact Nat.le_refl _
        have : oD l m ≤ 256 := Nat.le_trans hlow (by omega)
        simpa using this

theorem e29 {n : Nat} (hn : 200200 ≤ n) (a b : Bs) (ha : a.length ≤ 90000) (hb : b.length ≤ 90000) : cpJ PR n 29 [.str a, .str b] = some (.bool (overV a b)) := by
  obtain ⟨n, rfl⟩ : ∃ m, n = m + 1 := ⟨n - 1, by omega⟩
  have h1 := e17 (n := n) (by omega) a ha
  have h2 := e17 (n := n) (by omega) b hb
  have nz : ∀ {sp : Bool} {x : Bs}, parseV sp x = none → (chkV sp x != 0) = true := fun {sp x} h => by
    have : chkV sp x ≠ 0 := fun e => by obtain ⟨l, hl⟩ := chk_zero.1 e; rw [h] at hl; cases hl
    simpa using this
  rw [u29]
  unfold overV
  cases c1 : parseV true a with
  | none => simp -implicitDefEqProofs [D29, h1, nz c1]
  | some l =>
    rw [chk_zero.2 ⟨l, c1⟩] at h1
    cases c2 : parseV true b with
    | none => simp -implicitDefEqProofs [D29, h1, h2, nz c2]
    | some m =>
      rw [chk_zero.2 ⟨m, c2⟩] at h2
      obtain ⟨-, p1, p2, p3⟩ := parse_len c1
      obtain ⟨-, q1, q2, q3⟩ := parse_len c2
      obtain ⟨r1, r2⟩ := split_parse c1
      obtain ⟨r3, r4⟩ := split_parse c2
      have h3 := e36 (n := n) (by omega) a (by omega) r2
      have h4 := e36 (n := n) (by omega) b (by omega) r4
      rw [r1] at h3
      rw [r3] at h4
      obtain ⟨σ', h⟩ := l29_7 (n := n) (l := l) (m := m) (by omega) (by omega) (by omega) (fun t ht => by have := p2 t ht; omega) (fun t ht => by have := q2 t ht; omega) (l.length + 1) 0 n emptySto .nils [] 0 (by omega) (by omega) (.inl ⟨rfl, rfl⟩) rfl (fun h0 => by omega)
      rw [o_reverse (parse_ne c1) (parse_ne c2)] at h
      simp only [Int.natCast_zero] at h
      simp -implicitDefEqProofs [D29, h1, h2, h3, h4, splitD, h]

/-- The law of Overlap. -/
theorem e7 {n : Nat} (hn : 200300 ≤ n) (aw : cpJ PR n 11 [] = some (.bool true)) (a b s : Bs) :
    cpJ PR (n + 1) 7 [.str a, .str b, .str s] = some (.bool true) := by
  have hs := short3 (n := n) (by omega) a b s
  rw [u7]
  cases hsh : shortV [a, b, s] with
  | false =>
    rw [hsh] at hs
    simp -implicitDefEqProofs [D7, hs, aw]
  | true =>
    rw [hsh] at hs
    have hle : a.length ≤ 300 ∧ b.length ≤ 300 ∧ s.length ≤ 300 := by simpa [shortV] using hsh
    have h1 := e28 (n := n) (by omega) a b (by omega) (by omega)
    have h2 := e29 (n := n) (by omega) a b (by omega) (by omega)
    have h3 := e28 (n := n) (by omega) b a (by omega) (by omega)
    have h4 := e22 (n := n) (by omega) a s (by omega) (by omega)
    have h5 := e22 (n := n) (by omega) b s (by omega) (by omega)
    rw [over_comm] at h3
    have a1 := over_both (a := a) (b := b) (s := s)
    generalize overV a b = x at *
    generalize matchV a s = y at *
    generalize matchV b s = z at *
    cases x <;> cases y <;> cases z <;> simp at a1 <;> simp -implicitDefEqProofs [D7, hs, h1, h2, h3, h4, h5, aw]

end Go.Proofs.YtdnoonnanhnkaaaDoor
