/- Texts of this proof, part 5: see the card for what is proved. -/
import Derived.Test.YtdibpeknpmhknaaFq04
namespace Go.Proofs.Ytdibpeknpmhknaa
set_option linter.unusedVariables false
set_option linter.unusedSimpArgs false
set_option maxRecDepth 100000
set_option maxHeartbeats 8000000
open Go
def tenC : List Bs := [[99, 48], [99, 49], [99, 50], [99, 51], [99, 52], [99, 53], [99, 54], [99, 55], [99, 56], [99, 57]]
def fullP : PolV := { sampleP with cats := ⟨.lit, tenC⟩ }
theorem full_good : Good' fullP where
  types := ⟨by decide, by decide, by simp⟩
  roles := ⟨rfl, by decide, by decide⟩
  users := ⟨by decide, by decide, by simp⟩
  cats := ⟨⟨by decide, by decide, by simp⟩, ⟨by decide, by decide, by simp⟩⟩
  small := ⟨by decide, by decide, by decide, by decide, by decide, by decide, by decide, by decide, by decide, by decide, by decide, by decide, by decide, by decide, by decide, by decide, by decide, by decide⟩
def fL (i : Nat) : LvV := ⟨0, i % 18446744073709551616, Nat.mod_lt _ (by decide)⟩
def fC (i : Nat) : CtxV := ⟨0, 0, 2, fL i, fL i⟩
theorem fL_c {i : Nat} (h : i < 18446744073709551616) : (fL i).c = i := Nat.mod_eq_of_lt h
theorem full_right : rightV fullP = true := by kernel_rfl
theorem full_check : ((List.range 1024).all fun i => checkC fullP (fC i) == 0) = true := by kernel_rfl
theorem full_chk {i : Nat} (h : i < 1024) : checkC fullP (fC i) = 0 := by
  have := List.all_eq_true.1 full_check i (List.mem_range.2 h)
  simpa using this
def fR (k : Nat) : List RRow := (List.range k).map fun j => RRow.ok fullP [] (fC (j + 1))
def fM (k : Nat) : List RRow := firstR fullP ++ fR k
theorem fM_len (k : Nat) : (fM k).length = 3 + k := by
  have : (firstR fullP).length = 3 := by kernel_rfl
  rw [fM, List.length_append, this, fR, List.length_map, List.length_range]
theorem fM_succ (k : Nat) : fM (k + 1) = fM k ++ [RRow.ok fullP [] (fC (k + 1))] := by
  simp [fM, fR, List.range_succ]
theorem hasR_f {i j : Nat} (hi : i < 18446744073709551616) (hj : j < 18446744073709551616) : hasR (fC i) (RRow.ok fullP [] (fC j)) = decide (i = j) := by
  rw [Bool.eq_iff_iff, decide_eq_true_eq]
  show (true && ceq (fC j) (fC i)) = true ↔ _
  rw [Bool.true_and, ceq_iff]
  constructor
  · intro h
    have : (fC j).lo.c = (fC i).lo.c := by rw [h]
    have h2 : (fL j).c = (fL i).c := this
    rw [fL_c hi, fL_c hj] at h2
    exact h2.symm
  · rintro rfl; rfl
theorem find_first {i : Nat} (h0 : 1 ≤ i) (h : i < 1024) : findI (hasR (fC i)) (firstR fullP) 0 = -1 := by
  have key : ((List.range 1024).all fun i => findI (hasR (fC (i + 1))) (firstR fullP) 0 == -1) = true := by kernel_rfl
  have := List.all_eq_true.1 key (i - 1) (List.mem_range.2 (by omega))
  rw [show i - 1 + 1 = i by omega] at this
  simpa using this
theorem find_fM {i : Nat} (h0 : 1 ≤ i) (h : i < 1024) : ∀ k, k ≤ 2000 → findI (hasR (fC i)) (fM k) 0 = if i ≤ k then ((2 + i : Nat) : Int) else -1 := by
  intro k
  induction k with
  | zero =>
    intro _
    rw [show fM 0 = firstR fullP from by simp [fM, fR], find_first h0 h, if_neg (by omega)]
  | succ k ih =>
    intro hk
    have ih := ih (by omega)
    rw [fM_succ, findI_snoc, ih, hasR_f (by omega) (by omega), fM_len]
    by_cases h1 : i ≤ k
    · rw [if_pos h1, if_pos (by omega), if_pos (by omega)]
    · rw [if_neg h1, if_neg (by omega)]
      by_cases h2 : i = k + 1
      · rw [if_pos (by simpa using h2), if_pos (by omega)]
        omega
      · rw [if_neg (by simpa using h2), if_neg (by omega)]
theorem sid_f {i : Nat} (h0 : 1 ≤ i) (h : i < 1024) : sidR fullP (fM (min (i - 1) 1021)) (fC i) = if i ≤ 1021 then (fM (min i 1021), (i : Int) + 3, 0) else (fM (min i 1021), 0, 25) := by
  unfold sidR
  rw [if_pos (full_chk h), find_fM h0 h _ (by omega), if_neg (by omega)]
  by_cases h1 : i ≤ 1021
  · rw [if_pos h1, show tailR fullP (fM (min (i - 1) 1021)) (fC i) (-1) = (fM (min (i - 1) 1021) ++ [RRow.ok fullP [] (fC i)], (((fM (min (i - 1) 1021)).length + 1 : Nat) : Int), 0) from if_neg (by rw [fM_len]; omega)]
    have e : min i 1021 = min (i - 1) 1021 + 1 := by omega
    have e2 : fC i = fC (min (i - 1) 1021 + 1) := by congr 1; omega
    rw [e, fM_succ, fM_len, e2]
    refine Prod.ext rfl (Prod.ext ?_ rfl)
    show ((3 + min (i - 1) 1021 + 1 : Nat) : Int) = (i : Int) + 3
    omega
  · rw [if_neg h1, show tailR fullP (fM (min (i - 1) 1021)) (fC i) (-1) = (fM (min (i - 1) 1021), 0, 25) from if_pos (by rw [fM_len]; omega)]
    rw [show min i 1021 = min (i - 1) 1021 by omega]
theorem wr_f (lo hi : LvV) (i : Nat) (h : i < 18446744073709551616) : jwrSem 3 4 [(CtxV.mk 0 0 2 lo hi).d, .agg [.int .i64 0, .int .u64 i, .int .i64 0, .int .u64 i]] = some (fC i).d := by
  have e : (fL i).row = [.int .i64 0, .int .u64 i] := by
    show [DVal.int .i64 0, DVal.int .u64 ((fL i).c : Nat)] = _
    rw [fL_c h]
  have e2 : (fC i).d = .agg ([.int .i64 0, .int .i64 0, .int .i64 2] ++ ((fL i).row ++ (fL i).row)) := rfl
  rw [e2, e]
  rfl
theorem l3 {n : Nat} (hn : 1200001 ≤ n) (id v : Nat) (hv : v < 65536) (T0 : TabV) : ∀ (k i f : Nat) (lo hi : LvV) (u : DVal) (σ : Sto) (T : TabV), i + k = 1024 → 1 ≤ i → k < f → Both σ id fullP T (fM (min (i - 1) 1021)) →
    ∃ σ', iterJ 0 (L3_0 (cpJ PR n) (ciJ PR n) n (.int .u16 v) (.obj id 0)) f [.int .i64 i, u, (CtxV.mk 0 0 2 lo hi).d] σ = some (.done (.bool true) σ') := by
  have aw := alive_true (n := n) (by omega)
  have hj : ∀ a : Int, jwrSem 0 2 [.agg [.int .i64 0, .int .u64 0], .agg [.int .i64 0, .int .u64 a]] = some (.agg [.int .i64 0, .int .u64 a]) := fun _ => rfl
  intro k
  induction k with
  | zero =>
    intro i f lo hi u σ T hi1 h1 hf hB
    obtain ⟨f, rfl⟩ : ∃ j, f = j + 1 := ⟨f - 1, by omega⟩
    obtain rfl : i = 1024 := by omega
    change Both σ id fullP T (fM 1021) at hB
    have hl : (fM 1021).length = 1024 := fM_len 1021
    have hw1 : IntKind.u64.wrap (v : Int) = (v : Int) := wrap_u64 (by omega) (by omega)
    have hw2 : IntKind.i64.wrap (v : Int) = (v : Int) := wrap_i64 (by omega) (by omega)
    have hm : (v : Int).tmod 1000 = ((v % 1000 : Nat) : Int) := by rw [Int.tmod_eq_emod_of_nonneg (by omega)]; rfl
    have hw3 : IntKind.u64.wrap (1 + ((v % 1000 : Nat) : Int)) = ((1 + v % 1000 : Nat) : Int) := by rw [wrap_u64 (by omega) (by omega)]; omega
    have hw4 : IntKind.i64.wrap (4 + ((v % 1000 : Nat) : Int)) = 4 + ((v % 1000 : Nat) : Int) := wrap_i64 (by omega) (by omega)
    have h2 := wr_f lo hi (1 + v % 1000) (by omega)
    have h3 := find_fM (i := 1 + v % 1000) (by omega) (by omega) 1021 (by omega)
    rw [if_pos (by omega)] at h3
    have h4 := both_known (n := n) (by omega) hB (by omega) (fC (1 + v % 1000)) (full_chk (by omega)) h3
    have e : (((2 + (1 + v % 1000) : Nat) : Int) + 1) = 4 + ((v % 1000 : Nat) : Int) := by omega
    rw [e] at h4
    have h5 := both_len (n := n) (by omega) hB
    rw [hl] at h5
    refine ⟨σ, iterJ_done ?_⟩
    generalize v % 1000 = w at *
    generalize fC (1 + w) = c at *
    generalize (CtxV.mk 0 0 2 lo hi).d = cd at *
    simp -implicitDefEqProofs [L3_0, B3_0, hj, hw1, hw2, hm, hw3, hw4, h2, h4, h5, aw, -jwrSem.eq_1, -Int.natCast_add, -Int.natCast_emod]
  | succ k ih =>
    intro i f lo hi u σ T hi1 h1 hf hB
    obtain ⟨f, rfl⟩ : ∃ j, f = j + 1 := ⟨f - 1, by omega⟩
    have hi' : ((i : Int) < 1024) := by omega
    have hw1 : IntKind.u64.wrap (i : Int) = (i : Int) := wrap_u64 (by omega) (by omega)
    have hw2 : IntKind.i64.wrap ((i : Int) + 3) = (i : Int) + 3 := wrap_i64 (by omega) (by omega)
    have hwr : IntKind.i64.wrap ((i : Int) + 1) = ((i + 1 : Nat) : Int) := wrap_succ (by omega)
    have h2 := wr_f lo hi i (by omega)
    have hr := both_rows' hB
    rw [fM_len] at hr
    obtain ⟨σ1, T1, h3, h4, -, -⟩ := both_sid (n := n) (by omega) hB (by omega) (fC i)
    rw [sid_f h1 (by omega)] at h3 h4
    by_cases hc : i ≤ 1021
    · have hc' : (i : Int) + 3 ≤ 1024 := by omega
      have hc2 : ¬ 1024 < (i : Int) + 3 := by omega
      rw [if_pos hc] at h3 h4
      obtain ⟨σ', g⟩ := ih (i + 1) f (fL i) (fL i) u σ1 T1 (by omega) (by omega) (by omega) (by rw [show i + 1 - 1 = i by omega]; exact h4)
      refine ⟨σ', ?_⟩
      rw [← g]
      refine iterJ_next' ?_
      change _ = some (Out.next 0 [_, u, (fC i).d] σ1)
      generalize fC i = c at *
      generalize (CtxV.mk 0 0 2 lo hi).d = cd at *
      simp -implicitDefEqProofs [L3_0, B3_0, hj, hi', hw1, hw2, hwr, h2, h3, hc', hc2, -jwrSem.eq_1]
    · have hc' : ¬ (i : Int) + 3 ≤ 1024 := by omega
      have hc2 : 1024 < (i : Int) + 3 := by omega
      rw [if_neg hc] at h3 h4
      obtain ⟨σ', g⟩ := ih (i + 1) f (fL i) (fL i) u σ1 T1 (by omega) (by omega) (by omega) (by rw [show i + 1 - 1 = i by omega]; exact h4)
      refine ⟨σ', ?_⟩
      rw [← g]
      refine iterJ_next' ?_
      change _ = some (Out.next 0 [_, u, (fC i).d] σ1)
      generalize fC i = c at *
      generalize (CtxV.mk 0 0 2 lo hi).d = cd at *
      simp -implicitDefEqProofs [L3_0, B3_0, hj, hi', hw1, hw2, hwr, h2, h3, hc', hc2, -jwrSem.eq_1]
theorem e3 {n : Nat} (hn : 1200002 ≤ n) (v : Nat) (hv : v < 65536) : cpJ PR (n + 1) 3 [.int .u16 v] = some (.bool true) := by
  have h1 := e4 (n := n) (by omega)
  have h2 := e6 (n := n) (by omega)
  have a := e5 (n := n) (by omega) emptySto full_good
  rw [if_pos full_right] at a
  obtain ⟨σ1, id, T1, a1, a2, -, -, -⟩ := a
  obtain ⟨σ2, h3⟩ := l3 (n := n) (by omega) id v hv T1 1023 1 n ⟨0, 0, by decide⟩ ⟨0, 0, by decide⟩ (.bool false) σ1 T1 (by omega) (by omega) (by omega) (by
    show Both σ1 id fullP T1 (fM 0)
    rw [show fM 0 = firstR fullP from by simp [fM, fR]]
    exact a2)
  change iterJ 0 _ n [.int .i64 1, .bool false, fileC.d] σ1 = _ at h3
  have j1 := wr_pol sampleP
  have j2 : POp.sem (cpJ PR n) [(.str [99, 48]), (.str [99, 49]), (.str [99, 50]), (.str [99, 51]), (.str [99, 52]), (.str [99, 53]), (.str [99, 54]), (.str [99, 55]), (.str [99, 56]), (.str [99, 57])] (.bslice false 1) = some (strs ⟨.lit, tenC⟩) := rfl
  have j3 : jwrSem 7 1 [sampleP.d, strs ⟨.lit, tenC⟩] = some fullP.d := rfl
  have w2 : sampleP.d.stale = sampleP.d := rfl
  have w3 : fldSem 0 (some 17) [fullP.d] = some fullP.d := rfl
  have w4 : fullP.d.okVal = true := okVal_pol
  generalize fileC = c at *
  generalize strs ⟨.lit, tenC⟩ = tc at *
  generalize fullP.d = P at *
  generalize sampleP.d = Q at *
  rw [u3]
  simp -implicitDefEqProofs [D3, h1, h2, j1, j2, j3, w2, w3, w4, a1, h3, -jwrSem.eq_1, -POp.sem.eq_18]
end Go.Proofs.Ytdibpeknpmhknaa
