/- What matching a path against a pattern answers. -/
import Derived.Test.YtdnoonnanhnkaaaDoorPatKd
set_option linter.unusedVariables false
set_option linter.unusedSimpArgs false
set_option maxRecDepth 20000
set_option maxHeartbeats 2000000
namespace Go.Proofs.YtdnoonnanhnkaaaDoor
open Go

def stepM (t : Bs) (ws : List Bs) (r : Nat → Bool) : Nat → Bool := if t = [42, 42] then starR r else oneR r fun i => globV t (ws.getD i [])
def pathR (ws : List Bs) : List Bs → (Nat → Bool) → Nat → Bool
  | [], r => r
  | t :: l, r => pathR ws l (stepM t ws r)
/-- Do the elements of a path match those of a pattern? -/
def pathV (l ws : List Bs) : Bool := pathR ws l row0 ws.length

section
variable {n : Nat} {l ws : List Bs} (hn : 100100 ≤ n) (hws : ws.length ≤ 1000) (hl : l.length ≤ 1000) (htw : ∀ t ∈ ws, t.length < 100000) (htl : ∀ t ∈ l, t.length < 100000)
include hn hws htw

theorem l38_0 {k : Nat} {c : Bs} (hcl : c.length < 100000) (hkl : k < 100000) (r : Nat → Bool) {can nx : Nat} {σ : Sto} (hcan : σ.obj can = arrD (ws.length + 1) (bR r)) (hc : can < σ.nobj) (hx : nx < σ.nobj) (hne : can ≠ nx) :
    ∀ (j i m : Nat), i + j = ws.length + 1 → j < m →
    iterJ 1 (L38_0 (cpJ PR n) (ciJ PR n) n (strsD true ws) (.int .i64 k) (.mslice can 0 (ws.length + 1) (ws.length + 1)) (eltD c) (.mslice nx 0 (ws.length + 1) (ws.length + 1)) (.int .i64 ((ws.length + 1 : Nat) : Int))) m [.int .i64 i]
      (σ.put nx (arrD (ws.length + 1) (upto i (bR (stepM c ws r)) fun _ => .bool false))) =
      some (.next 0 [.int .i64 ((k + 1 : Nat) : Int), .mslice nx 0 (ws.length + 1) (ws.length + 1)] (σ.put nx (arrD (ws.length + 1) (bR (stepM c ws r))))) := by
  intro j
  induction j with
  | zero =>
    intro i m hi hm
    obtain ⟨m, rfl⟩ : ∃ q, m = q + 1 := ⟨m - 1, by omega⟩
    obtain rfl : i = ws.length + 1 := by omega
    have hw := wrap_succ (i := k) (by omega)
    rw [arr_upto]
    refine iterJ_out ?_ (by decide)
    simp -implicitDefEqProofs [L38_0, B38_0]
    simpa using hw
  | succ j ih =>
    intro i m hi hm
    obtain ⟨m, rfl⟩ : ∃ q, m = q + 1 := ⟨m - 1, by omega⟩
    have hil : i < ws.length + 1 := by omega
    have hi' : ((i : Int) < ((ws.length + 1 : Nat) : Int)) := by omega
    have hw := wrap_succ (i := i) (by omega)
    have hd := e42 (n := n) (by omega) c
    have htx := e45 (n := n) (by omega) c
    have hstep : ∀ (σ' : Sto), σ' = σ.put nx (arrD (ws.length + 1) (upto i (bR (stepM c ws r)) fun _ => .bool false)) →
        L38_0 (cpJ PR n) (ciJ PR n) n (strsD true ws) (.int .i64 k) (.mslice can 0 (ws.length + 1) (ws.length + 1)) (eltD c) (.mslice nx 0 (ws.length + 1) (ws.length + 1)) (.int .i64 ((ws.length + 1 : Nat) : Int)) [.int .i64 i] σ' =
        some (.next 1 [.int .i64 ((i + 1 : Nat) : Int)] (σ.put nx (arrD (ws.length + 1) (upto (i + 1) (bR (stepM c ws r)) fun _ => .bool false)))) := by
      intro σ' hσ
      have hcan' : σ'.obj can = arrD (ws.length + 1) (bR r) := by rw [hσ, Sto.put_obj_ne hne, hcan]
      have hnx' : σ'.obj nx = arrD (ws.length + 1) (upto i (bR (stepM c ws r)) fun _ => .bool false) := by rw [hσ, Sto.put_obj]
      have hc' : can < σ'.nobj := by rw [hσ]; exact hc
      have hx' : nx < σ'.nobj := by rw [hσ]; exact hx
      have g1 := idx_ms (k := .i64) (id := can) (cap := ws.length + 1) hil
      have g2 : ldOSem σ' none [.obj can i] = some (.bool (r i), σ') := ld_arr hcan' hc' hil
      have g3 := idx_ms (k := .i64) (id := nx) (cap := ws.length + 1) hil
      have g4 : ∀ b : Bool, b = stepM c ws r i → stOSem σ' 1 [.obj nx i, .bool b] = some (.undef, σ.put nx (arrD (ws.length + 1) (upto (i + 1) (bR (stepM c ws r)) fun _ => .bool false))) := by
        rintro b rfl
        have := st_arr (v := .bool (stepM c ws r i)) hnx' hx' hil rfl rfl
        rw [this, hσ, Sto.put_put, ← upto_succ]
      have hst : stepM c ws r = if c = [42, 42] then starR r else oneR r fun i => globV c (ws.getD i []) := rfl
      by_cases h42 : c = [42, 42]
      · subst h42
        simp only [if_true] at hst
        cases i with
        | zero =>
          have h4 := g4 (r 0) (by rw [hst]; rfl)
          simp only [Int.natCast_zero] at g1 g3 hi'
          cases hr : r 0 <;> rw [hr] at h4 <;> simp -implicitDefEqProofs [L38_0, B38_0, hi', hd, g1, g2, hr, g3, h4] <;> simpa using hw
        | succ i =>
          have hp : IntKind.i64.wrap (i : Int) = i := wrap_i64 (by omega) (by omega)
          have hil2 : i < ws.length + 1 := by omega
          have hil3 : (i : Int) < (ws.length : Int) + 1 := by omega
          have g6 : ldOSem σ' none [.obj nx i] = some (.bool (stepM [42, 42] ws r i), σ') := by
            have := ld_arr hnx' hx' hil2
            rwa [upto_lt _ _ (by omega)] at this
          have hpos : (0 : Int) < (i : Int) + 1 := by omega
          have h4 := g4 (r (i + 1) || stepM [42, 42] ws r i) (by rw [hst]; rfl)
          simp only [Int.natCast_add, Int.natCast_one] at g1 g3 hi' hw
          cases hr : r (i + 1)
          · cases hr2 : stepM [42, 42] ws r i <;> rw [hr, hr2] at h4 <;> simp only [Bool.or_true, Bool.or_false] at h4 <;> simp -implicitDefEqProofs [L38_0, B38_0, hi', hd, g1, g2, hr, g3, h4, hp, hil3, g6, hr2, hpos] <;> simpa using hw
          · rw [hr] at h4
            simp only [Bool.true_or, Bool.false_and] at h4
            simp -implicitDefEqProofs [L38_0, B38_0, hi', hd, g1, g2, hr, g3, h4, hp, hil3, g6, hpos] <;> simpa using hw
      · have h42' : (c == [42, 42]) = false := by simpa using h42
        rw [if_neg h42] at hst
        rw [h42'] at hd
        cases i with
        | zero =>
          simp only [Int.natCast_zero] at g1 g3 hi'
          have : stepM c ws r 0 = false := by rw [hst]; rfl
          have e : σ' = σ.put nx (arrD (ws.length + 1) (upto 1 (bR (stepM c ws r)) fun _ => .bool false)) := by
            rw [hσ]
            congr 2
            rw [← upto_succ]
            funext j
            by_cases hj : j = 0
            · subst hj; simp [upto, upd, bR, this]
            · simp [upto, upd, hj]
          rw [← e]
          simp -implicitDefEqProofs [L38_0, B38_0, hi', hd, h42']
          simpa using hw
        | succ i =>
          have hp : IntKind.i64.wrap (i : Int) = i := wrap_i64 (by omega) (by omega)
          have hil2 : i < ws.length + 1 := by omega
          have hil3 : (i : Int) < (ws.length : Int) + 1 := by omega
          have g6 : ldOSem σ' none [.obj can i] = some (.bool (r i), σ') := ld_arr hcan' hc' hil2
          have hpos : (0 : Int) < (i : Int) + 1 := by omega
          obtain ⟨x, hx1⟩ := get_some (by omega : i < ws.length)
          have hx2 : ws.getD i [] = x := by simp [List.getD_eq_getElem?_getD, hx1]
          have hgl := e52 (n := n) (p := c) (s := x) (htw x (List.mem_of_getElem? hx1)) hcl (by omega)
          have h4 := g4 (r i && globV c x) (by rw [hst, ← hx2]; rfl)
          simp only [Int.natCast_add, Int.natCast_one] at g1 g3 hi' hw
          cases hr : r i
          · rw [hr] at h4
            simp only [Bool.true_or, Bool.false_and] at h4
            simp -implicitDefEqProofs [L38_0, B38_0, hi', hd, h42', g3, h4, hp, hil3, g6, hr, hpos]
            simpa using hw
          · cases hgv : globV c x <;> rw [hr, hgv] at h4 <;> simp only [Bool.or_true, Bool.or_false, Bool.and_true, Bool.and_false] at h4 <;> rw [hgv] at hgl <;>
              simp -implicitDefEqProofs [L38_0, B38_0, hi', hd, htx, hgl, h42', g3, h4, hp, hil3, g6, hr, hpos, hx1] <;> simpa using hw
    rw [iterJ_next' (hstep _ rfl)]
    exact ih (i + 1) m (by omega) (by omega)

include hl htl
theorem l38_1  : ∀ (j k m : Nat) (r : Nat → Bool) (can : Nat) (σ : Sto), k + j = l.length → j < m → σ.obj can = arrD (ws.length + 1) (bR r) → can < σ.nobj →
    ∃ σ', iterJ 0 (L38_1 (cpJ PR n) (ciJ PR n) n (eltsD l) (strsD true ws) (.int .i64 l.length)) m [.int .i64 k, .mslice can 0 (ws.length + 1) (ws.length + 1)] σ = some (.done (.bool (pathR ws (l.drop k) r ws.length)) σ') := by
  intro j
  induction j with
  | zero =>
    intro k m r can σ hk hm ho hc
    obtain ⟨m, rfl⟩ : ∃ q, m = q + 1 := ⟨m - 1, by omega⟩
    have hk' : ¬ ((k : Int) < l.length) := by omega
    have g1 := idx_ms (k := .i64) (id := can) (cap := ws.length + 1) (n := ws.length + 1) (i := ws.length) (by omega)
    have g2 : ldOSem σ none [.obj can ws.length] = some (.bool (r ws.length), σ) := ld_arr ho hc (by omega)
    refine ⟨σ, iterJ_done ?_⟩
    rw [List.drop_eq_nil_of_le (by omega)]
    simp -implicitDefEqProofs [L38_1, B38_1, hk', g1, g2, pathR]
  | succ j ih =>
    intro k m r can σ hk hm ho hc
    obtain ⟨m, rfl⟩ : ∃ q, m = q + 1 := ⟨m - 1, by omega⟩
    have hk' : ((k : Int) < l.length) := by omega
    obtain ⟨c, hkc⟩ := get_some (by omega : k < l.length)
    have hw := wrap_succ (i := ws.length) (by omega)
    have g1 := make_arr (σ := σ) (z := .bool false) (n := ws.length + 1) (by omega)
    have g2 := l38_0 (n := n) (k := k) hn hws htw (htl c (List.mem_of_getElem? hkc)) (by omega) r (can := can) (nx := σ.nobj) (σ := σ.new (arrD (ws.length + 1) fun _ => .bool false)) (by rw [Sto.new_obj_ne hc, ho]) (by simp; omega) (by simp) (by omega) (ws.length + 1) 0 n (by omega) (by omega)
    rw [upto_zero, Sto.new_put, Sto.new_put] at g2
    obtain ⟨σ', h⟩ := ih (k + 1) m (stepM c ws r) σ.nobj (σ.new (arrD (ws.length + 1) (bR (stepM c ws r)))) (by omega) (by omega) Sto.new_obj (by simp)
    refine ⟨σ', ?_⟩
    rw [iterJ_next' (vs' := [.int .i64 ((k + 1 : Nat) : Int), .mslice σ.nobj 0 (ws.length + 1) (ws.length + 1)]) (σ' := σ.new (arrD (ws.length + 1) (bR (stepM c ws r)))), h, drop_get hkc]
    · rfl
    · simp only [Int.natCast_add, Int.natCast_one, Int.natCast_zero] at g1 g2 hw
      simp -implicitDefEqProofs [L38_1, B38_1, hk', hkc, hw, g1, len_ms, g2]

theorem e38 (hn2 : 100101 ≤ n) : cpJ PR n 38 [eltsD l, strsD true ws] = some (.bool (pathV l ws)) := by
  obtain ⟨n, rfl⟩ : ∃ m, n = m + 1 := ⟨n - 1, by omega⟩
  have hw := wrap_succ (i := ws.length) (by omega)
  have g1 := make_arr (σ := emptySto) (z := .bool false) (n := ws.length + 1) (by omega)
  have g2 := idx_ms (k := .i64) (id := emptySto.nobj) (cap := ws.length + 1) (n := ws.length + 1) (i := 0) (by omega)
  have g3 := st_arr (σ := emptySto.new (arrD (ws.length + 1) fun _ => .bool false)) (id := emptySto.nobj) (n := ws.length + 1) (i := 0) (v := .bool true) Sto.new_obj (by simp) (by omega) rfl rfl
  rw [Sto.new_put, ← bR_row0] at g3
  obtain ⟨σ', h⟩ := l38_1 (n := n) (by omega) hws hl htw htl l.length 0 n row0 emptySto.nobj (emptySto.new (arrD (ws.length + 1) (bR row0))) (by omega) (by omega) Sto.new_obj (by simp)
  rw [u38]
  simp only [Int.natCast_add, Int.natCast_one, Int.natCast_zero, List.drop_zero] at g1 g2 g3 h hw
  simp -implicitDefEqProofs [D38, hw, g1, g2, g3, h, pathV]

end

end Go.Proofs.YtdnoonnanhnkaaaDoor
