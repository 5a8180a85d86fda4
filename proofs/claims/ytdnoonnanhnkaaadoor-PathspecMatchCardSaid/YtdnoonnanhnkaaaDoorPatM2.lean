/- What matching answers: the reference, and the law. -/
import Derived.Test.YtdnoonnanhnkaaaDoorPatM
set_option linter.unusedVariables false
set_option linter.unusedSimpArgs false
set_option maxRecDepth 20000
set_option maxHeartbeats 2000000
namespace Go.Proofs.YtdnoonnanhnkaaaDoor
open Go

section
variable {n : Nat} {l ws : List Bs} (hn : 100100 ≤ n) (hws : ws.length ≤ 1000) (hl : l.length ≤ 1000) (htw : ∀ t ∈ ws, t.length < 100000) (htl : ∀ t ∈ l, t.length < 100000)
include hn hws htw

theorem l23_0 {k : Nat} {c : Bs} (hk : l[k]? = some c) (hcl : c.length < 100000) (hkl : k < 100000) (r : Nat → Bool) {can nx : Nat} {σ : Sto} (hcan : σ.obj can = arrD (ws.length + 1) (bR r)) (hc : can < σ.nobj) (hx : nx < σ.nobj) (hne : can ≠ nx) :
    ∀ (j i m : Nat), i + j = ws.length + 1 → j < m →
    iterJ 1 (L23_0 (cpJ PR n) (ciJ PR n) n (strsD true l) (strsD true ws) (.int .i64 k) (.mslice can 0 (ws.length + 1) (ws.length + 1)) (.mslice nx 0 (ws.length + 1) (ws.length + 1))) m [.int .i64 i]
      (σ.put nx (arrD (ws.length + 1) (upto i (bR (stepM c ws r)) fun _ => .bool false))) =
      some (.next 0 [.int .i64 ((k + 1 : Nat) : Int), .mslice nx 0 (ws.length + 1) (ws.length + 1)] (σ.put nx (arrD (ws.length + 1) (bR (stepM c ws r))))) := by
  intro j
  induction j with
  | zero =>
    intro i m hi hm
    obtain ⟨m, rfl⟩ : ∃ q, m = q + 1 := ⟨m - 1, by omega⟩
    obtain rfl : i = ws.length + 1 := by omega
    have hw := wrap_succ (i := k) (by omega)
    have hi' : ¬ (((ws.length + 1 : Nat) : Int) ≤ ws.length) := by omega
    simp only [Int.natCast_add, Int.natCast_one] at hi'
    rw [arr_upto]
    refine iterJ_out ?_ (by decide)
    simp -implicitDefEqProofs [L23_0, B23_0, hi']
    simpa using hw
  | succ j ih =>
    intro i m hi hm
    obtain ⟨m, rfl⟩ : ∃ q, m = q + 1 := ⟨m - 1, by omega⟩
    have hil : i < ws.length + 1 := by omega
    have hi' : (i : Int) ≤ ws.length := by omega
    have hw := wrap_succ (i := i) (by omega)
    have hstep : ∀ (σ' : Sto), σ' = σ.put nx (arrD (ws.length + 1) (upto i (bR (stepM c ws r)) fun _ => .bool false)) →
        L23_0 (cpJ PR n) (ciJ PR n) n (strsD true l) (strsD true ws) (.int .i64 k) (.mslice can 0 (ws.length + 1) (ws.length + 1)) (.mslice nx 0 (ws.length + 1) (ws.length + 1)) [.int .i64 i] σ' =
        some (.next 1 [.int .i64 ((i + 1 : Nat) : Int)] (σ.put nx (arrD (ws.length + 1) (upto (i + 1) (bR (stepM c ws r)) fun _ => .bool false)))) := by
      intro σ' hσ
      have hcan' : σ'.obj can = arrD (ws.length + 1) (bR r) := by rw [hσ, Sto.put_obj_ne hne, hcan]
      have hnx' : σ'.obj nx = arrD (ws.length + 1) (upto i (bR (stepM c ws r)) fun _ => .bool false) := by rw [hσ, Sto.put_obj]
      have hc' : can < σ'.nobj := by rw [hσ]; exact hc
      have hx' : nx < σ'.nobj := by rw [hσ]; exact hx
      have g1 := idx_ms (k := .i64) (id := can) (cap := ws.length + 1) hil
      have g2 : ldOSem σ' none [.obj can i] = some (.bool (r i), σ') := ld_arr hcan' hc' hil
      have g3 := idx_ms (k := .i64) (id := nx) (cap := ws.length + 1) hil
      have g4 : ∀ b : Bool, b = stepM c ws r i → stOSem σ' 1 [.obj nx i, .bool b] = some (.undef, σ.put nx (arrD (ws.length + 1) (upto (i + 1) (bR (stepM c ws r)) fun _ => .bool false))) := by
        rintro b rfl
        have := st_arr (v := .bool (stepM c ws r i)) hnx' hx' hil rfl rfl
        rw [this, hσ, Sto.put_put, ← upto_succ]
      have hst : stepM c ws r = if c = [42, 42] then starR r else oneR r fun i => globV c (ws.getD i []) := rfl
      by_cases h42 : c = [42, 42]
      · subst h42
        simp only [if_true] at hst
        cases i with
        | zero =>
          have h4 := g4 (r 0) (by rw [hst]; rfl)
          simp only [Int.natCast_zero] at g1 g3 hi'
          cases hr : r 0 <;> rw [hr] at h4 <;> simp -implicitDefEqProofs [L23_0, B23_0, hi', hk, g1, g2, hr, g3, h4] <;> simpa using hw
        | succ i =>
          have hp : IntKind.i64.wrap (i : Int) = i := wrap_i64 (by omega) (by omega)
          have hil2 : i < ws.length + 1 := by omega
          have hil3 : (i : Int) < (ws.length : Int) + 1 := by omega
          have g6 : ldOSem σ' none [.obj nx i] = some (.bool (stepM [42, 42] ws r i), σ') := by
            have := ld_arr hnx' hx' hil2
            rwa [upto_lt _ _ (by omega)] at this
          have hpos : (0 : Int) < (i : Int) + 1 := by omega
          have h4 := g4 (r (i + 1) || stepM [42, 42] ws r i) (by rw [hst]; rfl)
          simp only [Int.natCast_add, Int.natCast_one] at g1 g3 hi' hw
          cases hr : r (i + 1)
          · cases hr2 : stepM [42, 42] ws r i <;> rw [hr, hr2] at h4 <;> simp only [Bool.or_true, Bool.or_false] at h4 <;> simp -implicitDefEqProofs [L23_0, B23_0, hi', hk, g1, g2, hr, g3, h4, hp, hil3, g6, hr2, hpos] <;> simpa using hw
          · rw [hr] at h4
            simp only [Bool.true_or, Bool.false_and] at h4
            simp -implicitDefEqProofs [L23_0, B23_0, hi', hk, g1, g2, hr, g3, h4, hp, hil3, g6, hpos] <;> simpa using hw
      · have h42' : (c == [42, 42]) = false := by simpa using h42
        rw [if_neg h42] at hst
        cases i with
        | zero =>
          simp only [Int.natCast_zero] at g1 g3 hi'
          have : stepM c ws r 0 = false := by rw [hst]; rfl
          have h4 := g4 false this.symm
          simp -implicitDefEqProofs [L23_0, B23_0, hi', hk, h42', g3, h4]
          simpa using hw
        | succ i =>
          have hp : IntKind.i64.wrap (i : Int) = i := wrap_i64 (by omega) (by omega)
          have hil2 : i < ws.length + 1 := by omega
          have hil3 : (i : Int) < (ws.length : Int) + 1 := by omega
          have g6 : ldOSem σ' none [.obj can i] = some (.bool (r i), σ') := ld_arr hcan' hc' hil2
          have hpos : (0 : Int) < (i : Int) + 1 := by omega
          obtain ⟨x, hx1⟩ := get_some (by omega : i < ws.length)
          have hx2 : ws.getD i [] = x := by simp [List.getD_eq_getElem?_getD, hx1]
          have hgl := e39 (n := n) (p := c) (s := x) (htw x (List.mem_of_getElem? hx1)) hcl (by omega)
          have h4 := g4 (r i && globV c x) (by rw [hst, ← hx2]; rfl)
          simp only [Int.natCast_add, Int.natCast_one] at g1 g3 hi' hw
          cases hr : r i
          · rw [hr] at h4
            simp only [Bool.true_or, Bool.false_and] at h4
            simp -implicitDefEqProofs [L23_0, B23_0, hi', hk, h42', g3, h4, hp, hil3, g6, hr, hpos]
            simpa using hw
          · cases hgv : globV c x <;> rw [hr, hgv] at h4 <;> simp only [Bool.or_true, Bool.or_false, Bool.and_true, Bool.and_false] at h4 <;> rw [hgv] at hgl <;>
              simp -implicitDefEqProofs [L23_0, B23_0, hi', hk, hgl, h42', g3, h4, hp, hil3, g6, hr, hpos, hx1] <;> simpa using hw
    rw [iterJ_next' (hstep _ rfl)]
    exact ih (i + 1) m (by omega) (by omega)

include hl htl
theorem l23_1  : ∀ (j k m : Nat) (r : Nat → Bool) (can : Nat) (σ : Sto), k + j = l.length → j < m → σ.obj can = arrD (ws.length + 1) (bR r) → can < σ.nobj →
    ∃ σ', iterJ 0 (L23_1 (cpJ PR n) (ciJ PR n) n (strsD true l) (strsD true ws)) m [.int .i64 k, .mslice can 0 (ws.length + 1) (ws.length + 1)] σ = some (.done (.bool (pathR ws (l.drop k) r ws.length)) σ') := by
  intro j
  induction j with
  | zero =>
    intro k m r can σ hk hm ho hc
    obtain ⟨m, rfl⟩ : ∃ q, m = q + 1 := ⟨m - 1, by omega⟩
    have hk' : ¬ ((k : Int) < l.length) := by omega
    have g1 := idx_ms (k := .i64) (id := can) (cap := ws.length + 1) (n := ws.length + 1) (i := ws.length) (by omega)
    have g2 : ldOSem σ none [.obj can ws.length] = some (.bool (r ws.length), σ) := ld_arr ho hc (by omega)
    refine ⟨σ, iterJ_done ?_⟩
    rw [List.drop_eq_nil_of_le (by omega)]
    simp -implicitDefEqProofs [L23_1, B23_1, hk', g1, g2, pathR]
  | succ j ih =>
    intro k m r can σ hk hm ho hc
    obtain ⟨m, rfl⟩ : ∃ q, m = q + 1 := ⟨m - 1, by omega⟩
    have hk' : ((k : Int) < l.length) := by omega
    obtain ⟨c, hkc⟩ := get_some (by omega : k < l.length)
    have hw := wrap_succ (i := ws.length) (by omega)
    have g1 := make_arr (σ := σ) (z := .bool false) (n := ws.length + 1) (by omega)
    have g2 := l23_0 (n := n) (k := k) hn hws htw hkc (htl c (List.mem_of_getElem? hkc)) (by omega) r (can := can) (nx := σ.nobj) (σ := σ.new (arrD (ws.length + 1) fun _ => .bool false)) (by rw [Sto.new_obj_ne hc, ho]) (by simp; omega) (by simp) (by omega) (ws.length + 1) 0 n (by omega) (by omega)
    rw [upto_zero, Sto.new_put, Sto.new_put] at g2
    obtain ⟨σ', h⟩ := ih (k + 1) m (stepM c ws r) σ.nobj (σ.new (arrD (ws.length + 1) (bR (stepM c ws r)))) (by omega) (by omega) Sto.new_obj (by simp)
    refine ⟨σ', ?_⟩
    rw [iterJ_next' (vs' := [.int .i64 ((k + 1 : Nat) : Int), .mslice σ.nobj 0 (ws.length + 1) (ws.length + 1)]) (σ' := σ.new (arrD (ws.length + 1) (bR (stepM c ws r)))), h, drop_get hkc]
    · rfl
    · simp only [Int.natCast_add, Int.natCast_one, Int.natCast_zero] at g1 g2 hw
      simp -implicitDefEqProofs [L23_1, B23_1, hk', hkc, hw, g1, len_ms, g2]

end

/-- What Match answers. -/
def matchV (p s : Bs) : Bool := match parseV true p, parseV false s with
  | some l, some ws => pathV l ws
  | _, _ => false

theorem e22 {n : Nat} (hn : 100200 ≤ n) (p s : Bs) (hp : p.length ≤ 90000) (hs : s.length ≤ 90000) : cpJ PR n 22 [.str p, .str s] = some (.bool (matchV p s)) := by
  obtain ⟨n, rfl⟩ : ∃ m, n = m + 1 := ⟨n - 1, by omega⟩
  have h1 := e31 (n := n) (by omega) p hp
  have h2 := e34 (n := n) (by omega) s hs
  rw [elems_parse] at h1
  rw [names_parse] at h2
  rw [u22]
  unfold matchV
  cases c1 : parseV true p with
  | none =>
    rw [c1] at h1
    cases c2 : parseV false s <;> rw [c2] at h2 <;> simp only at h1 h2 <;> simp -implicitDefEqProofs [D22, h1, h2]
  | some l =>
    rw [c1] at h1
    cases c2 : parseV false s with
    | none => rw [c2] at h2; simp only at h1 h2; simp -implicitDefEqProofs [D22, h1, h2]
    | some ws =>
      rw [c2] at h2
      obtain ⟨-, p1, p2, p3⟩ := parse_len c1
      obtain ⟨-, q1, q2, q3⟩ := parse_len c2
      have h3 := e38 (n := n) (l := l) (ws := ws) (by omega) (by omega) (by omega) (fun t ht => by have := q2 t ht; omega) (fun t ht => by have := p2 t ht; omega) (by omega)
      simp only at h1 h2
      simp -implicitDefEqProofs [D22, h1, h2, h3]

theorem e23 {n : Nat} (hn : 100200 ≤ n) (p s : Bs) (hp : p.length ≤ 90000) (hs : s.length ≤ 90000) : cpJ PR n 23 [.str p, .str s] = some (.bool (matchV p s)) := by
  obtain ⟨n, rfl⟩ : ∃ m, n = m + 1 := ⟨n - 1, by omega⟩
  have h1 := e17 (n := n) (by omega) p hp
  have h2 := e19 (n := n) (by omega) s hs
  rw [u23]
  unfold matchV
  have nz : ∀ {sp : Bool} {x : Bs}, parseV sp x = none → (chkV sp x != 0) = true := fun {sp x} h => by
    have : chkV sp x ≠ 0 := fun e => by obtain ⟨l, hl⟩ := chk_zero.1 e; rw [h] at hl; cases hl
    simpa using this
  cases c1 : parseV true p with
  | none => simp -implicitDefEqProofs [D23, h1, nz c1]
  | some l =>
    rw [chk_zero.2 ⟨l, c1⟩] at h1
    cases c2 : parseV false s with
    | none => simp -implicitDefEqProofs [D23, h1, h2, nz c2]
    | some ws =>
      rw [chk_zero.2 ⟨ws, c2⟩] at h2
      obtain ⟨-, p1, p2, p3⟩ := parse_len c1
      obtain ⟨-, q1, q2, q3⟩ := parse_len c2
      obtain ⟨r1, r2⟩ := split_parse c1
      obtain ⟨r3, r4⟩ := split_parse c2
      have h3 := e36 (n := n) (by omega) p (by omega) r2
      have h4 := e36 (n := n) (by omega) s (by omega) r4
      rw [r1] at h3
      rw [r3] at h4
      have hw := wrap_succ (i := ws.length) (by omega)
      have g1 := make_arr (σ := emptySto) (z := .bool false) (n := ws.length + 1) (by omega)
      have g2 := idx_ms (k := .i64) (id := emptySto.nobj) (cap := ws.length + 1) (n := ws.length + 1) (i := 0) (by omega)
      have g3 := st_arr (σ := emptySto.new (arrD (ws.length + 1) fun _ => .bool false)) (id := emptySto.nobj) (n := ws.length + 1) (i := 0) (v := .bool true) Sto.new_obj (by simp) (by omega) rfl rfl
      rw [Sto.new_put, ← bR_row0] at g3
      obtain ⟨σ', h⟩ := l23_1 (n := n) (l := l) (ws := ws) (by omega) (by omega) (by omega) (fun t ht => by have := q2 t ht; omega) (fun t ht => by have := p2 t ht; omega) l.length 0 n row0 emptySto.nobj (emptySto.new (arrD (ws.length + 1) (bR row0))) (by omega) (by omega) Sto.new_obj (by simp)
      simp only [Int.natCast_add, Int.natCast_one, Int.natCast_zero, List.drop_zero] at g1 g2 g3 h hw
      simp -implicitDefEqProofs [D23, h1, h2, h3, h4, splitD, hw, g1, g2, g3, h, pathV]

/-- The law of Match. -/
theorem e4 {n : Nat} (hn : 100300 ≤ n) (aw : cpJ PR n 11 [] = some (.bool true)) (p s : Bs) :
    cpJ PR (n + 1) 4 [.str p, .str s] = some (.bool true) := by
  have hs := short2 (n := n) (by omega) p s
  rw [u4]
  cases hsh : shortV [p, s] with
  | false =>
    rw [hsh] at hs
    simp -implicitDefEqProofs [D4, hs, aw]
  | true =>
    rw [hsh] at hs
    have hle : p.length ≤ 300 ∧ s.length ≤ 300 := by simpa [shortV] using hsh
    have h1 := e22 (n := n) (by omega) p s (by omega) (by omega)
    have h2 := e23 (n := n) (by omega) p s (by omega) (by omega)
    simp -implicitDefEqProofs [D4, hs, h1, h2, aw]

end Go.Proofs.YtdnoonnanhnkaaaDoor
