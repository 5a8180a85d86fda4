/- What the functions that match single elements answer: rows of a table, one for each byte of the pattern. -/
import Derived.Test.YtdnoonnanhnkaaaDoorKit
import Derived.Test.YtdnoonnanhnkaaaDoorPatU
set_option linter.unusedVariables false
set_option linter.unusedSimpArgs false
set_option maxRecDepth 20000
set_option maxHeartbeats 2000000
namespace Go.Proofs.YtdnoonnanhnkaaaDoor
open Go

theorem u8_lit (c : UInt8) (k : Nat) (hk : k < 256) : (((c.toNat : Int) == (k : Int)) : Bool) = (c == UInt8.ofNat k) := by
  by_cases h : c = UInt8.ofNat k
  · subst h
    simp only [beq_self_eq_true]
    simp [Nat.mod_eq_of_lt hk]
  · have h2 : (c == UInt8.ofNat k) = false := by simpa using h
    rw [h2]
    refine beq_eq_false_iff_ne.2 fun e => h ?_
    apply UInt8.toNat_inj.1
    simp [Nat.mod_eq_of_lt hk]
    omega
theorem u8_beq (c d : UInt8) : (((c.toNat : Int) == (d.toNat : Int)) : Bool) = (c == d) := by
  by_cases h : c = d
  · subst h; simp
  · have h2 : (c == d) = false := by simpa using h
    rw [h2]
    exact beq_eq_false_iff_ne.2 fun e => h (UInt8.toNat_inj.1 (by omega))
theorem u8_42 (c : UInt8) : (((c.toNat : Int) == 42) : Bool) = (c == 42) := u8_lit c 42 (by decide)
theorem u8_63 (c : UInt8) : (((c.toNat : Int) == 63) : Bool) = (c == 63) := u8_lit c 63 (by decide)

/-! Rows -/

def starR (r : Nat → Bool) : Nat → Bool
  | 0 => r 0
  | i + 1 => r (i + 1) || starR r i
def oneR (r f : Nat → Bool) : Nat → Bool
  | 0 => false
  | i + 1 => r i && f i
def stepR (c : UInt8) (s : List UInt8) (r : Nat → Bool) : Nat → Bool := if c = 42 then starR r else oneR r fun i => c == 63 || c == s.getD i 0
def globR (s : List UInt8) : List UInt8 → (Nat → Bool) → Nat → Bool
  | [], r => r
  | c :: p, r => globR s p (stepR c s r)
def row0 : Nat → Bool
  | 0 => true
  | _ + 1 => false
/-- Does an element of a path match an element with ? and *? -/
def globV (p s : List UInt8) : Bool := globR s p row0 s.length

/-- A row of Booleans. -/
abbrev bR (r : Nat → Bool) : Nat → DVal := fun i => .bool (r i)

theorem bR_row0 : bR row0 = upd (fun _ => DVal.bool false) 0 (.bool true) := by
  funext i
  cases i <;> simp [row0, upd, bR]

section
variable {n : Nat} {p s : List UInt8} (hs : s.length < 100000)
include hs

theorem l52_0 {k : Nat} {c : UInt8} (hk : p[k]? = some c) (hkl : k < 100000) (r : Nat → Bool) {can nx : Nat} {σ : Sto} (hcan : σ.obj can = arrD (s.length + 1) (bR r)) (hc : can < σ.nobj) (hx : nx < σ.nobj) (hne : can ≠ nx) :
    ∀ (j i m : Nat), i + j = s.length + 1 → j < m →
    iterJ 1 (L52_0 (cpJ PR n) (ciJ PR n) n (.str p) (.str s) (.int .i64 k) (.mslice can 0 (s.length + 1) (s.length + 1)) (.mslice nx 0 (s.length + 1) (s.length + 1)) (.int .i64 ((s.length + 1 : Nat) : Int))) m [.int .i64 i]
      (σ.put nx (arrD (s.length + 1) (upto i (bR (stepR c s r)) fun _ => .bool false))) =
      some (.next 0 [.int .i64 ((k + 1 : Nat) : Int), .mslice nx 0 (s.length + 1) (s.length + 1)] (σ.put nx (arrD (s.length + 1) (bR (stepR c s r))))) := by
  intro j
  induction j with
  | zero =>
    intro i m hi hm
    obtain ⟨m, rfl⟩ : ∃ q, m = q + 1 := ⟨m - 1, by omega⟩
    obtain rfl : i = s.length + 1 := by omega
    have hw := wrap_succ (i := k) (by omega)
    rw [arr_upto]
    refine iterJ_out ?_ (by decide)
    simp -implicitDefEqProofs [L52_0, B52_0]
    simpa using hw
  | succ j ih =>
    intro i m hi hm
    obtain ⟨m, rfl⟩ : ∃ q, m = q + 1 := ⟨m - 1, by omega⟩
    have hil : i < s.length + 1 := by omega
    have hi' : ((i : Int) < ((s.length + 1 : Nat) : Int)) := by omega
    have hw := wrap_succ (i := i) (by omega)
    have hk' : p[(k : Int).toNat]? = some c := by simpa using hk
    have hstep : ∀ (σ' : Sto), σ' = σ.put nx (arrD (s.length + 1) (upto i (bR (stepR c s r)) fun _ => .bool false)) →
        L52_0 (cpJ PR n) (ciJ PR n) n (.str p) (.str s) (.int .i64 k) (.mslice can 0 (s.length + 1) (s.length + 1)) (.mslice nx 0 (s.length + 1) (s.length + 1)) (.int .i64 ((s.length + 1 : Nat) : Int)) [.int .i64 i] σ' =
        some (.next 1 [.int .i64 ((i + 1 : Nat) : Int)] (σ.put nx (arrD (s.length + 1) (upto (i + 1) (bR (stepR c s r)) fun _ => .bool false)))) := by
      intro σ' hσ
      have hcan' : σ'.obj can = arrD (s.length + 1) (bR r) := by rw [hσ, Sto.put_obj_ne hne, hcan]
      have hnx' : σ'.obj nx = arrD (s.length + 1) (upto i (bR (stepR c s r)) fun _ => .bool false) := by rw [hσ, Sto.put_obj]
      have hc' : can < σ'.nobj := by rw [hσ]; exact hc
      have hx' : nx < σ'.nobj := by rw [hσ]; exact hx
      have g1 := idx_ms (k := .i64) (id := can) (cap := s.length + 1) hil
      have g2 : ldOSem σ' none [.obj can i] = some (.bool (r i), σ') := ld_arr hcan' hc' hil
      have g3 := idx_ms (k := .i64) (id := nx) (cap := s.length + 1) hil
      have g4 : ∀ b : Bool, b = stepR c s r i → stOSem σ' 1 [.obj nx i, .bool b] = some (.undef, σ.put nx (arrD (s.length + 1) (upto (i + 1) (bR (stepR c s r)) fun _ => .bool false))) := by
        rintro b rfl
        have := st_arr (v := .bool (stepR c s r i)) hnx' hx' hil rfl rfl
        rw [this, hσ, Sto.put_put, ← upto_succ]
      have hst : stepR c s r = if c = 42 then starR r else oneR r fun i => c == 63 || c == s.getD i 0 := rfl
      by_cases h42 : c = 42
      · subst h42
        simp only [if_true] at hst
        cases i with
        | zero =>
          have h4 := g4 (r 0) (by rw [hst]; rfl)
          simp only [Int.natCast_zero] at g1 g3 hi'
          cases hr : r 0 <;> rw [hr] at h4 <;> simp -implicitDefEqProofs [L52_0, B52_0, hi', hk, u8_42, g1, g2, hr, g3, h4] <;> simpa using hw
        | succ i =>
          have hp : IntKind.i64.wrap (i : Int) = i := wrap_i64 (by omega) (by omega)
          have hil2 : i < s.length + 1 := by omega
          have hil3 : (i : Int) < (s.length : Int) + 1 := by omega
          have g6 : ldOSem σ' none [.obj nx i] = some (.bool (stepR 42 s r i), σ') := by
            have := ld_arr hnx' hx' hil2
            rwa [upto_lt _ _ (by omega)] at this
          have hpos : (0 : Int) < (i : Int) + 1 := by omega
          have h4 := g4 (r (i + 1) || stepR 42 s r i) (by rw [hst]; rfl)
          simp only [Int.natCast_add, Int.natCast_one] at g1 g3 hi' hw
          cases hr : r (i + 1)
          · cases hr2 : stepR 42 s r i <;> rw [hr, hr2] at h4 <;> simp only [Bool.or_true, Bool.or_false] at h4 <;> simp -implicitDefEqProofs [L52_0, B52_0, hi', hk, u8_42, g1, g2, hr, g3, h4, hp, hil3, g6, hr2, hpos] <;> simpa using hw
          · rw [hr] at h4
            simp only [Bool.true_or, Bool.false_and] at h4
            simp -implicitDefEqProofs [L52_0, B52_0, hi', hk, u8_42, g1, g2, hr, g3, h4, hp, hil3, g6, hpos] <;> simpa using hw
      · have h42' : (c == 42) = false := by simpa using h42
        rw [if_neg h42] at hst
        cases i with
        | zero =>
          simp only [Int.natCast_zero] at g1 g3 hi'
          have : stepR c s r 0 = false := by rw [hst]; rfl
          have e : σ' = σ.put nx (arrD (s.length + 1) (upto 1 (bR (stepR c s r)) fun _ => .bool false)) := by
            rw [hσ]
            congr 2
            rw [← upto_succ]
            funext j
            by_cases hj : j = 0
            · subst hj; simp [upto, upd, bR, this]
            · simp [upto, upd, hj]
          rw [← e]
          simp -implicitDefEqProofs [L52_0, B52_0, hi', hk, u8_42, h42']
          simpa using hw
        | succ i =>
          have hp : IntKind.i64.wrap (i : Int) = i := wrap_i64 (by omega) (by omega)
          have hil2 : i < s.length + 1 := by omega
          have hil3 : (i : Int) < (s.length : Int) + 1 := by omega
          have g6 : ldOSem σ' none [.obj can i] = some (.bool (r i), σ') := ld_arr hcan' hc' hil2
          have hpos : (0 : Int) < (i : Int) + 1 := by omega
          obtain ⟨x, hx1⟩ := get_some (by omega : i < s.length)
          have hx2 : s.getD i 0 = x := by simp [List.getD_eq_getElem?_getD, hx1]
          have h4 := g4 (r i && (c == 63 || c == x)) (by rw [hst, ← hx2]; rfl)
          simp only [Int.natCast_add, Int.natCast_one] at g1 g3 hi' hw
          cases hr : r i
          · rw [hr] at h4
            simp only [Bool.true_or, Bool.false_and] at h4
            simp -implicitDefEqProofs [L52_0, B52_0, hi', hk, u8_42, h42', g3, h4, hp, hil3, g6, hr, hpos]
            simpa using hw
          · cases h63 : (c == 63) <;> cases hcx : (c == x) <;> rw [hr, h63, hcx] at h4 <;> simp only [Bool.or_true, Bool.or_false, Bool.and_true, Bool.and_false] at h4 <;>
              simp -implicitDefEqProofs [L52_0, B52_0, hi', hk, u8_42, u8_63, u8_beq, h42', g3, h4, hp, hil3, g6, hr, hpos, h63, hcx, hx1] <;> simpa using hw
    rw [iterJ_next' (hstep _ rfl)]
    exact ih (i + 1) m (by omega) (by omega)

theorem l52_1 (hp : p.length < 100000) (hn : 100010 ≤ n) : ∀ (j k m : Nat) (r : Nat → Bool) (can : Nat) (σ : Sto), k + j = p.length → j < m → σ.obj can = arrD (s.length + 1) (bR r) → can < σ.nobj →
    ∃ σ', iterJ 0 (L52_1 (cpJ PR n) (ciJ PR n) n (.str p) (.str s) (.int .i64 p.length)) m [.int .i64 k, .mslice can 0 (s.length + 1) (s.length + 1)] σ = some (.done (.bool (globR s (p.drop k) r s.length)) σ') := by
  intro j
  induction j with
  | zero =>
    intro k m r can σ hk hm ho hc
    obtain ⟨m, rfl⟩ : ∃ q, m = q + 1 := ⟨m - 1, by omega⟩
    have hk' : ¬ ((k : Int) < p.length) := by omega
    have g1 := idx_ms (k := .i64) (id := can) (cap := s.length + 1) (n := s.length + 1) (i := s.length) (by omega)
    have g2 : ldOSem σ none [.obj can s.length] = some (.bool (r s.length), σ) := ld_arr ho hc (by omega)
    refine ⟨σ, iterJ_done ?_⟩
    rw [List.drop_eq_nil_of_le (by omega)]
    simp -implicitDefEqProofs [L52_1, B52_1, hk', g1, g2, globR]
  | succ j ih =>
    intro k m r can σ hk hm ho hc
    obtain ⟨m, rfl⟩ : ∃ q, m = q + 1 := ⟨m - 1, by omega⟩
    have hk' : ((k : Int) < p.length) := by omega
    obtain ⟨c, hkc⟩ := get_some (by omega : k < p.length)
    have hw := wrap_succ (i := s.length) (by omega)
    have g1 := make_arr (σ := σ) (z := .bool false) (n := s.length + 1) (by omega)
    have g2 := l52_0 (n := n) hs hkc (by omega) r (can := can) (nx := σ.nobj) (σ := σ.new (arrD (s.length + 1) fun _ => .bool false)) (by rw [Sto.new_obj_ne hc, ho]) (by simp; omega) (by simp) (by omega) (s.length + 1) 0 n (by omega) (by omega)
    rw [upto_zero, Sto.new_put, Sto.new_put] at g2
    obtain ⟨σ', h⟩ := ih (k + 1) m (stepR c s r) σ.nobj (σ.new (arrD (s.length + 1) (bR (stepR c s r)))) (by omega) (by omega) Sto.new_obj (by simp)
    refine ⟨σ', ?_⟩
    rw [iterJ_next' (vs' := [.int .i64 ((k + 1 : Nat) : Int), .mslice σ.nobj 0 (s.length + 1) (s.length + 1)]) (σ' := σ.new (arrD (s.length + 1) (bR (stepR c s r)))), h, drop_get hkc]
    · rfl
    · simp only [Int.natCast_add, Int.natCast_one, Int.natCast_zero] at g1 g2 hw
      simp -implicitDefEqProofs [L52_1, B52_1, hk', hw, g1, len_ms, g2]

theorem e52 (hp : p.length < 100000) (hn : 100020 ≤ n) : cpJ PR n 52 [.str p, .str s] = some (.bool (globV p s)) := by
  obtain ⟨n, rfl⟩ : ∃ m, n = m + 1 := ⟨n - 1, by omega⟩
  have hw := wrap_succ (i := s.length) (by omega)
  have g1 := make_arr (σ := emptySto) (z := .bool false) (n := s.length + 1) (by omega)
  have g2 := idx_ms (k := .i64) (id := emptySto.nobj) (cap := s.length + 1) (n := s.length + 1) (i := 0) (by omega)
  have g3 := st_arr (σ := emptySto.new (arrD (s.length + 1) fun _ => .bool false)) (id := emptySto.nobj) (n := s.length + 1) (i := 0) (v := .bool true) Sto.new_obj (by simp) (by omega) rfl rfl
  rw [Sto.new_put, ← bR_row0] at g3
  obtain ⟨σ', h⟩ := l52_1 (n := n) hs hp (by omega) p.length 0 n row0 emptySto.nobj (emptySto.new (arrD (s.length + 1) (bR row0))) (by omega) (by omega) Sto.new_obj (by simp)
  rw [u52]
  simp only [Int.natCast_add, Int.natCast_one, Int.natCast_zero, List.drop_zero] at g1 g2 g3 h hw
  simp -implicitDefEqProofs [D52, hw, g1, g2, g3, h, globV]

theorem l39_0 {k : Nat} {c : UInt8} (hk : p[k]? = some c) (hkl : k < 100000) (r : Nat → Bool) {can nx : Nat} {σ : Sto} (hcan : σ.obj can = arrD (s.length + 1) (bR r)) (hc : can < σ.nobj) (hx : nx < σ.nobj) (hne : can ≠ nx) :
    ∀ (j i m : Nat), i + j = s.length + 1 → j < m →
    iterJ 1 (L39_0 (cpJ PR n) (ciJ PR n) n (.str p) (.str s) (.int .i64 k) (.mslice can 0 (s.length + 1) (s.length + 1)) (.mslice nx 0 (s.length + 1) (s.length + 1))) m [.int .i64 i]
      (σ.put nx (arrD (s.length + 1) (upto i (bR (stepR c s r)) fun _ => .bool false))) =
      some (.next 0 [.int .i64 ((k + 1 : Nat) : Int), .mslice nx 0 (s.length + 1) (s.length + 1)] (σ.put nx (arrD (s.length + 1) (bR (stepR c s r))))) := by
  intro j
  induction j with
  | zero =>
    intro i m hi hm
    obtain ⟨m, rfl⟩ : ∃ q, m = q + 1 := ⟨m - 1, by omega⟩
    obtain rfl : i = s.length + 1 := by omega
    have hw := wrap_succ (i := k) (by omega)
    have hi' : ¬ (((s.length + 1 : Nat) : Int) ≤ s.length) := by omega
    simp only [Int.natCast_add, Int.natCast_one] at hi'
    rw [arr_upto]
    refine iterJ_out ?_ (by decide)
    simp -implicitDefEqProofs [L39_0, B39_0, hi']
    simpa using hw
  | succ j ih =>
    intro i m hi hm
    obtain ⟨m, rfl⟩ : ∃ q, m = q + 1 := ⟨m - 1, by omega⟩
    have hil : i < s.length + 1 := by omega
    have hi' : (i : Int) ≤ s.length := by omega
    have hw := wrap_succ (i := i) (by omega)
    have hk' : p[(k : Int).toNat]? = some c := by simpa using hk
    have hstep : ∀ (σ' : Sto), σ' = σ.put nx (arrD (s.length + 1) (upto i (bR (stepR c s r)) fun _ => .bool false)) →
        L39_0 (cpJ PR n) (ciJ PR n) n (.str p) (.str s) (.int .i64 k) (.mslice can 0 (s.length + 1) (s.length + 1)) (.mslice nx 0 (s.length + 1) (s.length + 1)) [.int .i64 i] σ' =
        some (.next 1 [.int .i64 ((i + 1 : Nat) : Int)] (σ.put nx (arrD (s.length + 1) (upto (i + 1) (bR (stepR c s r)) fun _ => .bool false)))) := by
      intro σ' hσ
      have hcan' : σ'.obj can = arrD (s.length + 1) (bR r) := by rw [hσ, Sto.put_obj_ne hne, hcan]
      have hnx' : σ'.obj nx = arrD (s.length + 1) (upto i (bR (stepR c s r)) fun _ => .bool false) := by rw [hσ, Sto.put_obj]
      have hc' : can < σ'.nobj := by rw [hσ]; exact hc
      have hx' : nx < σ'.nobj := by rw [hσ]; exact hx
      have g1 := idx_ms (k := .i64) (id := can) (cap := s.length + 1) hil
      have g2 : ldOSem σ' none [.obj can i] = some (.bool (r i), σ') := ld_arr hcan' hc' hil
      have g3 := idx_ms (k := .i64) (id := nx) (cap := s.length + 1) hil
      have g4 : ∀ b : Bool, b = stepR c s r i → stOSem σ' 1 [.obj nx i, .bool b] = some (.undef, σ.put nx (arrD (s.length + 1) (upto (i + 1) (bR (stepR c s r)) fun _ => .bool false))) := by
        rintro b rfl
        have := st_arr (v := .bool (stepR c s r i)) hnx' hx' hil rfl rfl
        rw [this, hσ, Sto.put_put, ← upto_succ]
      have hst : stepR c s r = if c = 42 then starR r else oneR r fun i => c == 63 || c == s.getD i 0 := rfl
      by_cases h42 : c = 42
      · subst h42
        simp only [if_true] at hst
        cases i with
        | zero =>
          have h4 := g4 (r 0) (by rw [hst]; rfl)
          simp only [Int.natCast_zero] at g1 g3 hi'
          cases hr : r 0 <;> rw [hr] at h4 <;> simp -implicitDefEqProofs [L39_0, B39_0, hi', hk, u8_42, g1, g2, hr, g3, h4] <;> simpa using hw
        | succ i =>
          have hp : IntKind.i64.wrap (i : Int) = i := wrap_i64 (by omega) (by omega)
          have hil2 : i < s.length + 1 := by omega
          have hil3 : (i : Int) < (s.length : Int) + 1 := by omega
          have g6 : ldOSem σ' none [.obj nx i] = some (.bool (stepR 42 s r i), σ') := by
            have := ld_arr hnx' hx' hil2
            rwa [upto_lt _ _ (by omega)] at this
          have hpos : (0 : Int) < (i : Int) + 1 := by omega
          have h4 := g4 (r (i + 1) || stepR 42 s r i) (by rw [hst]; rfl)
          simp only [Int.natCast_add, Int.natCast_one] at g1 g3 hi' hw
          cases hr : r (i + 1)
          · cases hr2 : stepR 42 s r i <;> rw [hr, hr2] at h4 <;> simp only [Bool.or_true, Bool.or_false] at h4 <;> simp -implicitDefEqProofs [L39_0, B39_0, hi', hk, u8_42, g1, g2, hr, g3, h4, hp, hil3, g6, hr2, hpos] <;> simpa using hw
          · rw [hr] at h4
            simp only [Bool.true_or, Bool.false_and] at h4
            simp -implicitDefEqProofs [L39_0, B39_0, hi', hk, u8_42, g1, g2, hr, g3, h4, hp, hil3, g6, hpos] <;> simpa using hw
      · have h42' : (c == 42) = false := by simpa using h42
        rw [if_neg h42] at hst
        cases i with
        | zero =>
          simp only [Int.natCast_zero] at g1 g3 hi'
          have : stepR c s r 0 = false := by rw [hst]; rfl
          have h4 := g4 false this.symm
          simp -implicitDefEqProofs [L39_0, B39_0, hi', hk, u8_42, h42', g3, h4]
          simpa using hw
        | succ i =>
          have hp : IntKind.i64.wrap (i : Int) = i := wrap_i64 (by omega) (by omega)
          have hil2 : i < s.length + 1 := by omega
          have hil3 : (i : Int) < (s.length : Int) + 1 := by omega
          have g6 : ldOSem σ' none [.obj can i] = some (.bool (r i), σ') := ld_arr hcan' hc' hil2
          have hpos : (0 : Int) < (i : Int) + 1 := by omega
          obtain ⟨x, hx1⟩ := get_some (by omega : i < s.length)
          have hx2 : s.getD i 0 = x := by simp [List.getD_eq_getElem?_getD, hx1]
          have h4 := g4 (r i && (c == 63 || c == x)) (by rw [hst, ← hx2]; rfl)
          simp only [Int.natCast_add, Int.natCast_one] at g1 g3 hi' hw
          cases hr : r i
          · rw [hr] at h4
            simp only [Bool.true_or, Bool.false_and] at h4
            simp -implicitDefEqProofs [L39_0, B39_0, hi', hk, u8_42, h42', g3, h4, hp, hil3, g6, hr, hpos]
            simpa using hw
          · cases h63 : (c == 63) <;> cases hcx : (c == x) <;> rw [hr, h63, hcx] at h4 <;> simp only [Bool.or_true, Bool.or_false, Bool.and_true, Bool.and_false] at h4 <;>
              simp -implicitDefEqProofs [L39_0, B39_0, hi', hk, u8_42, u8_63, u8_beq, h42', g3, h4, hp, hil3, g6, hr, hpos, h63, hcx, hx1] <;> simpa using hw
    rw [iterJ_next' (hstep _ rfl)]
    exact ih (i + 1) m (by omega) (by omega)

theorem l39_1 (hp : p.length < 100000) (hn : 100010 ≤ n) : ∀ (j k m : Nat) (r : Nat → Bool) (can : Nat) (σ : Sto), k + j = p.length → j < m → σ.obj can = arrD (s.length + 1) (bR r) → can < σ.nobj →
    ∃ σ', iterJ 0 (L39_1 (cpJ PR n) (ciJ PR n) n (.str p) (.str s)) m [.int .i64 k, .mslice can 0 (s.length + 1) (s.length + 1)] σ = some (.done (.bool (globR s (p.drop k) r s.length)) σ') := by
  intro j
  induction j with
  | zero =>
    intro k m r can σ hk hm ho hc
    obtain ⟨m, rfl⟩ : ∃ q, m = q + 1 := ⟨m - 1, by omega⟩
    have hk' : ¬ ((k : Int) < p.length) := by omega
    have g1 := idx_ms (k := .i64) (id := can) (cap := s.length + 1) (n := s.length + 1) (i := s.length) (by omega)
    have g2 : ldOSem σ none [.obj can s.length] = some (.bool (r s.length), σ) := ld_arr ho hc (by omega)
    refine ⟨σ, iterJ_done ?_⟩
    rw [List.drop_eq_nil_of_le (by omega)]
    simp -implicitDefEqProofs [L39_1, B39_1, hk', g1, g2, globR]
  | succ j ih =>
    intro k m r can σ hk hm ho hc
    obtain ⟨m, rfl⟩ : ∃ q, m = q + 1 := ⟨m - 1, by omega⟩
    have hk' : ((k : Int) < p.length) := by omega
    obtain ⟨c, hkc⟩ := get_some (by omega : k < p.length)
    have hw := wrap_succ (i := s.length) (by omega)
    have g1 := make_arr (σ := σ) (z := .bool false) (n := s.length + 1) (by omega)
    have g2 := l39_0 (n := n) hs hkc (by omega) r (can := can) (nx := σ.nobj) (σ := σ.new (arrD (s.length + 1) fun _ => .bool false)) (by rw [Sto.new_obj_ne hc, ho]) (by simp; omega) (by simp) (by omega) (s.length + 1) 0 n (by omega) (by omega)
    rw [upto_zero, Sto.new_put, Sto.new_put] at g2
    obtain ⟨σ', h⟩ := ih (k + 1) m (stepR c s r) σ.nobj (σ.new (arrD (s.length + 1) (bR (stepR c s r)))) (by omega) (by omega) Sto.new_obj (by simp)
    refine ⟨σ', ?_⟩
    rw [iterJ_next' (vs' := [.int .i64 ((k + 1 : Nat) : Int), .mslice σ.nobj 0 (s.length + 1) (s.length + 1)]) (σ' := σ.new (arrD (s.length + 1) (bR (stepR c s r)))), h, drop_get hkc]
    · rfl
    · simp only [Int.natCast_add, Int.natCast_one, Int.natCast_zero] at g1 g2 hw
      simp -implicitDefEqProofs [L39_1, B39_1, hk', hw, g1, len_ms, g2]

theorem e39 (hp : p.length < 100000) (hn : 100020 ≤ n) : cpJ PR n 39 [.str p, .str s] = some (.bool (globV p s)) := by
  obtain ⟨n, rfl⟩ : ∃ m, n = m + 1 := ⟨n - 1, by omega⟩
  have hw := wrap_succ (i := s.length) (by omega)
  have g1 := make_arr (σ := emptySto) (z := .bool false) (n := s.length + 1) (by omega)
  have g2 := idx_ms (k := .i64) (id := emptySto.nobj) (cap := s.length + 1) (n := s.length + 1) (i := 0) (by omega)
  have g3 := st_arr (σ := emptySto.new (arrD (s.length + 1) fun _ => .bool false)) (id := emptySto.nobj) (n := s.length + 1) (i := 0) (v := .bool true) Sto.new_obj (by simp) (by omega) rfl rfl
  rw [Sto.new_put, ← bR_row0] at g3
  obtain ⟨σ', h⟩ := l39_1 (n := n) hs hp (by omega) p.length 0 n row0 emptySto.nobj (emptySto.new (arrD (s.length + 1) (bR row0))) (by omega) (by omega) Sto.new_obj (by simp)
  rw [u39]
  simp only [Int.natCast_add, Int.natCast_one, Int.natCast_zero, List.drop_zero] at g1 g2 g3 h hw
  simp -implicitDefEqProofs [D39, hw, g1, g2, g3, h, globV]

end

end Go.Proofs.YtdnoonnanhnkaaaDoor
