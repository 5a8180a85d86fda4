/- Texts of this proof, part 7: see the card for what is proved. -/
import Derived.Test.YtdibpeknpmhknaaGreatSq06
import Derived.Lib.DecodeN
set_option linter.unusedVariables false
set_option linter.unusedSimpArgs false
set_option maxRecDepth 20000
set_option maxHeartbeats 8000000
namespace Go.Proofs.YtdibpeknpmhknaaGreat
open Go
def QH {α : Type} (f : α → Bool) : List α → Nat → Int
 | [], _ => -1
 | x :: l, i => if f x then (i : Int) else QH f l (i + 1)
theorem Wn {α : Type} (f : α → Bool) : ∀ (l : List α) (i : Nat), (QH f l i = -1 ∧ ∀ x ∈ l, f x = false) ∨ ∃ j x, QH f l i = ((i + j : Nat) : Int) ∧ l[j]? = some x ∧ f x = true ∧ ∀ y ∈ l.take j, f y = false
 | [], i => .inl ⟨rfl, by simp⟩
 | x :: l, i => by
  by_cases h : f x = true
  ·exact .inr ⟨0, x, by simp [QH, h], rfl, h, by simp⟩
  ·have h' : f x = false := by simpa using h
   rcases Wn f l (i + 1) with ⟨h1, h2⟩ | ⟨j, y, h1, h2, h3, h4⟩
   ·exact .inl ⟨by simp [QH, h', h1], by simpa [h'] using h2⟩
   ·refine .inr ⟨j + 1, y, ?_, by simpa using h2, h3, by simpa [h'] using h4⟩
    simp only [QH, h', Bool.false_eq_true, if_false, h1]
    congr 1
    omega
def Y_ (s : Bs) (u : QU) : Bool := u.name == s
def Wa (s : Bs) (r : QQ) : Bool := r.name == s
def Yo (s : Bs) (t : Q9) : Bool := t.name == s || decide (s ∈ t.aliases.l)
section
variable {s : Bs} {a : Nat} {σ : Sto} (ho : σ.obj a = .agg [.str s]) (ha : a < σ.nobj)
include ho ha
theorem ld_name : Q8 σ none [.obj a 0] = some (.str s, σ) := by
 rw [Yl none ho ha]; rfl
theorem e135 {n : Nat} (hn : 1 ≤ n) (u : QU) : ciJ PR n 135 [u.d, .obj a 0] σ = some (.bool (Y_ s u), σ) := by
 obtain ⟨n, rfl⟩ : ∃ m, n = m + 1 := ⟨n - 1, by omega⟩
 have h1 := ld_name ho ha
 rw [v135]
 simp -implicitDefEqProofs [D135, h1, Y_]
theorem e137 {n : Nat} (hn : 1 ≤ n) (u : QQ) : ciJ PR n 137 [u.d, .obj a 0] σ = some (.bool (Wa s u), σ) := by
 obtain ⟨n, rfl⟩ : ∃ m, n = m + 1 := ⟨n - 1, by omega⟩
 have h1 := ld_name ho ha
 rw [v137]
 simp -implicitDefEqProofs [D137, h1, Wa]
theorem e139 {n : Nat} (t : Q9) (hl : t.aliases.l.length ≤ 100) (hn : 200 ≤ n) : ciJ PR n 139 [t.d, .obj a 0] σ = some (.bool (Yo s t), σ) := by
 obtain ⟨n, rfl⟩ : ∃ m, n = m + 1 := ⟨n - 1, by omega⟩
 have h1 := ld_name ho ha
 have h2 : cpJ PR n 140 [Z1 t.aliases, .str s] = some (.bool (decide (s ∈ t.aliases.l))) := e140 (n := n) t.aliases.z t.aliases.l s (by omega) (by omega)
 rw [v139]
 cases h : (t.name == s) <;> simp -implicitDefEqProofs [D139, h1, h2, Yo, h, -beq_iff_eq, -beq_eq_false_iff_ne]
theorem l134 {n : Nat} (hn : 1 ≤ n) (us : Sl QU) (hl : us.l.length ≤ 1000) : ∀ (k i m : Nat) (w : Qa), i + k = us.l.length → k < m →
  Qv 0 (El (cpJ PR n) (ciJ PR n) n (QJ 11 QU.row us) (.func 135 [.obj a 0]) (.int .i64 us.l.length)) m [.int .i64 i, w] σ = some (.done (.int .i64 (QH (Y_ s) (us.l.drop i) i)) σ) := by
 intro k
 induction k with
 | zero =>
  intro i m w hi hm
  obtain ⟨m, rfl⟩ : ∃ j, m = j + 1 := ⟨m - 1, by omega⟩
  have hi' : ¬ ((i : Int) < us.l.length) := by omega
  rw [List.drop_eq_nil_of_le (by omega)]
  refine Qt ?_
  simp -implicitDefEqProofs [El, B134_0, hi', QH]
 | succ k ih =>
  intro i m w hi hm
  obtain ⟨m, rfl⟩ : ∃ j, m = j + 1 := ⟨m - 1, by omega⟩
  have hi' : ((i : Int) < us.l.length) := by omega
  obtain ⟨x, hx⟩ := Qz (by omega : i < us.l.length)
  have hwr := QT (by omega : i < us.l.length) (by unfold maxLen; omega)
  have h1 := e135 ho ha hn x
  rw [QY hx, QH]
  cases hf : Y_ s x <;> rw [hf] at h1
  ·simp only [Bool.false_eq_true, if_false]
   rw [← ih (i + 1) m w (by omega) (by omega)]
   refine Qx ?_
   simp -implicitDefEqProofs [El, B134_0, hi', hx, hwr, h1]
  ·refine Qt ?_
   simp -implicitDefEqProofs [El, B134_0, hi', hx, hwr, h1]
theorem l136 {n : Nat} (hn : 1 ≤ n) (us : Sl QQ) (hl : us.l.length ≤ 1000) : ∀ (k i m : Nat) (w : Qa), i + k = us.l.length → k < m →
  Qv 0 (Hq (cpJ PR n) (ciJ PR n) n (QJ 9 QQ.row us) (.func 137 [.obj a 0]) (.int .i64 us.l.length)) m [.int .i64 i, w] σ = some (.done (.int .i64 (QH (Wa s) (us.l.drop i) i)) σ) := by
 intro k
 induction k with
 | zero =>
  intro i m w hi hm
  obtain ⟨m, rfl⟩ : ∃ j, m = j + 1 := ⟨m - 1, by omega⟩
  have hi' : ¬ ((i : Int) < us.l.length) := by omega
  rw [List.drop_eq_nil_of_le (by omega)]
  refine Qt ?_
  simp -implicitDefEqProofs [Hq, B136_0, hi', QH]
 | succ k ih =>
  intro i m w hi hm
  obtain ⟨m, rfl⟩ : ∃ j, m = j + 1 := ⟨m - 1, by omega⟩
  have hi' : ((i : Int) < us.l.length) := by omega
  obtain ⟨x, hx⟩ := Qz (by omega : i < us.l.length)
  have hwr := QT (by omega : i < us.l.length) (by unfold maxLen; omega)
  have h1 := e137 ho ha hn x
  rw [QY hx, QH]
  cases hf : Wa s x <;> rw [hf] at h1
  ·simp only [Bool.false_eq_true, if_false]
   rw [← ih (i + 1) m w (by omega) (by omega)]
   refine Qx ?_
   simp -implicitDefEqProofs [Hq, B136_0, hi', hx, hwr, h1]
  ·refine Qt ?_
   simp -implicitDefEqProofs [Hq, B136_0, hi', hx, hwr, h1]
theorem l138 {n : Nat} (hn : 200 ≤ n) (us : Sl Q9) (hl : us.l.length ≤ 1000) (hal : ∀ t ∈ us.l, t.aliases.l.length ≤ 4) : ∀ (k i m : Nat) (w : Qa), i + k = us.l.length → k < m →
  Qv 0 (E4 (cpJ PR n) (ciJ PR n) n (QJ 3 Q9.row us) (.func 139 [.obj a 0]) (.int .i64 us.l.length)) m [.int .i64 i, w] σ = some (.done (.int .i64 (QH (Yo s) (us.l.drop i) i)) σ) := by
 intro k
 induction k with
 | zero =>
  intro i m w hi hm
  obtain ⟨m, rfl⟩ : ∃ j, m = j + 1 := ⟨m - 1, by omega⟩
  have hi' : ¬ ((i : Int) < us.l.length) := by omega
  rw [List.drop_eq_nil_of_le (by omega)]
  refine Qt ?_
  simp -implicitDefEqProofs [E4, B138_0, hi', QH]
 | succ k ih =>
  intro i m w hi hm
  obtain ⟨m, rfl⟩ : ∃ j, m = j + 1 := ⟨m - 1, by omega⟩
  have hi' : ((i : Int) < us.l.length) := by omega
  obtain ⟨x, hx⟩ := Qz (by omega : i < us.l.length)
  have hwr := QT (by omega : i < us.l.length) (by unfold maxLen; omega)
  have h1 := e139 ho ha (n := n) x (by have := hal x (List.mem_of_getElem? hx); omega) hn
  rw [QY hx, QH]
  cases hf : Yo s x <;> rw [hf] at h1
  ·simp only [Bool.false_eq_true, if_false]
   rw [← ih (i + 1) m w (by omega) (by omega)]
   refine Qx ?_
   simp -implicitDefEqProofs [E4, B138_0, hi', hx, hwr, h1]
  ·refine Qt ?_
   simp -implicitDefEqProofs [E4, B138_0, hi', hx, hwr, h1]
end
theorem box_str (σ : Sto) (s : Bs) : Z2 σ [.str s] = some (.obj σ.nobj 0, σ.new (.agg [.str s])) := rfl
theorem e107 {n : Nat} (hn : 2000 ≤ n) (p : Qw) (hp : Zh p) (s : Bs) : cpJ PR n 107 [p.d, .str s] = some (.int .i64 (QH (Y_ s) p.users.l 0)) := by
 obtain ⟨n, rfl⟩ : ∃ m, n = m + 2 := ⟨n - 2, by omega⟩
 have hl := hp.users
 have h1 := l134 (n := n) (s := s) (a := Qd.nobj) (σ := Qd.new (.agg [.str s])) (by simp) (by simp) (by omega) p.users (by omega) p.users.l.length 0 n (.int .i64 0) (by omega) (by omega)
 simp only [Int.natCast_zero, List.drop_zero] at h1
 have h2 : ciJ PR (n + 1) 134 [QJ 11 QU.row p.users, .func 135 [.obj Qd.nobj 0]] (Qd.new (.agg [.str s])) = some (.int .i64 (QH (Y_ s) p.users.l 0), Qd.new (.agg [.str s])) := by
  rw [v134]
  simp -implicitDefEqProofs [D134, h1]
 rw [u107]
 simp -implicitDefEqProofs [D107, box_str, h2]
theorem e108 {n : Nat} (hn : 2000 ≤ n) (p : Qw) (hp : Zh p) (s : Bs) : cpJ PR n 108 [p.d, .str s] = some (.int .i64 (QH (Wa s) p.roles.l 0)) := by
 obtain ⟨n, rfl⟩ : ∃ m, n = m + 2 := ⟨n - 2, by omega⟩
 have hl := hp.roles
 have h1 := l136 (n := n) (s := s) (a := Qd.nobj) (σ := Qd.new (.agg [.str s])) (by simp) (by simp) (by omega) p.roles (by omega) p.roles.l.length 0 n (.int .i64 0) (by omega) (by omega)
 simp only [Int.natCast_zero, List.drop_zero] at h1
 have h2 : ciJ PR (n + 1) 136 [QJ 9 QQ.row p.roles, .func 137 [.obj Qd.nobj 0]] (Qd.new (.agg [.str s])) = some (.int .i64 (QH (Wa s) p.roles.l 0), Qd.new (.agg [.str s])) := by
  rw [v136]
  simp -implicitDefEqProofs [D136, h1]
 rw [u108]
 simp -implicitDefEqProofs [D108, box_str, h2]
theorem e109 {n : Nat} (hn : 2000 ≤ n) (p : Qw) (hp : Zh p) (s : Bs) : cpJ PR n 109 [p.d, .str s] = some (.int .i64 (QH (Yo s) p.types.l 0)) := by
 obtain ⟨n, rfl⟩ : ∃ m, n = m + 2 := ⟨n - 2, by omega⟩
 have hl := hp.types
 have h1 := l138 (n := n) (s := s) (a := Qd.nobj) (σ := Qd.new (.agg [.str s])) (by simp) (by simp) (by omega) p.types (by omega) hp.aliases p.types.l.length 0 n (.int .i64 0) (by omega) (by omega)
 simp only [Int.natCast_zero, List.drop_zero] at h1
 have h2 : ciJ PR (n + 1) 138 [QJ 3 Q9.row p.types, .func 139 [.obj Qd.nobj 0]] (Qd.new (.agg [.str s])) = some (.int .i64 (QH (Yo s) p.types.l 0), Qd.new (.agg [.str s])) := by
  rw [v138]
  simp -implicitDefEqProofs [D138, h1]
 rw [u109]
 simp -implicitDefEqProofs [D109, box_str, h2]
def Vb (i : Int) : Qa := if i < 0 then .tup [.int .i64 0, .bool false] else .tup [.int .i64 i, .bool true]
@[simp] theorem back_refI (σ : Sto) (i : Int) : (Vb i).handBack σ = some (Vb i) := by unfold Vb; split <;> rfl
theorem US (i : Nat) : Vb (i : Int) = .tup [.int .i64 i, .bool true] := by rw [Vb, if_neg (by omega)]
theorem l142 {n : Nat} (s : Bs) (p : Qw) (hl : p.users.l.length ≤ 1000) (σ : Sto) : ∀ (k i m : Nat) (w x : Qa), i + k = p.users.l.length → k < m →
  Qv 0 (H_ (cpJ PR n) (ciJ PR n) n (.str s) p.d) m [.int .i64 i, w, x] σ = some (.done (Vb (QH (Y_ s) (p.users.l.drop i) i)) σ) := by
 intro k
 induction k with
 | zero =>
  intro i m w x hi hm
  obtain ⟨m, rfl⟩ : ∃ j, m = j + 1 := ⟨m - 1, by omega⟩
  have hi' : ¬ ((i : Int) < p.users.l.length) := by omega
  rw [List.drop_eq_nil_of_le (by omega)]
  refine Qt ?_
  simp -implicitDefEqProofs [H_, B142_0, hi', QH, Vb]
 | succ k ih =>
  intro i m w x hi hm
  obtain ⟨m, rfl⟩ : ∃ j, m = j + 1 := ⟨m - 1, by omega⟩
  have hi' : ((i : Int) < p.users.l.length) := by omega
  obtain ⟨y, hy⟩ := Qz (by omega : i < p.users.l.length)
  have hwr := QT (by omega : i < p.users.l.length) (by unfold maxLen; omega)
  rw [QY hy, QH]
  cases hf : Y_ s y
  ·have hf' : (y.name == s) = false := hf
   simp only [Bool.false_eq_true, if_false]
   rw [← ih (i + 1) m w x (by omega) (by omega)]
   refine Qx ?_
   simp -implicitDefEqProofs [H_, B142_0, hi', hy, hwr, hf', -beq_iff_eq, -beq_eq_false_iff_ne]
  ·have hf' : (y.name == s) = true := hf
   rw [if_pos rfl, US]
   refine Qt ?_
   simp -implicitDefEqProofs [H_, B142_0, hi', hy, hwr, hf', -beq_iff_eq, -beq_eq_false_iff_ne]
theorem l143 {n : Nat} (s : Bs) (p : Qw) (hl : p.roles.l.length ≤ 1000) (σ : Sto) : ∀ (k i m : Nat) (w x : Qa), i + k = p.roles.l.length → k < m →
  Qv 0 (Ee (cpJ PR n) (ciJ PR n) n (.str s) p.d) m [.int .i64 i, w, x] σ = some (.done (Vb (QH (Wa s) (p.roles.l.drop i) i)) σ) := by
 intro k
 induction k with
 | zero =>
  intro i m w x hi hm
  obtain ⟨m, rfl⟩ : ∃ j, m = j + 1 := ⟨m - 1, by omega⟩
  have hi' : ¬ ((i : Int) < p.roles.l.length) := by omega
  rw [List.drop_eq_nil_of_le (by omega)]
  refine Qt ?_
  simp -implicitDefEqProofs [Ee, B143_0, hi', QH, Vb]
 | succ k ih =>
  intro i m w x hi hm
  obtain ⟨m, rfl⟩ : ∃ j, m = j + 1 := ⟨m - 1, by omega⟩
  have hi' : ((i : Int) < p.roles.l.length) := by omega
  obtain ⟨y, hy⟩ := Qz (by omega : i < p.roles.l.length)
  have hwr := QT (by omega : i < p.roles.l.length) (by unfold maxLen; omega)
  rw [QY hy, QH]
  cases hf : Wa s y
  ·have hf' : (y.name == s) = false := hf
   simp only [Bool.false_eq_true, if_false]
   rw [← ih (i + 1) m w x (by omega) (by omega)]
   refine Qx ?_
   simp -implicitDefEqProofs [Ee, B143_0, hi', hy, hwr, hf', -beq_iff_eq, -beq_eq_false_iff_ne]
  ·have hf' : (y.name == s) = true := hf
   rw [if_pos rfl, US]
   refine Qt ?_
   simp -implicitDefEqProofs [Ee, B143_0, hi', hy, hwr, hf', -beq_iff_eq, -beq_eq_false_iff_ne]
theorem l159 {n : Nat} (z : Sl Bs) (s : Bs) (hl : z.l.length ≤ 1000) (σ : Sto) : ∀ (k i m : Nat) (w : Qa), i + k = z.l.length → k < m →
  Qv 0 (HA (cpJ PR n) (ciJ PR n) n (Z1 z) (.str s)) m [.int .i64 i, w] σ = some (.done (.int .i64 (Za s (z.l.drop i) i)) σ) := by
 intro k
 induction k with
 | zero =>
  intro i m w hi hm
  obtain ⟨m, rfl⟩ : ∃ j, m = j + 1 := ⟨m - 1, by omega⟩
  have hi' : ¬ ((i : Int) < z.l.length) := by omega
  rw [List.drop_eq_nil_of_le (by omega)]
  refine Qt ?_
  simp -implicitDefEqProofs [HA, B159_0, hi', Za]
 | succ k ih =>
  intro i m w hi hm
  obtain ⟨m, rfl⟩ : ∃ j, m = j + 1 := ⟨m - 1, by omega⟩
  have hi' : ((i : Int) < z.l.length) := by omega
  obtain ⟨y, hy⟩ := Qz (by omega : i < z.l.length)
  have hwr := QT (by omega : i < z.l.length) (by unfold maxLen; omega)
  rw [QY hy, Za]
  by_cases hf : y = s
  ·subst hf
   rw [if_pos rfl]
   refine Qt ?_
   simp -implicitDefEqProofs [HA, B159_0, hi', hy, hwr]
  ·rw [if_neg hf]
   rw [← ih (i + 1) m w (by omega) (by omega)]
   refine Qx ?_
   simp -implicitDefEqProofs [HA, B159_0, hi', hy, hwr, hf]
end Go.Proofs.YtdibpeknpmhknaaGreat
namespace Go.Proofs.YtdibpeknpmhknaaGreat
open Go
theorem e142 {n : Nat} (hn : 2000 ≤ n) (p : Qw) (hp : Zh p) (s : Bs) : cpJ PR n 142 [p.d, .str s] = some (Vb (QH (Y_ s) p.users.l 0)) := by
 obtain ⟨n, rfl⟩ : ∃ m, n = m + 1 := ⟨n - 1, by omega⟩
 have hl := hp.users
 have h1 := l142 (n := n) s p (by omega) Qd p.users.l.length 0 n (.bool false) (.int .i64 0) (by omega) (by omega)
 simp only [Int.natCast_zero, List.drop_zero] at h1
 rw [u142]
 simp -implicitDefEqProofs [D142, h1]
theorem e143 {n : Nat} (hn : 2000 ≤ n) (p : Qw) (hp : Zh p) (s : Bs) : cpJ PR n 143 [p.d, .str s] = some (Vb (QH (Wa s) p.roles.l 0)) := by
 obtain ⟨n, rfl⟩ : ∃ m, n = m + 1 := ⟨n - 1, by omega⟩
 have hl := hp.roles
 have h1 := l143 (n := n) s p (by omega) Qd p.roles.l.length 0 n (.bool false) (.int .i64 0) (by omega) (by omega)
 simp only [Int.natCast_zero, List.drop_zero] at h1
 rw [u143]
 simp -implicitDefEqProofs [D143, h1]
theorem e159 {n : Nat} (z : Sl Bs) (s : Bs) (hl : z.l.length ≤ 1000) (hn : 1100 ≤ n) : cpJ PR n 159 [Z1 z, .str s] = some (.int .i64 (Za s z.l 0)) := by
 obtain ⟨n, rfl⟩ : ∃ m, n = m + 1 := ⟨n - 1, by omega⟩
 have h1 := l159 (n := n) z s hl Qd z.l.length 0 n (.int .i64 0) (by omega) (by omega)
 simp only [Int.natCast_zero, List.drop_zero] at h1
 rw [u159]
 simp -implicitDefEqProofs [D159, h1]
def envD (p : Qw) : Qa := .agg [QJ 3 Q9.row p.types, QJ 5 Xv.row p.attrs]
theorem l144 {n : Nat} (hn : 1100 ≤ n) (s : Bs) (p : Qw) (hp : Zh p) (σ : Sto) : ∀ (k i m : Nat) (w x : Qa), i + k = p.types.l.length → k < m →
  Qv 0 (Gx (cpJ PR n) (ciJ PR n) n (.str s) (envD p)) m [.int .i64 i, w, x] σ = some (.done (Vb (QH (Yo s) (p.types.l.drop i) i)) σ) := by
 have hl := hp.types
 intro k
 induction k with
 | zero =>
  intro i m w x hi hm
  obtain ⟨m, rfl⟩ : ∃ j, m = j + 1 := ⟨m - 1, by omega⟩
  have hi' : ¬ ((i : Int) < p.types.l.length) := by omega
  rw [List.drop_eq_nil_of_le (by omega)]
  refine Qt ?_
  simp -implicitDefEqProofs [Gx, Hj, envD, hi', QH, Vb]
 | succ k ih =>
  intro i m w x hi hm
  obtain ⟨m, rfl⟩ : ∃ j, m = j + 1 := ⟨m - 1, by omega⟩
  have hi' : ((i : Int) < p.types.l.length) := by omega
  obtain ⟨y, hy⟩ := Qz (by omega : i < p.types.l.length)
  have hwr := QT (by omega : i < p.types.l.length) (by unfold maxLen; omega)
  have hal := hp.aliases y (List.mem_of_getElem? hy)
  have h1 := e159 (n := n) y.aliases s (by omega) hn
  have h2 := JN s y.aliases.l 0
  rw [QY hy, QH]
  by_cases hf : Yo s y = true
  ·rw [if_pos hf, US]
   refine Qt ?_
   cases hf' : (y.name == s)
   ·have h3 : s ∈ y.aliases.l := by simpa [Yo, hf'] using hf
    have h4 := h2.2 h3
    simp -implicitDefEqProofs [Gx, Hj, envD, hi', hy, hwr, hf', h1, h4, -beq_iff_eq, -beq_eq_false_iff_ne]
   ·simp -implicitDefEqProofs [Gx, Hj, envD, hi', hy, hwr, hf', -beq_iff_eq, -beq_eq_false_iff_ne]
  ·rw [if_neg hf, ← ih (i + 1) m w x (by omega) (by omega)]
   refine Qx ?_
   have hf' : (y.name == s) = false := by
    cases h : (y.name == s)
    ·rfl
    ·exact absurd (by simp [Yo, h]) hf
   have h3 : ¬ s ∈ y.aliases.l := λh=> hf (by simp [Yo, h])
   have h4 : ¬ 0 ≤ Za s y.aliases.l 0 := λh=> h3 (h2.1 h)
   simp -implicitDefEqProofs [Gx, Hj, envD, hi', hy, hwr, hf', h1, h4, -beq_iff_eq, -beq_eq_false_iff_ne]
theorem e144 {n : Nat} (hn : 2000 ≤ n) (p : Qw) (hp : Zh p) (s : Bs) : cpJ PR n 144 [.str s, .agg [QJ 3 Q9.row p.types, QJ 5 Xv.row p.attrs]] = some (Vb (QH (Yo s) p.types.l 0)) := by
 obtain ⟨n, rfl⟩ : ∃ m, n = m + 1 := ⟨n - 1, by omega⟩
 have hl := hp.types
 have h1 := l144 (n := n) (by omega) s p hp Qd p.types.l.length 0 n (.bool false) (.int .i64 0) (by omega) (by omega)
 simp only [Int.natCast_zero, List.drop_zero] at h1
 unfold envD at h1
 rw [u144]
 simp -implicitDefEqProofs [D144, h1]
def UI (i : Int) : Int := if i < 0 then 0 else i
theorem Ub {i : Int} (h : ¬ i < 0) : UI i = i := if_neg h
theorem refI_eq (i : Int) : Vb i = .tup [.int .i64 (UI i), .bool (decide (0 ≤ i))] := by
 unfold Vb UI
 by_cases h : i < 0
 ·rw [if_pos h, if_pos h, decide_eq_false (by omega)]
 ·rw [if_neg h, if_neg h, decide_eq_true (by omega)]
def LvV.z : LvV := ⟨0, 0, by decide⟩
def Q3.z : Q3 := ⟨0, 0, 0, LvV.z, LvV.z⟩
abbrev ctxA (u r t : Int) (l h : LvV) : Qa := .agg [.int .i64 u, .int .i64 r, .int .i64 t, .int .i64 l.s, .int .u64 l.c, .int .i64 h.s, .int .u64 h.c]
abbrev ctx0 (u r t : Int) : Qa := .agg [.int .i64 u, .int .i64 r, .int .i64 t, .int .i64 0, .int .u64 0, .int .i64 0, .int .u64 0]
def XK (p : Qw) (a b c : Bs) : Int × Int × Int := (QH (Y_ a) p.users.l 0, QH (Wa b) p.roles.l 0, QH (Yo c) p.types.l 0)
def okI (x : Int × Int × Int) : Bool := decide (0 ≤ x.1) && decide (0 ≤ x.2.1) && decide (0 ≤ x.2.2)
theorem e111 {n : Nat} (hn : 2100 ≤ n) (p : Qw) (hp : Zh p) (a b c : Bs) : cpJ PR n 111 [p.d, .str a, .str b, .str c] =
  some (.tup [ctx0 (UI (XK p a b c).1) (UI (XK p a b c).2.1) (UI (XK p a b c).2.2), .bool (okI (XK p a b c))]) := by
 obtain ⟨n, rfl⟩ : ∃ m, n = m + 1 := ⟨n - 1, by omega⟩
 have h1 := e142 (n := n) (by omega) p hp a
 have h2 := e143 (n := n) (by omega) p hp b
 have h3 := e144 (n := n) (by omega) p hp c
 rw [refI_eq] at h1 h2 h3
 rw [u111]
 unfold XK okI
 simp only
 generalize decide (0 ≤ QH (Y_ a) p.users.l 0) = q1 at *
 generalize decide (0 ≤ QH (Wa b) p.roles.l 0) = q2 at *
 generalize decide (0 ≤ QH (Yo c) p.types.l 0) = q3 at *
 cases q1 <;> cases q2 <;> cases q3 <;> simp -implicitDefEqProofs [D111, h1, h2, h3]
theorem LvV.ext' {a b : LvV} (h1 : a.s = b.s) (h2 : (a.c : Int) = b.c) : a = b := by
 cases a; cases b
 simp only at h1 h2
 obtain rfl := h1
 obtain rfl := Int.ofNat_inj.1 h2
 rfl
structure Lev (sens cats : List Bs) : Prop where
 few : Few sens cats
 prop : Yp sens cats = true
theorem UD {l : List Bs} : ∀ {pre rest : List Bs}, (∀ s ∈ rest, Z5 s = true) → (pre ++ rest).Nodup → Vg pre rest = true
 | pre, [], _, _ => rfl
 | pre, s :: rest, h1, h2 => by
  rw [Vg, h1 s (by simp)]
  have h3 : s ∉ pre := λh=> by
   have := (List.nodup_append.1 h2).2.2 s h s (by simp)
   exact this rfl
  have h4 := UD (l := l) (pre := pre ++ [s]) (rest := rest) (fun x hx => h1 x (by simp [hx])) (by simpa using h2)
  simp [h3, h4]
theorem Zg.lev {p : Qw} (g : Zg p) : Lev p.sens.l p.cats.l := by
 have h1 := g.small.sens
 have h2 := g.small.cats
 obtain ⟨c1, c2⟩ := g.cats
 have len : ∀ {s : Bs}, Z5 s = true → s.length ≤ 32 := λh=> by
  unfold Z5 at h
  simp only [Bool.and_eq_true, decide_eq_true_eq] at h
  exact h.1
 refine ⟨⟨by omega, by omega, fun s hs => ?_, fun s hs => ?_⟩, ?_⟩
 ·have := len (c1.ok s hs); omega
 ·have := len (c2.ok s hs); omega
 ·have d1 := UD (l := []) (pre := []) c1.ok (by simpa using c1.nd)
  have d2 := UD (l := []) (pre := []) c2.ok (by simpa using c2.nd)
  have b1 : decide ((p.sens.l.length : Int) ≤ 16) = true := decide_eq_true (by omega)
  have b2 : decide ((p.cats.l.length : Int) ≤ 64) = true := decide_eq_true (by omega)
  simp [Yp, Xj, d1, d2, b1, b2]
theorem okI_iff {x : Int × Int × Int} : okI x = true ↔ ¬ x.1 < 0 ∧ ¬ x.2.1 < 0 ∧ ¬ x.2.2 < 0 := by
 simp only [okI, Bool.and_eq_true, decide_eq_true_eq]; omega
def YK (p : Qw) (c : Q3) : Bs :=
 if QP p c = 0 then ((at' p.users.l c.user).map QU.name).getD [] ++ 58 :: (((at' p.roles.l c.role).map QQ.name).getD [] ++ 58 :: (((at' p.types.l c.type).map Q9.name).getD [] ++ 58 :: Vf p.sens.l p.cats.l c.lo.s c.lo.c c.hi.s c.hi.c)) else []
theorem Yu {s : Bs} (h : Z5 s = true) : s.length ≤ 32 := by
 unfold Z5 at h
 simp only [Bool.and_eq_true, decide_eq_true_eq] at h
 exact h.1
structure CtxOk (p : Qw) (c : Q3) where
 u : QU
 r : QQ
 t : Q9
 iu : Nat
 ir : Nat
 it : Nat
 eu : c.user = iu
 er : c.role = ir
 et : c.type = it
 hu : p.users.l[iu]? = some u
 hr : p.roles.l[ir]? = some r
 ht : p.types.l[it]? = some t
 rng : rngV p c.lo c.hi = true
theorem at_get {α : Type} {l : List α} {i : Int} {x : α} (h : at' l i = some x) : ∃ j : Nat, i = j ∧ l[j]? = some x := by
 unfold at' at h
 split at h
 ·exact ⟨i.toNat, by omega, h⟩
 ·cases h
theorem Vr {p : Qw} {c : Q3} (h : QP p c = 0) : Nonempty (CtxOk p c) := by
 unfold QP at h
 split at h
 ·rename_i u r t h1 h2 h3
  obtain ⟨i1, e1, g1⟩ := at_get h1
  obtain ⟨i2, e2, g2⟩ := at_get h2
  obtain ⟨i3, e9003, g3⟩ := at_get h3
  split at h
  ·rename_i hr
   exact ⟨⟨u, r, t, i1, i2, i3, e1, e2, e9003, g1, g2, g3, hr⟩⟩
  ·simp at h
 ·simp at h
end Go.Proofs.YtdibpeknpmhknaaGreat
namespace Go.Proofs.YtdibpeknpmhknaaGreat
open Go
theorem textV_len {sens cats : List Bs} (L : Lev sens cats) (lo hi : LvV) (hV : Xx lo.s lo.c hi.s hi.c sens.length cats.length = true) : (Vf sens cats lo.s lo.c hi.s hi.c).length ≤ 50000 := by
 obtain ⟨hF, hP⟩ := L
 obtain ⟨s, c, hc⟩ := lo
 obtain ⟨s', c', hc'⟩ := hi
 simp only at hV ⊢
 obtain ⟨⟨i, i', rfl, rfl, hi, hi'⟩, hb, hb'⟩ := YC (⟨hc, hc'⟩ : Rok c c') hV
 have b1 := VU hF hi hb
 have b2 := VU hF hi' hb'
 unfold Vf
 split
 ·simp only [Int.toNat_natCast]
  split
  ·omega
  ·simp; omega
 ·simp
theorem Zg.uname {p : Qw} (g : Zg p) {u : QU} {i : Nat} (h : p.users.l[i]? = some u) : Z5 u.name = true :=
 g.users.ok _ (List.mem_map.2 ⟨u, List.mem_of_getElem? h, rfl⟩)
theorem Zg.rname {p : Qw} (g : Zg p) {u : QQ} {i : Nat} (h : p.roles.l[i]? = some u) : Z5 u.name = true :=
 g.roles.ok _ (List.mem_map.2 ⟨u, List.mem_of_getElem? h, rfl⟩)
theorem Zg.tname {p : Qw} (g : Zg p) {u : Q9} {i : Nat} (h : p.types.l[i]? = some u) : Z5 u.name = true :=
 g.types.ok _ (List.mem_flatMap.2 ⟨u, List.mem_of_getElem? h, by simp⟩)
theorem textC_ok {p : Qw} {c : Q3} (h : QP p c = 0) (X : CtxOk p c) : YK p c = X.u.name ++ 58 :: (X.r.name ++ 58 :: (X.t.name ++ 58 :: Vf p.sens.l p.cats.l c.lo.s c.lo.c c.hi.s c.hi.c)) := by
 have a1 : at' p.users.l c.user = some X.u := by rw [X.eu, at', if_pos (by omega), Int.toNat_natCast, X.hu]
 have a2 : at' p.roles.l c.role = some X.r := by rw [X.er, at', if_pos (by omega), Int.toNat_natCast, X.hr]
 have a3 : at' p.types.l c.type = some X.t := by rw [X.et, at', if_pos (by omega), Int.toNat_natCast, X.ht]
 unfold YK
 rw [if_pos h, a1, a2, a3]
 rfl
section
variable {n : Nat} (hn : 30000 ≤ n) (p : Qw) (g : Zg p) (c : Q3)
include hn g
theorem e46 : cpJ PR n 46 [p.d, c.d] = some (.tup [.str (YK p c), .int .i64 (QP p c)]) := by
 obtain ⟨n, rfl⟩ : ∃ m, n = m + 1 := ⟨n - 1, by omega⟩
 have h1 := e44 (n := n) (by omega) p c
 rw [u46]
 by_cases h : QP p c = 0
 ·obtain ⟨X⟩ := Vr h
  rw [textC_ok h X]
  rw [h] at h1 ⊢
  have L := g.lev
  have hV : Xx c.lo.s c.lo.c c.hi.s c.hi.c p.sens.l.length p.cats.l.length = true := X.rng
  have h2 : cpJ PR n 78 [Yj c.lo c.hi, Z1 p.sens, Z1 p.cats] = some (.tup [.str (Vf p.sens.l p.cats.l c.lo.s c.lo.c c.hi.s c.hi.c), .int .i64 0]) := by
   have := e78 (n := n) (by omega) p.sens.z p.cats.z L.few c.lo.s c.lo.c c.hi.s c.hi.c ⟨c.lo.lt, c.hi.lt⟩
   rw [L.prop, hV] at this
   exact this
  have b1 := Yu (g.uname X.hu)
  have b2 := Yu (g.rname X.hr)
  have b3 := Yu (g.tname X.ht)
  have b4 := textV_len L c.lo c.hi hV
  have x1 := X.hu
  have x2 := X.hr
  have x3 := X.ht
  have y1 := X.eu
  have y2 := X.er
  have y3 := X.et
  generalize X.u = u at *
  generalize X.r = r at *
  generalize X.t = t at *
  generalize Vf p.sens.l p.cats.l c.lo.s c.lo.c c.hi.s c.hi.c = w at *
  obtain ⟨w1, hw1⟩ : ∃ x, x = u.name ++ [58] := ⟨_, rfl⟩
  obtain ⟨w2, hw2⟩ : ∃ x, x = w1 ++ r.name := ⟨_, rfl⟩
  obtain ⟨w3, hw3⟩ : ∃ x, x = w2 ++ [58] := ⟨_, rfl⟩
  obtain ⟨w4, hw4⟩ : ∃ x, x = w3 ++ t.name := ⟨_, rfl⟩
  obtain ⟨w5, hw5⟩ : ∃ x, x = w4 ++ [58] := ⟨_, rfl⟩
  have l1 : w1.length ≤ 33 := by rw [hw1]; simp; omega
  have l2 : w2.length ≤ 65 := by rw [hw2]; simp; omega
  have l9003 : w3.length ≤ 66 := by rw [hw3]; simp; omega
  have l9004 : w4.length ≤ 98 := by rw [hw4]; simp; omega
  have l9005 : w5.length ≤ 99 := by rw [hw5]; simp; omega
  have c1 : QW .add u.name [58] = some (.str w1) := by rw [hw1]; exact YO (by simp; omega)
  have c2 : QW .add w1 r.name = some (.str w2) := by rw [hw2]; exact YO (by omega)
  have c3 : QW .add w2 [58] = some (.str w3) := by rw [hw3]; exact YO (by simp; omega)
  have c4 : QW .add w3 t.name = some (.str w4) := by rw [hw4]; exact YO (by omega)
  have c5 : QW .add w4 [58] = some (.str w5) := by rw [hw5]; exact YO (by simp; omega)
  have c6 : QW .add w5 w = some (.str (u.name ++ 58 :: (r.name ++ 58 :: (t.name ++ 58 :: w)))) := by
   rw [YO (by omega), hw5, hw4, hw3, hw2, hw1]; simp
  simp -implicitDefEqProofs [-QW.eq_1, D46, h1, h2, x1, x2, x3, y1, y2, y3, c1, c2, c3, c4, c5, c6]
 ·have e : YK p c = [] := by unfold YK; rw [if_neg h]
  rw [e]
  have h' : (QP p c != 0) = true := by simpa using h
  simp -implicitDefEqProofs [D46, h1, h]
theorem e68 : cpJ PR n 68 [p.d, c.d] = some (.tup [.str (YK p c), .int .i64 (QP p c)]) := by
 obtain ⟨n, rfl⟩ : ∃ m, n = m + 1 := ⟨n - 1, by omega⟩
 have h1 := e65 (n := n) (by omega) p c
 rw [u68]
 by_cases h : QP p c = 0
 ·obtain ⟨X⟩ := Vr h
  rw [textC_ok h X]
  rw [h] at h1 ⊢
  have L := g.lev
  have hV : Xx c.lo.s c.lo.c c.hi.s c.hi.c p.sens.l.length p.cats.l.length = true := X.rng
  have h2 : cpJ PR n 105 [Yj c.lo c.hi, Z1 p.sens, Z1 p.cats] = some (.tup [.str (Vf p.sens.l p.cats.l c.lo.s c.lo.c c.hi.s c.hi.c), .int .i64 0]) := by
   have := e105 (n := n) (by omega) p.sens.z p.cats.z L.few c.lo.s c.lo.c c.hi.s c.hi.c ⟨c.lo.lt, c.hi.lt⟩
   rw [L.prop, hV] at this
   exact this
  have b1 := Yu (g.uname X.hu)
  have b2 := Yu (g.rname X.hr)
  have b3 := Yu (g.tname X.ht)
  have b4 := textV_len L c.lo c.hi hV
  have x1 := X.hu
  have x2 := X.hr
  have x3 := X.ht
  have y1 := X.eu
  have y2 := X.er
  have y3 := X.et
  generalize X.u = u at *
  generalize X.r = r at *
  generalize X.t = t at *
  generalize Vf p.sens.l p.cats.l c.lo.s c.lo.c c.hi.s c.hi.c = w at *
  obtain ⟨w1, hw1⟩ : ∃ x, x = u.name ++ [58] := ⟨_, rfl⟩
  obtain ⟨w2, hw2⟩ : ∃ x, x = w1 ++ r.name := ⟨_, rfl⟩
  obtain ⟨w3, hw3⟩ : ∃ x, x = w2 ++ [58] := ⟨_, rfl⟩
  obtain ⟨w4, hw4⟩ : ∃ x, x = w3 ++ t.name := ⟨_, rfl⟩
  obtain ⟨w5, hw5⟩ : ∃ x, x = w4 ++ [58] := ⟨_, rfl⟩
  have l1 : w1.length ≤ 33 := by rw [hw1]; simp; omega
  have l2 : w2.length ≤ 65 := by rw [hw2]; simp; omega
  have l9003 : w3.length ≤ 66 := by rw [hw3]; simp; omega
  have l9004 : w4.length ≤ 98 := by rw [hw4]; simp; omega
  have l9005 : w5.length ≤ 99 := by rw [hw5]; simp; omega
  have c1 : QW .add u.name [58] = some (.str w1) := by rw [hw1]; exact YO (by simp; omega)
  have c2 : QW .add w1 r.name = some (.str w2) := by rw [hw2]; exact YO (by omega)
  have c3 : QW .add w2 [58] = some (.str w3) := by rw [hw3]; exact YO (by simp; omega)
  have c4 : QW .add w3 t.name = some (.str w4) := by rw [hw4]; exact YO (by omega)
  have c5 : QW .add w4 [58] = some (.str w5) := by rw [hw5]; exact YO (by simp; omega)
  have c6 : QW .add w5 w = some (.str (u.name ++ 58 :: (r.name ++ 58 :: (t.name ++ 58 :: w)))) := by
   rw [YO (by omega), hw5, hw4, hw3, hw2, hw1]; simp
  simp -implicitDefEqProofs [-QW.eq_1, D68, h1, h2, x1, x2, x3, y1, y2, y3, c1, c2, c3, c4, c5, c6]
 ·have e : YK p c = [] := by unfold YK; rw [if_neg h]
  rw [e]
  simp -implicitDefEqProofs [D68, h1, h]
end
theorem JB {α : Type} (f : α → Bool) : ∀ {l : List α} {j : Nat} {x : α} {i : Nat}, l[j]? = some x → f x = true → (∀ k y, k < j → l[k]? = some y → f y = false) → QH f l i = ((i + j : Nat) : Int)
 | [], j, x, i, h, _, _ => by simp at h
 | y :: l, 0, x, i, h, hx, _ => by
  simp only [List.getElem?_cons_zero, Option.some.injEq] at h
  subst h
  simp [QH, hx]
 | y :: l, j + 1, x, i, h, hx, hn => by
  have hy := hn 0 y (by omega) rfl
  rw [QH, hy]
  simp only [Bool.false_eq_true, if_false]
  rw [JB f (l := l) (j := j) (x := x) (i := i + 1) (by simpa using h) hx fun k z hk hz => hn (k + 1) z (by omega) (by simpa using hz)]
  congr 1
  omega
theorem nodup_get {α : Type} {l : List α} (h : l.Nodup) {i j : Nat} {x : α} (hi : l[i]? = some x) (hj : l[j]? = some x) : i = j := by
 obtain ⟨a, ha'⟩ := List.getElem?_eq_some_iff.1 hi
 obtain ⟨b, hb'⟩ := List.getElem?_eq_some_iff.1 hj
 have key := List.pairwise_iff_getElem.1 h
 rcases Nat.lt_trichotomy i j with hlt | he | hlt
 ·exact absurd (ha'.trans hb'.symm) (key i j a b hlt)
 ·exact he
 ·exact absurd (hb'.trans ha'.symm) (key j i b a hlt)
theorem find_user {p : Qw} (g : Zg p) {i : Nat} {u : QU} (h : p.users.l[i]? = some u) : QH (Y_ u.name) p.users.l 0 = i := by
 rw [JB (Y_ u.name) h (by simp [Y_]) fun k y hk hy => ?_, Nat.zero_add]
 by_cases e : y.name = u.name
 ·have := nodup_get g.users.nd (i := k) (j := i) (x := u.name) (by rw [List.getElem?_map, hy, ← e]; rfl) (by rw [List.getElem?_map, h]; rfl)
  omega
 ·simpa [Y_] using e
theorem find_role {p : Qw} (g : Zg p) {i : Nat} {u : QQ} (h : p.roles.l[i]? = some u) : QH (Wa u.name) p.roles.l 0 = i := by
 rw [JB (Wa u.name) h (by simp [Wa]) fun k y hk hy => ?_, Nat.zero_add]
 by_cases e : y.name = u.name
 ·have := nodup_get g.roles.nd (i := k) (j := i) (x := u.name) (by rw [List.getElem?_map, hy, ← e]; rfl) (by rw [List.getElem?_map, h]; rfl)
  omega
 ·simpa [Wa] using e
theorem types_apart {p : Qw} (g : Zg p) {i k : Nat} {t y : Q9} (hk : k < i) (h : p.types.l[i]? = some t) (hy : p.types.l[k]? = some y) : ∀ s, s ∈ t.name :: t.aliases.l → s ∉ y.name :: y.aliases.l := by
 have h1 : (p.types.l.flatMap λt=> t.name :: t.aliases.l).Pairwise (· ≠ ·) := g.types.nd
 rw [List.pairwise_flatMap] at h1
 obtain ⟨a, ha⟩ := List.getElem?_eq_some_iff.1 h
 obtain ⟨b, hb⟩ := List.getElem?_eq_some_iff.1 hy
 have h2 := (List.pairwise_iff_getElem.1 h1.2) k i b a hk
 rw [ha, hb] at h2
 intro s h3 h4
 exact h2 s h4 s h3 rfl
theorem find_type {p : Qw} (g : Zg p) {i : Nat} {t : Q9} (h : p.types.l[i]? = some t) : QH (Yo t.name) p.types.l 0 = i := by
 rw [JB (Yo t.name) h (by simp [Yo]) fun k y hk hy => ?_, Nat.zero_add]
 have := types_apart g hk h hy t.name (by simp)
 simp only [List.mem_cons, not_or] at this
 simp only [Yo, Bool.or_eq_false_iff, decide_eq_false_iff_not, beq_eq_false_iff_ne]
 exact ⟨λe=> this.1 e.symm, this.2⟩
theorem XF (C : Qj) : POp.sem C [] (.build [.int .i64 0, .int .i64 0, .int .i64 0, .int .i64 0, .int .u64 0, .int .i64 0, .int .u64 0] []) = some Q3.z.d := rfl
theorem ctx_eq (a : Q3) : QZ false [.i .i64, .i .i64, .i .i64, .i .i64, .i .u64, .i .i64, .i .u64] [a.d, a.d] = some (.bool true) := by
 obtain ⟨q, h1, h2⟩ := ctx_beq a a
 rw [h1, h2.2 rfl]
theorem ctx_ne (a : Q3) : QZ true [.i .i64, .i .i64, .i .i64, .i .i64, .i .u64, .i .i64, .i .u64] [a.d, a.d] = some (.bool false) := by
 have h := ctx_eq a
 unfold QZ Q3.d at *
 simp only [Option.map_eq_some_iff] at *
 obtain ⟨b, h1, h2⟩ := h
 simp only [Bool.false_eq_true, if_false, Qa.bool.injEq] at h2
 exact ⟨b, h1, by rw [h2]; rfl⟩
end Go.Proofs.YtdibpeknpmhknaaGreat
namespace Go.Proofs.YtdibpeknpmhknaaGreat
open Go
def Wd (s : Bs) : List ZD → Q3 × Bool
 | [] => (Q3.z, false)
 | x :: l => if x.name = s then (x.ctx, true) else Wd s l
def Wl (x : Q3 × Bool) : Qa := .tup [x.1.d, .bool x.2]
theorem l106 {n : Nat} (p : Qw) (s : Bs) (hl : p.sids.l.length ≤ 1000) (σ : Sto) (x : Qa) (hx : x = .int .i64 p.sids.l.length) : ∀ (k i m : Nat) (b : Qa), i + k = p.sids.l.length → k < m →
  Qv 0 (HR (cpJ PR n) (ciJ PR n) n (.str s) (QJ 8 ZD.row p.sids) x) m [.int .i64 i, b, Q3.z.d] σ = some (.done (Wl (Wd s (p.sids.l.drop i))) σ) := by
 subst hx
 intro k
 induction k with
 | zero =>
  intro i m b hi hm
  obtain ⟨m, rfl⟩ : ∃ j, m = j + 1 := ⟨m - 1, by omega⟩
  have hi' : ¬ ((i : Int) < p.sids.l.length) := by omega
  rw [List.drop_eq_nil_of_le (by omega)]
  have h1 := XF (cpJ PR n)
  refine Qt ?_
  simp -implicitDefEqProofs [HR, B106_0, hi', Wd, Wl, h1, -POp.sem.eq_17]
 | succ k ih =>
  intro i m b hi hm
  obtain ⟨m, rfl⟩ : ∃ j, m = j + 1 := ⟨m - 1, by omega⟩
  have hi' : ((i : Int) < p.sids.l.length) := by omega
  obtain ⟨y, hy⟩ := Qz (by omega : i < p.sids.l.length)
  have hwr := QT (by omega : i < p.sids.l.length) (by unfold maxLen; omega)
  rw [QY hy, Wd]
  by_cases hf : y.name = s
  ·rw [if_pos hf]
   refine Qt ?_
   simp -implicitDefEqProofs [HR, B106_0, hi', hy, hwr, hf, Wl]
  ·rw [if_neg hf, ← ih (i + 1) m b (by omega) (by omega)]
   refine Qx ?_
   simp -implicitDefEqProofs [HR, B106_0, hi', hy, hwr, hf]
theorem l71 {n : Nat} (p : Qw) (s : Bs) (hl : p.sids.l.length ≤ 1000) (σ : Sto) : ∀ (k i m : Nat) (b : Qa), i + k = p.sids.l.length → k < m →
  Qv 0 (L71_0 (cpJ PR n) (ciJ PR n) n (.str s) p.d) m [.int .i64 i, b, Q3.z.d] σ = some (.done (Wl (Wd s (p.sids.l.drop i))) σ) := by
 intro k
 induction k with
 | zero =>
  intro i m b hi hm
  obtain ⟨m, rfl⟩ : ∃ j, m = j + 1 := ⟨m - 1, by omega⟩
  have hi' : ¬ ((i : Int) < p.sids.l.length) := by omega
  rw [List.drop_eq_nil_of_le (by omega)]
  have h1 := XF (cpJ PR n)
  refine Qt ?_
  simp -implicitDefEqProofs [L71_0, B71_0, hi', Wd, Wl, h1, -POp.sem.eq_17]
 | succ k ih =>
  intro i m b hi hm
  obtain ⟨m, rfl⟩ : ∃ j, m = j + 1 := ⟨m - 1, by omega⟩
  have hi' : ((i : Int) < p.sids.l.length) := by omega
  obtain ⟨y, hy⟩ := Qz (by omega : i < p.sids.l.length)
  have hwr := QT (by omega : i < p.sids.l.length) (by unfold maxLen; omega)
  rw [QY hy, Wd]
  by_cases hf : y.name = s
  ·rw [if_pos hf]
   refine Qt ?_
   simp -implicitDefEqProofs [L71_0, B71_0, hi', hy, hwr, hf, Wl]
  ·rw [if_neg hf, ← ih (i + 1) m b (by omega) (by omega)]
   refine Qx ?_
   simp -implicitDefEqProofs [L71_0, B71_0, hi', hy, hwr, hf]
theorem zctx : Qa.agg [.int .i64 0, .int .i64 0, .int .i64 0, .int .i64 0, .int .u64 0, .int .i64 0, .int .u64 0] = Q3.z.d := rfl
theorem e106 {n : Nat} (hn : 1100 ≤ n) {p : Qw} (hp : Zh p) (s : Bs) : cpJ PR n 106 [p.d, .str s] = some (Wl (Wd s p.sids.l)) := by
 obtain ⟨n, rfl⟩ : ∃ m, n = m + 1 := ⟨n - 1, by omega⟩
 have hlen := hp.sids
 have h1 := l106 (n := n) p s (by omega) Qd (.int .i64 p.sids.l.length) rfl p.sids.l.length 0 n (.bool false) (by omega) (by omega)
 simp only [Int.natCast_zero, List.drop_zero] at h1
 rw [u106]
 simp -implicitDefEqProofs [D106, zctx, h1, Wl]
theorem e71 {n : Nat} (hn : 1100 ≤ n) {p : Qw} (hp : Zh p) (s : Bs) : cpJ PR n 71 [p.d, .str s] = some (Wl (Wd s p.sids.l)) := by
 obtain ⟨n, rfl⟩ : ∃ m, n = m + 1 := ⟨n - 1, by omega⟩
 have hlen := hp.sids
 have h1 := l71 (n := n) p s (by omega) Qd p.sids.l.length 0 n (.bool false) (by omega) (by omega)
 simp only [Int.natCast_zero, List.drop_zero] at h1
 rw [u71]
 simp -implicitDefEqProofs [D71, zctx, h1, Wl]
end Go.Proofs.YtdibpeknpmhknaaGreat
namespace Go.Proofs.YtdibpeknpmhknaaGreat
open Go
theorem idx_nm {l : List (List UInt8)} (hd : l.Nodup) {i : Nat} (hi : i < l.length) : Za (nm l i) l 0 = i := by
 have h0 := (JN (nm l i) l 0).2 (YH hi)
 rcases VD (nm l i) l 0 with h | ⟨j, h1, h2, h3⟩
 ·omega
 ·have hij : i = j := (List.getElem?_inj hi hd).1 (by rw [h3, Yx hi])
  omega
def mvP (B : List Bs) (c : Nat) : List Bs → Nat → Bool × Nat → Bool × Nat
 | [], _, x => x
 | s :: l, i, x => mvP B c l (i + 1) (if c.testBit i = true then (x.1 && decide (0 ≤ Za s B 0), if 0 ≤ Za s B 0 then x.2 ||| 2 ^ (Za s B 0).toNat else x.2) else x)
def mvR (B : List Bs) (c : Nat) : List Bs → Nat → Bool × Nat → Bool × Nat
 | [], _, x => x
 | s :: l, i, x => mvR B c l (i + 1) (if c.testBit i = true then (x.1 && decide (0 ≤ Za s B 0), x.2 ||| 2 ^ (UI (Za s B 0)).toNat) else x)
theorem H2 {i : Int} (h : 0 ≤ i) : (UI i).toNat = i.toNat := by rw [Ub (by omega)]
theorem mv_eq (B : List Bs) (c : Nat) : ∀ (l : List Bs) (i : Nat) (b : Bool) (w w' : Nat), (b = true → w = w') → (mvP B c l i (b, w)).1 = (mvR B c l i (b, w')).1 ∧ ((mvP B c l i (b, w)).1 = true → (mvP B c l i (b, w)).2 = (mvR B c l i (b, w')).2)
 | [], i, b, w, w', h => ⟨rfl, h⟩
 | s :: l, i, b, w, w', h => by
  rw [mvP, mvR]
  by_cases hc : c.testBit i = true
  ·rw [if_pos hc, if_pos hc]
   refine mv_eq B c l (i + 1) _ _ _ λhb=> ?_
   simp only [Bool.and_eq_true, decide_eq_true_eq] at hb
   rw [if_pos hb.2, H2 hb.2, h hb.1]
  ·rw [if_neg hc, if_neg hc]
   exact mv_eq B c l (i + 1) b w w' h
theorem VY {s : Bs} {B : List Bs} (h : 0 ≤ Za s B 0) : ∃ k : Nat, Za s B 0 = k ∧ k < B.length ∧ B[k]? = some s := by
 rcases VD s B 0 with h1 | ⟨j, h1, h2, h3⟩
 ·omega
 ·exact ⟨j, by omega, h2, h3⟩
theorem mvP_lt {B : List Bs} (hB : B.length ≤ 64) (c : Nat) : ∀ (l : List Bs) (i : Nat) (x : Bool × Nat), x.2 < 18446744073709551616 → (mvP B c l i x).2 < 18446744073709551616
 | [], i, x, h => h
 | s :: l, i, x, h => by
  rw [mvP]
  refine mvP_lt hB c l (i + 1) _ ?_
  split
  ·simp only
   split
   ·rename_i h0
    obtain ⟨k, h1, h2, -⟩ := VY h0
    rw [h1, Int.toNat_natCast]
    exact or_lt h (UH (by omega))
   ·exact h
  ·exact h
theorem mvR_lt {B : List Bs} (hB : B.length ≤ 64) (c : Nat) : ∀ (l : List Bs) (i : Nat) (x : Bool × Nat), x.2 < 18446744073709551616 → (mvR B c l i x).2 < 18446744073709551616
 | [], i, x, h => h
 | s :: l, i, x, h => by
  rw [mvR]
  refine mvR_lt hB c l (i + 1) _ ?_
  split
  ·simp only
   refine or_lt h (UH ?_)
   by_cases h0 : 0 ≤ Za s B 0
   ·obtain ⟨k, h1, h2, -⟩ := VY h0
    rw [H2 h0, h1, Int.toNat_natCast]; omega
   ·rw [UI, if_pos (by omega)]; decide
  ·exact h
theorem mvP_ok (B : List Bs) (c : Nat) : ∀ (l : List Bs) (i : Nat) (x : Bool × Nat), (mvP B c l i x).1 = true ↔ x.1 = true ∧ ∀ j s, l[j]? = some s → c.testBit (i + j) = true → 0 ≤ Za s B 0
 | [], i, x => by simp [mvP]
 | s :: l, i, x => by
  rw [mvP, mvP_ok B c l (i + 1)]
  constructor
  ·rintro ⟨h1, h2⟩
   have h3 : x.1 = true ∧ (c.testBit i = true → 0 ≤ Za s B 0) := by
    by_cases hc : c.testBit i = true
    ·rw [if_pos hc] at h1
     simp only [Bool.and_eq_true, decide_eq_true_eq] at h1
     exact ⟨h1.1, λ_=> h1.2⟩
    ·rw [if_neg hc] at h1
     exact ⟨h1, λh=> absurd h hc⟩
   refine ⟨h3.1, fun j y hy hj => ?_⟩
   cases j with
   | zero =>
    simp only [List.getElem?_cons_zero, Option.some.injEq] at hy
    subst hy
    exact h3.2 hj
   | succ j => exact h2 j y (by simpa using hy) (by rw [show i + 1 + j = i + (j + 1) by omega]; exact hj)
  ·rintro ⟨h1, h2⟩
   refine ⟨?_, fun j y hy hj => h2 (j + 1) y (by simpa using hy) (by rw [show i + (j + 1) = i + 1 + j by omega]; exact hj)⟩
   by_cases hc : c.testBit i = true
   ·rw [if_pos hc]
    simp only [Bool.and_eq_true, decide_eq_true_eq]
    exact ⟨h1, h2 0 s rfl hc⟩
   ·rw [if_neg hc]; exact h1
theorem mvP_bit (B : List Bs) (c : Nat) : ∀ (l : List Bs) (i : Nat) (x : Bool × Nat) (k : Nat), (mvP B c l i x).2.testBit k = true ↔ x.2.testBit k = true ∨ ∃ j s, l[j]? = some s ∧ c.testBit (i + j) = true ∧ Za s B 0 = (k : Int)
 | [], i, x, k => by simp [mvP]
 | s :: l, i, x, k => by
  rw [mvP, mvP_bit B c l (i + 1)]
  have hstep : (if c.testBit i = true then (x.1 && decide (0 ≤ Za s B 0), if 0 ≤ Za s B 0 then x.2 ||| 2 ^ (Za s B 0).toNat else x.2) else x).2.testBit k = true ↔ x.2.testBit k = true ∨ (c.testBit i = true ∧ Za s B 0 = (k : Int)) := by
   by_cases hc : c.testBit i = true
   ·rw [if_pos hc]
    simp only [hc, true_and]
    by_cases h0 : 0 ≤ Za s B 0
    ·rw [if_pos h0, Nat.testBit_or, Bool.or_eq_true, Nat.testBit_two_pow, decide_eq_true_eq]
     constructor
     ·rintro (h | h)
      ·exact .inl h
      ·exact .inr (by omega)
     ·rintro (h | h)
      ·exact .inl h
      ·exact .inr (by omega)
    ·rw [if_neg h0]
     constructor
     ·exact .inl
     ·rintro (h | h)
      ·exact h
      ·omega
   ·rw [if_neg hc]
    simp [hc]
  rw [hstep]
  constructor
  ·rintro ((h | ⟨h1, h2⟩) | ⟨j, y, h1, h2, h3⟩)
   ·exact .inl h
   ·exact .inr ⟨0, s, rfl, h1, h2⟩
   ·exact .inr ⟨j + 1, y, by simpa using h1, by rw [show i + (j + 1) = i + 1 + j by omega]; exact h2, h3⟩
  ·rintro (h | ⟨j, y, h1, h2, h3⟩)
   ·exact .inl (.inl h)
   ·cases j with
    | zero =>
     simp only [List.getElem?_cons_zero, Option.some.injEq] at h1
     subst h1
     exact .inl (.inr ⟨h2, h3⟩)
    | succ j => exact .inr ⟨j, y, by simpa using h1, by rw [show i + 1 + j = i + (j + 1) by omega]; exact h2, h3⟩
theorem e145 {n : Nat} (z : Sl Bs) (s : Bs) (hl : z.l.length ≤ 1000) (hn : 1100 ≤ n) : cpJ PR n 145 [Z1 z, .str s] = some (Vb (Za s z.l 0)) := by
 obtain ⟨n, rfl⟩ : ∃ m, n = m + 1 := ⟨n - 1, by omega⟩
 have key : ∀ (k i m : Nat) (b c : Qa), i + k = z.l.length → k < m → Qv 0 (EA (cpJ PR n) (ciJ PR n) n (Z1 z) (.str s)) m [.int .i64 i, b, c] Qd = some (.done (Vb (Za s (z.l.drop i) i)) Qd) := by
  intro k
  induction k with
  | zero =>
   intro i m b c hi hm
   obtain ⟨m, rfl⟩ : ∃ j, m = j + 1 := ⟨m - 1, by omega⟩
   have hi' : ¬ ((i : Int) < z.l.length) := by omega
   rw [List.drop_eq_nil_of_le (by omega)]
   refine Qt ?_
   simp -implicitDefEqProofs [EA, B145_0, hi', Za, Vb]
  | succ k ih =>
   intro i m b c hi hm
   obtain ⟨m, rfl⟩ : ∃ j, m = j + 1 := ⟨m - 1, by omega⟩
   have hi' : ((i : Int) < z.l.length) := by omega
   obtain ⟨y, hy⟩ := Qz (by omega : i < z.l.length)
   have hwr := QT (by omega : i < z.l.length) (by unfold maxLen; omega)
   rw [QY hy, Za]
   by_cases hf : y = s
   ·subst hf
    rw [if_pos rfl, US]
    refine Qt ?_
    simp -implicitDefEqProofs [EA, B145_0, hi', hy, hwr]
   ·rw [if_neg hf, ← ih (i + 1) m b c (by omega) (by omega)]
    refine Qx ?_
    simp -implicitDefEqProofs [EA, B145_0, hi', hy, hwr, hf]
 have h1 := key z.l.length 0 n (.bool false) (.int .i64 0) (by omega) (by omega)
 simp only [Int.natCast_zero, List.drop_zero] at h1
 rw [u145]
 simp -implicitDefEqProofs [D145, h1]
theorem e141' {n : Nat} (z : Sl Bs) (s : Bs) (hl : z.l.length ≤ 1000) (hn : 1100 ≤ n) : cpJ PR n 141 [Z1 z, .str s] = some (.int .i64 (Za s z.l 0)) := e141 (n := n) z.z z.l s (by omega) (by omega)
section
variable {n : Nat} (hn : 2000 ≤ n) (a b : Qw) (ha : a.cats.l.length ≤ 10) (hb : b.cats.l.length ≤ 10) (l : LvV) (s : Int) (σ : Sto)
include hn ha hb
theorem l110 : ∀ (k i m : Nat) (ok : Bool) (w : Nat), i + k = a.cats.l.length → k < m → w < 18446744073709551616 →
  Qv 0 (J_ (cpJ PR n) (ciJ PR n) n b.d l.d (Z1 a.cats) (.int .i64 a.cats.l.length)) m [.int .i64 i, .bool ok, .agg [.int .i64 s, .int .u64 w]] σ =
   some (.done (.tup [.agg [.int .i64 s, .int .u64 (mvP b.cats.l l.c (a.cats.l.drop i) i (ok, w)).2], .bool (mvP b.cats.l l.c (a.cats.l.drop i) i (ok, w)).1]) σ) := by
 intro k
 induction k with
 | zero =>
  intro i m ok w hi hm hw
  obtain ⟨m, rfl⟩ : ∃ j, m = j + 1 := ⟨m - 1, by omega⟩
  have hi' : ¬ ((i : Int) < a.cats.l.length) := by omega
  rw [List.drop_eq_nil_of_le (by omega)]
  refine Qt ?_
  simp -implicitDefEqProofs [J_, HX, hi', mvP]
 | succ k ih =>
  intro i m ok w hi hm hw
  obtain ⟨m, rfl⟩ : ∃ j, m = j + 1 := ⟨m - 1, by omega⟩
  have hi' : ((i : Int) < a.cats.l.length) := by omega
  obtain ⟨y, hy⟩ := Qz (by omega : i < a.cats.l.length)
  have hwr := QT (by omega : i < a.cats.l.length) (by unfold maxLen; omega)
  have hneg : ¬ ((i : Int) < 0) := by omega
  have hmin : min i 64 = i := by omega
  have hbit := G0 l.c l.lt i
  have h1 := e141' (n := n) b.cats y (by omega) (by omega)
  rw [QY hy, mvP]
  by_cases hc : l.c.testBit i = true
  ·rw [if_pos hc]
   rw [if_pos hc] at hbit
   by_cases h0 : 0 ≤ Za y b.cats.l 0
   ·rw [if_pos h0]
    obtain ⟨j, e1, e2, -⟩ := VY h0
    rw [e1, Int.toNat_natCast]
    rw [e1] at h1
    have hs := shl_one (by omega : j < 64)
    have ho := or_nat w (2 ^ j) hw (UH (by omega))
    have hneg2 : ¬ ((j : Int) < 0) := by omega
    simp only [Int.one_mul] at hs
    rw [decide_eq_true (by omega : (0 : Int) ≤ (j : Int)), Bool.and_true, ← ih (i + 1) m ok _ (by omega) (by omega) (or_lt hw (UH (by omega)))]
    refine Qx ?_
    cases ok <;> simp -implicitDefEqProofs [J_, HX, hi', hy, hwr, hneg, hmin, hbit, h1, hs, ho, IntKind.bits, -Int.natCast_pow]
   ·rw [if_neg h0, decide_eq_false h0, Bool.and_false, ← ih (i + 1) m false _ (by omega) (by omega) hw]
    refine Qx ?_
    cases ok <;> simp -implicitDefEqProofs [J_, HX, hi', hy, hwr, hneg, hmin, hbit, h1, h0, IntKind.bits]
  ·rw [if_neg hc]
   rw [if_neg hc] at hbit
   rw [← ih (i + 1) m ok w (by omega) (by omega) hw]
   refine Qx ?_
   simp -implicitDefEqProofs [J_, HX, hi', hy, hwr, hneg, hmin, hbit, IntKind.bits]
theorem l112 : ∀ (k i m : Nat) (ok : Bool) (w : Nat), i + k = a.cats.l.length → k < m → w < 18446744073709551616 →
  Qv 0 (Hs (cpJ PR n) (ciJ PR n) n a.d b.d l.d) m [.int .i64 i, .bool ok, .agg [.int .i64 s, .int .u64 w]] σ =
   some (.done (.tup [.agg [.int .i64 s, .int .u64 (mvR b.cats.l l.c (a.cats.l.drop i) i (ok, w)).2], .bool (mvR b.cats.l l.c (a.cats.l.drop i) i (ok, w)).1]) σ) := by
 intro k
 induction k with
 | zero =>
  intro i m ok w hi hm hw
  obtain ⟨m, rfl⟩ : ∃ j, m = j + 1 := ⟨m - 1, by omega⟩
  have hi' : ¬ ((i : Int) < a.cats.l.length) := by omega
  rw [List.drop_eq_nil_of_le (by omega)]
  refine Qt ?_
  simp -implicitDefEqProofs [Hs, B112_0, hi', mvR]
 | succ k ih =>
  intro i m ok w hi hm hw
  obtain ⟨m, rfl⟩ : ∃ j, m = j + 1 := ⟨m - 1, by omega⟩
  have hi' : ((i : Int) < a.cats.l.length) := by omega
  have hi64 : ((i : Int) < 64) := by omega
  obtain ⟨y, hy⟩ := Qz (by omega : i < a.cats.l.length)
  have hwr := QT (by omega : i < a.cats.l.length) (by unfold maxLen; omega)
  have hneg : ¬ ((i : Int) < 0) := by omega
  have hmin : min i 64 = i := by omega
  have hbit := G0 l.c l.lt i
  have h1 := e145 (n := n) b.cats y (by omega) (by omega)
  rw [refI_eq] at h1
  rw [QY hy, mvR]
  by_cases hc : l.c.testBit i = true
  ·rw [if_pos hc]
   rw [if_pos hc] at hbit
   obtain ⟨j, e1, e2⟩ : ∃ j : Nat, UI (Za y b.cats.l 0) = j ∧ j < 64 := by
    by_cases h0 : 0 ≤ Za y b.cats.l 0
    ·obtain ⟨j, e1, e2, -⟩ := VY h0
     exact ⟨j, by rw [e1, Ub (by omega)], by omega⟩
    ·exact ⟨0, by rw [UI, if_pos (by omega)]; rfl, by omega⟩
   rw [e1, Int.toNat_natCast]
   rw [e1] at h1
   have hs := shl_one e2
   have ho := or_nat w (2 ^ j) hw (UH e2)
   have hneg2 : ¬ ((j : Int) < 0) := by omega
   have hmin2 : min j 64 = j := by omega
   simp only [Int.one_mul] at hs
   rw [← ih (i + 1) m _ _ (by omega) (by omega) (or_lt hw (UH e2))]
   refine Qx ?_
   generalize decide (0 ≤ Za y b.cats.l 0) = q at *
   cases ok <;> simp -implicitDefEqProofs [Hs, B112_0, hi', hi64, hy, hwr, hneg, hmin, hbit, h1, hs, ho, IntKind.bits, -Int.natCast_pow]
  ·rw [if_neg hc]
   rw [if_neg hc] at hbit
   rw [← ih (i + 1) m ok w (by omega) (by omega) hw]
   refine Qx ?_
   simp -implicitDefEqProofs [Hs, B112_0, hi', hi64, hy, hwr, hneg, hmin, hbit, IntKind.bits]
end
def lvOf (s : Int) (w : Nat) : LvV := ⟨s, w % 18446744073709551616, Nat.mod_lt _ (by decide)⟩
theorem lvOf_c {s : Int} {w : Nat} (h : w < 18446744073709551616) : (lvOf s w).c = w := Nat.mod_eq_of_lt h
def ZU (a b : Qw) (l : LvV) : Int := Za (nm a.sens.l l.s.toNat) b.sens.l 0
def mvL (a b : Qw) (l : LvV) : LvV × Bool := (lvOf (ZU a b l) (mvP b.cats.l l.c a.cats.l 0 (decide (0 ≤ ZU a b l), 0)).2, (mvP b.cats.l l.c a.cats.l 0 (decide (0 ≤ ZU a b l), 0)).1)
abbrev lvA (l : LvV) : Qa := .agg [.int .i64 l.s, .int .u64 l.c]
section
variable {n : Nat} (hn : 2100 ≤ n) (a b : Qw) (ha : Zh a) (hb : Zh b) (l : LvV) {i : Nat} (hi : l.s = i) (hil : i < a.sens.l.length)
include hn ha hb hi hil
theorem e110 : cpJ PR n 110 [a.d, b.d, l.d] = some (.tup [lvA (mvL a b l).1, .bool (mvL a b l).2]) := by
 obtain ⟨n, rfl⟩ : ∃ m, n = m + 1 := ⟨n - 1, by omega⟩
 have hac := ha.cats
 have hbc := hb.cats
 have hbs := hb.sens
 have h1 := e141' (n := n) b.sens (nm a.sens.l i) (by omega) (by omega)
 have h2 := l110 (n := n) (by omega) a b (by omega) (by omega) l (ZU a b l) Qd a.cats.l.length 0 n (decide (0 ≤ ZU a b l)) 0 (by omega) (by omega) (by decide)
 have h3 := mvP_lt (B := b.cats.l) (by omega) l.c a.cats.l 0 (decide (0 ≤ ZU a b l), 0) (by show 0 < 18446744073709551616; decide)
 have h4 : Za (nm a.sens.l i) b.sens.l 0 = ZU a b l := by unfold ZU; rw [hi, Int.toNat_natCast]
 rw [h4] at h1
 have h5 := Yx hil
 unfold mvL lvA
 simp only
 rw [lvOf_c h3]
 simp only [Int.natCast_zero, List.drop_zero] at h2
 rw [u110]
 have e : (lvOf (ZU a b l) (mvP b.cats.l l.c a.cats.l 0 (decide (0 ≤ ZU a b l), 0)).2).s = ZU a b l := rfl
 rw [e]
 generalize mvP b.cats.l l.c a.cats.l 0 (decide (0 ≤ ZU a b l), 0) = x at *
 simp -implicitDefEqProofs [D110, hi, h5, h1, h2]
theorem e112 : ∃ l', cpJ PR n 112 [a.d, b.d, l.d] = some (.tup [lvA l', .bool (mvL a b l).2]) ∧ ((mvL a b l).2 = true → l' = (mvL a b l).1) := by
 obtain ⟨n, rfl⟩ : ∃ m, n = m + 1 := ⟨n - 1, by omega⟩
 have hac := ha.cats
 have hbc := hb.cats
 have hbs := hb.sens
 have h1 := e145 (n := n) b.sens (nm a.sens.l i) (by omega) (by omega)
 rw [refI_eq] at h1
 have h2 := l112 (n := n) (by omega) a b (by omega) (by omega) l (UI (ZU a b l)) Qd a.cats.l.length 0 n (decide (0 ≤ ZU a b l)) 0 (by omega) (by omega) (by decide)
 have h3 := mvR_lt (B := b.cats.l) (by omega) l.c a.cats.l 0 (decide (0 ≤ ZU a b l), 0) (by show 0 < 18446744073709551616; decide)
 have h4 : Za (nm a.sens.l i) b.sens.l 0 = ZU a b l := by unfold ZU; rw [hi, Int.toNat_natCast]
 rw [h4] at h1
 have h5 := Yx hil
 obtain ⟨h6, h7⟩ := mv_eq b.cats.l l.c a.cats.l 0 (decide (0 ≤ ZU a b l)) 0 0 (λ_=> rfl)
 have h8 := mvP_ok b.cats.l l.c a.cats.l 0 (decide (0 ≤ ZU a b l), 0)
 simp only [Int.natCast_zero, List.drop_zero] at h2
 refine ⟨lvOf (UI (ZU a b l)) (mvR b.cats.l l.c a.cats.l 0 (decide (0 ≤ ZU a b l), 0)).2, ?_, λh=> ?_⟩
 ·unfold mvL lvA
  simp only
  rw [lvOf_c h3, h6]
  have e : (lvOf (UI (ZU a b l)) (mvR b.cats.l l.c a.cats.l 0 (decide (0 ≤ ZU a b l), 0)).2).s = UI (ZU a b l) := rfl
  rw [e, u112]
  clear h3 h6 h7 h8
  generalize mvR b.cats.l l.c a.cats.l 0 (decide (0 ≤ ZU a b l), 0) = x at *
  simp -implicitDefEqProofs [D112, hi, h5, h1, h2]
 ·unfold mvL at h ⊢
  simp only at h ⊢
  have h9 := (h8.1 h).1
  simp only [decide_eq_true_eq] at h9
  rw [Ub (by omega), h7 h]
end
def moveO (a b : Qw) (c : Q3) : Q3 :=
 (fun x : Int × Int × Int => ⟨x.1, x.2.1, x.2.2, (mvL a b c.lo).1, (mvL a b c.hi).1⟩)
  (XK b (((at' a.users.l c.user).map QU.name).getD []) (((at' a.roles.l c.role).map QQ.name).getD []) (((at' a.types.l c.type).map Q9.name).getD []))
def X3 (a b : Qw) (c : Q3) : Q3 × Int :=
 if QP a c = 0 then (if (mvL a b c.lo).2 = true ∧ (mvL a b c.hi).2 = true ∧ QP b (moveO a b c) = 0 then (moveO a b c, 0) else (Q3.z, 19)) else (Q3.z, QP a c)
theorem Eu {a b : Qw} {c : Q3} (X : CtxOk a c) : moveO a b c = ⟨(XK b X.u.name X.r.name X.t.name).1, (XK b X.u.name X.r.name X.t.name).2.1, (XK b X.u.name X.r.name X.t.name).2.2, (mvL a b c.lo).1, (mvL a b c.hi).1⟩ := by
 have a1 : at' a.users.l c.user = some X.u := by rw [X.eu, at', if_pos (by omega), Int.toNat_natCast, X.hu]
 have a2 : at' a.roles.l c.role = some X.r := by rw [X.er, at', if_pos (by omega), Int.toNat_natCast, X.hr]
 have a3 : at' a.types.l c.type = some X.t := by rw [X.et, at', if_pos (by omega), Int.toNat_natCast, X.ht]
 unfold moveO
 rw [a1, a2, a3]
 rfl
theorem Gz {p : Qw} {lo hi : LvV} (h : rngV p lo hi = true) : (∃ i : Nat, lo.s = i ∧ i < p.sens.l.length) ∧ (∃ i : Nat, hi.s = i ∧ i < p.sens.l.length) ∧ (∀ j, lo.c.testBit j = true → j < p.cats.l.length) ∧ (∀ j, hi.c.testBit j = true → j < p.cats.l.length) := by
 obtain ⟨⟨i, i', e1, e2, h1, h2⟩, h3, h4⟩ := YC (⟨lo.lt, hi.lt⟩ : Rok lo.c hi.c) h
 exact ⟨⟨i, e1, h1⟩, ⟨i', e2, h2⟩, h3, h4⟩
theorem checkC_bad {p : Qw} {c : Q3} (h : c.user < 0 ∨ c.role < 0 ∨ c.type < 0) : QP p c = 3 := by
 unfold QP
 have key : ∀ {α : Type} (l : List α) (i : Int), i < 0 → at' l i = none := fun l i h => by unfold at'; rw [if_neg (by omega)]
 rcases h with h | h | h
 ·rw [key _ _ h]
 ·rw [key _ _ h]; cases at' p.users.l c.user <;> rfl
 ·rw [key _ _ h]; cases at' p.users.l c.user <;> cases at' p.roles.l c.role <;> rfl
section
variable {n : Nat} (hn : 2300 ≤ n) (a b : Qw) (ga : Zg a) (gb : Zg b) (c : Q3)
include hn ga gb
theorem e70 : cpJ PR n 70 [a.d, b.d, c.d] = some (.tup [(X3 a b c).1.d, .int .i64 (X3 a b c).2]) := by
 obtain ⟨n, rfl⟩ : ∃ m, n = m + 1 := ⟨n - 1, by omega⟩
 have h1 := e44 (n := n) (by omega) a c
 rw [u70]
 unfold X3
 by_cases h : QP a c = 0
 ·obtain ⟨X⟩ := Vr h
  rw [if_pos h]
  rw [h] at h1
  obtain ⟨⟨i, hi, hil⟩, ⟨i', hi', hil'⟩, -, -⟩ := Gz X.rng
  have h2 := e110 (n := n) (by omega) a b ga.small gb.small c.lo hi hil
  have h3 := e110 (n := n) (by omega) a b ga.small gb.small c.hi hi' hil'
  rw [Eu X]
  have x1 := X.hu
  have x2 := X.hr
  have x3 := X.ht
  have y1 := X.eu
  have y2 := X.er
  have y3 := X.et
  generalize X.u = u at *
  generalize X.r = r at *
  generalize X.t = t at *
  have k1 := e107 (n := n) (by omega) b gb.small u.name
  have k2 := e108 (n := n) (by omega) b gb.small r.name
  have k3 := e109 (n := n) (by omega) b gb.small t.name
  change _ = some (Qa.int .i64 (XK b u.name r.name t.name).1) at k1
  change _ = some (Qa.int .i64 (XK b u.name r.name t.name).2.1) at k2
  change _ = some (Qa.int .i64 (XK b u.name r.name t.name).2.2) at k3
  generalize XK b u.name r.name t.name = x at *
  generalize mvL a b c.lo = m1 at *
  generalize mvL a b c.hi = m2 at *
  obtain ⟨xu, xr, xt⟩ := x
  obtain ⟨lo, q1⟩ := m1
  obtain ⟨hi2, q2⟩ := m2
  simp only at *
  have k4 : cpJ PR n 44 [b.d, ctxA xu xr xt lo hi2] = some (.int .i64 (QP b ⟨xu, xr, xt, lo, hi2⟩)) := e44 (n := n) (by omega) b ⟨xu, xr, xt, lo, hi2⟩
  cases q1
  ·simp -implicitDefEqProofs [D70, h1, x1, x2, x3, y1, y2, y3, k1, k2, k3, h2, h3]
   rfl
  ·cases q2
   ·simp -implicitDefEqProofs [D70, h1, x1, x2, x3, y1, y2, y3, k1, k2, k3, h2, h3]
    rfl
   ·by_cases hc : QP b ⟨xu, xr, xt, lo, hi2⟩ = 0
    ·rw [if_pos ⟨rfl, rfl, hc⟩]
     rw [hc] at k4
     simp -implicitDefEqProofs [D70, h1, x1, x2, x3, y1, y2, y3, k1, k2, k3, h2, h3, k4]
     rfl
    ·rw [if_neg (λh=> hc h.2.2)]
     simp -implicitDefEqProofs [D70, h1, x1, x2, x3, y1, y2, y3, k1, k2, k3, h2, h3, k4, hc]
     rfl
 ·rw [if_neg h]
  simp -implicitDefEqProofs [D70, h1, h]
  rfl
theorem e72 : cpJ PR n 72 [a.d, b.d, c.d] = some (.tup [(X3 a b c).1.d, .int .i64 (X3 a b c).2]) := by
 obtain ⟨n, rfl⟩ : ∃ m, n = m + 1 := ⟨n - 1, by omega⟩
 have h1 := e65 (n := n) (by omega) a c
 rw [u72]
 unfold X3
 by_cases h : QP a c = 0
 ·obtain ⟨X⟩ := Vr h
  rw [if_pos h]
  rw [h] at h1
  obtain ⟨⟨i, hi, hil⟩, ⟨i', hi', hil'⟩, -, -⟩ := Gz X.rng
  obtain ⟨l1, h2, h2'⟩ := e112 (n := n) (by omega) a b ga.small gb.small c.lo hi hil
  obtain ⟨l2, h3, h3'⟩ := e112 (n := n) (by omega) a b ga.small gb.small c.hi hi' hil'
  rw [Eu X]
  have x1 := X.hu
  have x2 := X.hr
  have x3 := X.ht
  have y1 := X.eu
  have y2 := X.er
  have y3 := X.et
  generalize X.u = u at *
  generalize X.r = r at *
  generalize X.t = t at *
  have k1 := e111 (n := n) (by omega) b gb.small u.name r.name t.name
  generalize XK b u.name r.name t.name = x at *
  generalize mvL a b c.lo = m1 at *
  generalize mvL a b c.hi = m2 at *
  obtain ⟨xu, xr, xt⟩ := x
  obtain ⟨lo, q1⟩ := m1
  obtain ⟨hi2, q2⟩ := m2
  simp only at *
  by_cases hok : okI (xu, xr, xt) = true
  ·obtain ⟨o1, o2, o3⟩ := okI_iff.1 hok
   simp only at o1 o2 o3
   rw [hok, Ub o1, Ub o2, Ub o3] at k1
   cases q1
   ·simp -implicitDefEqProofs [D72, h1, x1, x2, x3, y1, y2, y3, k1, h2, h3]
    rfl
   ·cases q2
    ·simp -implicitDefEqProofs [D72, h1, x1, x2, x3, y1, y2, y3, k1, h2, h3]
     rfl
    ·obtain rfl := h2' rfl
     obtain rfl := h3' rfl
     have k4 : cpJ PR n 65 [b.d, ctxA xu xr xt l1 l2] = some (.int .i64 (QP b ⟨xu, xr, xt, l1, l2⟩)) := e65 (n := n) (by omega) b ⟨xu, xr, xt, l1, l2⟩
     by_cases hc : QP b ⟨xu, xr, xt, l1, l2⟩ = 0
     ·rw [if_pos ⟨rfl, rfl, hc⟩]
      rw [hc] at k4
      simp -implicitDefEqProofs [D72, h1, x1, x2, x3, y1, y2, y3, k1, h2, h3, k4]
      rfl
     ·rw [if_neg (λh=> hc h.2.2)]
      simp -implicitDefEqProofs [D72, h1, x1, x2, x3, y1, y2, y3, k1, h2, h3, k4, hc]
      rfl
  ·have hok' : okI (xu, xr, xt) = false := by simpa using hok
   rw [hok'] at k1
   have hbad : QP b ⟨xu, xr, xt, lo, hi2⟩ = 3 := checkC_bad (by
    have : ¬ (¬ xu < 0 ∧ ¬ xr < 0 ∧ ¬ xt < 0) := λh=> hok (okI_iff.2 h)
    simp only
    omega)
   rw [if_neg (λh=> by rw [hbad] at h; have := h.2.2; omega)]
   simp -implicitDefEqProofs [D72, h1, x1, x2, x3, y1, y2, y3, k1, h2, h3]
   rfl
 ·rw [if_neg h]
  simp -implicitDefEqProofs [D72, h1, h]
  rfl
end
theorem nm_get {l : List Bs} {i : Nat} {s : Bs} (h : l[i]? = some s) : nm l i = s := by rw [nm, List.getD_eq_getElem?_getD, h]; rfl
theorem idx_get {l : List Bs} (hd : l.Nodup) {i : Nat} {s : Bs} (h : l[i]? = some s) : Za s l 0 = i := by
 have h1 := (List.getElem?_eq_some_iff.1 h).1
 rw [← nm_get h]; exact idx_nm hd h1
theorem mvL_self {a : Qw} (g : Zg a) (l : LvV) {i : Nat} (hi : l.s = i) (hil : i < a.sens.l.length) (hv : ∀ j, l.c.testBit j = true → j < a.cats.l.length) : mvL a a l = (l, true) := by
 have hs : ZU a a l = i := by unfold ZU; rw [hi, Int.toNat_natCast]; exact idx_nm g.cats.1.nd hil
 have h1 : (mvP a.cats.l l.c a.cats.l 0 (decide (0 ≤ ZU a a l), 0)).1 = true := by
  rw [mvP_ok]
  refine ⟨by rw [hs]; simp, fun j s hj _ => ?_⟩
  rw [idx_get g.cats.2.nd hj]; omega
 have h2 : (mvP a.cats.l l.c a.cats.l 0 (decide (0 ≤ ZU a a l), 0)).2 = l.c := by
  refine Nat.eq_of_testBit_eq λk=> ?_
  rw [Bool.eq_iff_iff, mvP_bit]
  simp only [Nat.zero_testBit, Bool.false_eq_true, false_or, Nat.zero_add]
  constructor
  ·rintro ⟨j, s, hj, hb, he⟩
   rw [idx_get g.cats.2.nd hj] at he
   obtain rfl : j = k := by omega
   exact hb
  ·intro hb
   have hk := Yx (hv k hb)
   exact ⟨k, _, hk, hb, idx_get g.cats.2.nd hk⟩
 unfold mvL
 rw [h1, h2, hs]
 obtain ⟨s, c, hc⟩ := l
 simp only at hi ⊢
 subst hi
 simp only [lvOf, Nat.mod_eq_of_lt hc]
theorem Q3.ext' {a b : Q3} (h1 : a.user = b.user) (h2 : a.role = b.role) (h3 : a.type = b.type) (h4 : a.lo = b.lo) (h5 : a.hi = b.hi) : a = b := by
 cases a; cases b
 simp only at h1 h2 h3 h4 h5
 subst h1 h2 h3 h4 h5
 rfl
theorem move_self {a : Qw} (g : Zg a) {c : Q3} (h : QP a c = 0) : X3 a a c = (c, 0) := by
 obtain ⟨X⟩ := Vr h
 obtain ⟨⟨i, hi, hil⟩, ⟨i', hi', hil'⟩, hb, hb'⟩ := Gz X.rng
 have m1 := mvL_self g c.lo hi hil hb
 have m2 := mvL_self g c.hi hi' hil' hb'
 have e : moveO a a c = c := by
  rw [Eu X]
  have hn : XK a X.u.name X.r.name X.t.name = (c.user, c.role, c.type) := by
   unfold XK
   rw [find_user g X.hu, find_role g X.hr, find_type g X.ht, X.eu, X.er, X.et]
  rw [hn, m1, m2]
 unfold X3
 rw [if_pos h, e, m1, m2, if_pos ⟨rfl, rfl, h⟩]
end Go.Proofs.YtdibpeknpmhknaaGreat
namespace Go.Proofs.YtdibpeknpmhknaaGreat
open Go
def ceq (a b : Q3) : Bool :=
 a.user == b.user && (a.role == b.role && (a.type == b.type && (a.lo.s == b.lo.s && (decide (a.lo.c = b.lo.c) && (a.hi.s == b.hi.s && decide (a.hi.c = b.hi.c))))))
theorem JC {a b : Q3} : ceq a b = true ↔ a = b := by
 constructor
 ·intro h
  simp only [ceq, Bool.and_eq_true, beq_iff_eq, decide_eq_true_eq] at h
  obtain ⟨h1, h2, h3, h4, h5, h6, h7⟩ := h
  exact Q3.ext' h1 h2 h3 (LvV.ext' h4 (by rw [h5])) (LvV.ext' h6 (by rw [h7]))
 ·rintro rfl
  simp [ceq]
theorem JA (a : Q3) : ceq a a = true := JC.2 rfl
abbrev KC : List CK := [.i .i64, .i .i64, .i .i64, .i .i64, .i .u64, .i .i64, .i .u64]
theorem Ud (a b : Q3) : QM KC a.row b.row = some (ceq a b) := by
 simp [Q3.row, LvV.row, QM, Wy, ceq, UO]
theorem eq_ctx (a b : Q3) : QZ false KC [a.d, b.d] = some (.bool (ceq a b)) := by
 show (QM KC a.row b.row).map _ = _
 rw [Ud]; rfl
theorem ne_ctx (a b : Q3) : QZ true KC [a.d, b.d] = some (.bool !(ceq a b)) := by
 rw [show QZ true KC [a.d, b.d] = (QM KC a.row b.row).map (λq=> Qa.bool (if true = true then !q else q)) from rfl, Ud]; rfl
structure Q1 where
 name : Bs
 ctx : Q3
 mapped : Bool
 home : Qw
 at_ : Q3
def Q1.row (r : Q1) : List Qa := .str r.name :: (r.ctx.row ++ (.bool r.mapped :: (r.home.row ++ r.at_.row)))
def Q1.d (r : Q1) : Qa := .agg r.row
def Q1.ok (p : Qw) (s : Bs) (c : Q3) : Q1 := ⟨s, c, true, p, c⟩
theorem rrow_len (r : Q1) : r.row.length = 33 := rfl
@[simp high] theorem rrow_name (r : Q1) : Ql none [.elem r.row 0] = some (.str r.name) := rfl
@[simp high] theorem rrow_ctx (r : Q1) : Ql (some 7) [.elem r.row 1] = some r.ctx.d := rfl
@[simp high] theorem rrow_mapped (r : Q1) : Ql none [.elem r.row 8] = some (.bool r.mapped) := rfl
@[simp high] theorem rrow_home (r : Q1) : Ql (some 17) [.elem r.row 9] = some r.home.d := rfl
@[simp high] theorem rrow_at (r : Q1) : Ql (some 7) [.elem r.row 26] = some r.at_.d := rfl
@[simp high] theorem rrow_all (r : Q1) : Ql (some 33) [.elem r.row 0] = some r.d := rfl
theorem Ht (r : Q1) : QN r.row = some r.row := by
 simp [Q1.row, Qw.row, Q3.row, LvV.row, QN]
@[simp high] theorem rrow_seal (r : Q1) : r.d.sealVal = some r.d := by
 show (QN r.row).map _ = _
 rw [Ht]; rfl
theorem HM (r : Q1) : r.row.all Qa.okCell = true := by
 simp [Q1.row, Qw.row, Q3.row, LvV.row]
@[simp high] theorem rrow_okVal (r : Q1) : r.d.okVal = true := HM r
@[simp high] theorem rrow_stale (r : Q1) : r.d.stale = r.d := rfl
@[simp high] theorem rrow_back (r : Q1) (σ : Sto) : r.d.handBack σ = some r.d := by
 rw [show r.d.handBack σ = r.d.sealVal.or (r.d.snapVal σ) from rfl, rrow_seal]; rfl
@[simp high] theorem rrow_box (r : Q1) : Qm [r.d] = some r.d := by
 show (if r.row.all Qa.okCell then _ else _) = _
 rw [HM]; rfl
@[simp high] theorem rrow_whole (r : Q1) : Qb 0 (some 33) [r.d] = some r.d := rfl
@[simp high] theorem rrow_f0 (r : Q1) : Qb 0 none [r.d] = some (.str r.name) := rfl
@[simp high] theorem rrow_f1 (r : Q1) : Qb 1 (some 7) [r.d] = some r.ctx.d := rfl
@[simp high] theorem rrow_f8 (r : Q1) : Qb 8 none [r.d] = some (.bool r.mapped) := rfl
@[simp high] theorem rrow_f9 (r : Q1) : Qb 9 (some 17) [r.d] = some r.home.d := rfl
@[simp high] theorem rrow_f26 (r : Q1) : Qb 26 (some 7) [r.d] = some r.at_.d := rfl
theorem Vd (C : Qj) (r : Q1) : POp.sem C [r.d] (.bslice false 33) = some (.slice false 1 33 [r.row]) := by
 show (ZX false 33 [r.d]).map _ = _
 have h1 : r.d.cells = r.row := rfl
 simp [ZX, h1, rrow_len, Ht]
theorem wr_whole {xs cs : List Qa} (h1 : xs.length = cs.length) (h2 : cs.all Qa.okCell = true) : Qh 0 cs.length [.agg xs, .agg cs] = some (.agg cs) := by
 simp [Qh, Qa.cells, h2, QX, h1]
theorem rrow_wr {xs : List Qa} (h : xs.length = 33) (r : Q1) : Qh 0 33 [.agg xs, r.d] = some r.d := wr_whole (by rw [h]; rfl) (HM r)
def stD (p : Qw) (v : Qa) : Qa := .agg (p.row ++ [v])
section
variable {p : Qw} {v : Qa}
@[simp high] theorem st_rows : Qb 17 none [stD p v] = some v := rfl
@[simp high] theorem st_pol : Qb 0 (some 17) [stD p v] = some p.d := rfl
@[simp high] theorem st_whole : Qb 0 (some 18) [stD p v] = some (stD p v) := rfl
theorem st_okc (h : v.okCell = true) : (p.row ++ [v]).all Qa.okCell = true := by
 simp [Qw.row, h]
theorem st_box (h : v.okCell = true) : Qm [stD p v] = some (stD p v) := by
 show (if (p.row ++ [v]).all Qa.okCell then _ else _) = _
 rw [st_okc h]; rfl
theorem J0 (h : v.okCell = true) : (stD p v).okVal = true := st_okc h
theorem st_wr {xs : List Qa} (hx : xs.length = 18) (h : v.okCell = true) : Qh 0 18 [.agg xs, stD p v] = some (stD p v) := wr_whole (by rw [hx]; rfl) (st_okc h)
theorem st_set {u : Qa} (hc : v.cells = [v]) (h : v.okCell = true) : Qh 17 1 [stD p u, v] = some (stD p v) := by
 simp [Qh, stD, hc, h, QX, Qw.row]
theorem st_seal {u : Qa} (h : v.sealCell = some u) : (stD p v).sealVal = some (stD p u) := by
 simp [stD, Qa.sealVal, Qw.row, QN, h]
@[simp] theorem st_stale : (stD p v).stale = stD p v := rfl
theorem st_build (C : Qj) : POp.sem C [p.d] (.build [.nils, .nils, .nils, .nils, .nils, .nils, .nils, .nils, .nils, .nils, .nils, .nils, .nils, .nils, .nils, .nils, .nils, .nils] [(0, 17)]) = some (stD p .nils) := rfl
theorem st_build0 (C : Qj) : POp.sem C [] (.build [.nils, .nils, .nils, .nils, .nils, .nils, .nils, .nils, .nils, .nils, .nils, .nils, .nils, .nils, .nils, .nils, .nils, .nils] []) = some (.agg [.nils, .nils, .nils, .nils, .nils, .nils, .nils, .nils, .nils, .nils, .nils, .nils, .nils, .nils, .nils, .nils, .nils, .nils]) := rfl
end
def rD (p : Qw) (s : Sl Q1) : Qa := stD p (QJ 33 Q1.row s)
section
variable {p : Qw} {s : Sl Q1}
@[simp high] theorem rD_rows : Qb 17 none [rD p s] = some (QJ 33 Q1.row s) := rfl
@[simp high] theorem rD_pol : Qb 0 (some 17) [rD p s] = some p.d := rfl
@[simp high] theorem rD_whole : Qb 0 (some 18) [rD p s] = some (rD p s) := rfl
@[simp high] theorem rD_box : Qm [rD p s] = some (rD p s) := st_box Wq
@[simp high] theorem rD_okVal : (rD p s).okVal = true := J0 Wq
@[simp high] theorem rD_seal : (rD p s).sealVal = some (rD p s) := st_seal Uo
@[simp high] theorem rD_stale : (rD p s).stale = rD p s := rfl
@[simp high] theorem rD_back (σ : Sto) : (rD p s).handBack σ = some (rD p s) := by
 rw [show (rD p s).handBack σ = (rD p s).sealVal.or ((rD p s).snapVal σ) from rfl, rD_seal]; rfl
theorem V5 {xs : List Qa} (hx : xs.length = 18) : Qh 0 18 [.agg xs, rD p s] = some (rD p s) := st_wr hx Wq
end
theorem e32 {n : Nat} (hn : 1 ≤ n) (p : Qw) (s : Bs) (c : Q3) : cpJ PR n 32 [p.d, .str s, c.d] = some (Q1.ok p s c).d := by
 obtain ⟨n, rfl⟩ : ∃ m, n = m + 1 := ⟨n - 1, by omega⟩
 have hb : POp.sem (cpJ PR n) [.str s, c.d, .bool true, p.d, c.d] (.build [(.str []), (.int .i64 0), (.int .i64 0), (.int .i64 0), (.int .i64 0), (.int .u64 0), (.int .i64 0), (.int .u64 0), (.bool false), .nils, .nils, .nils, .nils, .nils, .nils, .nils, .nils, .nils, .nils, .nils, .nils, .nils, .nils, .nils, .nils, .nils, (.int .i64 0), (.int .i64 0), (.int .i64 0), (.int .i64 0), (.int .u64 0), (.int .i64 0), (.int .u64 0)] [(0, 1), (1, 7), (8, 1), (9, 17), (26, 7)]) = some (Q1.ok p s c).d := rfl
 have hw := rrow_wr (xs := [(.str []), (.int .i64 0), (.int .i64 0), (.int .i64 0), (.int .i64 0), (.int .u64 0), (.int .i64 0), (.int .u64 0), (.bool false), .nils, .nils, .nils, .nils, .nils, .nils, .nils, .nils, .nils, .nils, .nils, .nils, .nils, .nils, .nils, .nils, .nils, (.int .i64 0), (.int .i64 0), (.int .i64 0), (.int .i64 0), (.int .u64 0), (.int .i64 0), (.int .u64 0)]) rfl (Q1.ok p s c)
 rw [u32]
 simp -implicitDefEqProofs [D32, hb, hw, -Qh.eq_1]
theorem e34 {n : Nat} (hn : 1 ≤ n) (p : Qw) (s : Sl Q1) : cpJ PR n 34 [rD p s] = some (.int .i64 s.l.length) := by
 obtain ⟨n, rfl⟩ : ∃ m, n = m + 1 := ⟨n - 1, by omega⟩
 rw [u34]
 simp -implicitDefEqProofs [D34]
def inR (i : Int) (k : Nat) : Bool := decide (1 ≤ i) && decide (i ≤ k)
theorem e67 {n : Nat} (hn : 1 ≤ n) (p : Qw) (s : Sl Q1) (i : Int) : cpJ PR n 67 [rD p s, .int .i64 i] = some (.bool (inR i s.l.length)) := by
 obtain ⟨n, rfl⟩ : ∃ m, n = m + 1 := ⟨n - 1, by omega⟩
 rw [u67]
 simp -implicitDefEqProofs +contextual [D67, inR]
theorem VR {α : Type} {l : List α} {i : Int} (h : inR i l.length = true) : ∃ (j : Nat) (x : α), i = j + 1 ∧ l[j]? = some x := by
 simp only [inR, Bool.and_eq_true, decide_eq_true_eq] at h
 obtain ⟨x, hx⟩ := Qz (l := l) (i := (i - 1).toNat) (by omega)
 exact ⟨(i - 1).toNat, x, by omega, hx⟩
def Yd {α : Type} (l : List α) (i : Int) : Option α := if 1 ≤ i then l[(i - 1).toNat]? else none
theorem XR {α : Type} {l : List α} {i : Int} {j : Nat} {x : α} (e : i = j + 1) (h : l[j]? = some x) : Yd l i = some x := by
 rw [Yd, if_pos (by omega), show (i - 1).toNat = j by omega, h]
theorem Wg {α : Type} {l : List α} {i : Int} (h : inR i l.length = false) : Yd l i = none := by
 unfold Yd
 split
 ·rename_i h1
  have : ¬ i ≤ l.length := λh2=> by simp [inR, h1, h2] at h
  exact List.getElem?_eq_none (by omega)
 ·rfl
section
variable {n : Nat} (hn : 3 ≤ n) (p : Qw) (s : Sl Q1) (hl : s.l.length ≤ 100000) (i : Int)
include hn hl
theorem e35 : cpJ PR n 35 [rD p s, .int .i64 i] = some (match Yd s.l i with | some r => .tup [r.ctx.d, .bool true] | none => .tup [Q3.z.d, .bool false]) := by
 obtain ⟨n, rfl⟩ : ∃ m, n = m + 1 := ⟨n - 1, by omega⟩
 have h1 := e67 (n := n) (by omega) p s i
 rw [u35]
 cases h : inR i s.l.length with
 | false =>
  rw [h] at h1
  rw [Wg h]
  simp -implicitDefEqProofs [D35, h1, XF]
  rfl
 | true =>
  rw [h] at h1
  obtain ⟨j, x, e, hx⟩ := VR h
  have hj := (List.getElem?_eq_some_iff.1 hx).1
  have hw : IntKind.i64.wrap (i - 1) = (j : Int) := by rw [e, show ((j : Int) + 1 - 1) = j by omega, Ze (by omega) (by omega)]
  rw [XR e hx]
  simp -implicitDefEqProofs [D35, h1, hw, hx]
theorem e36 : cpJ PR n 36 [rD p s, .int .i64 i] = some (match Yd s.l i with | some r => .tup [.str r.name, .bool (!(r.name == []))] | none => .tup [.str [], .bool false]) := by
 obtain ⟨n, rfl⟩ : ∃ m, n = m + 1 := ⟨n - 1, by omega⟩
 have h1 := e67 (n := n) (by omega) p s i
 rw [u36]
 cases h : inR i s.l.length with
 | false =>
  rw [h] at h1
  rw [Wg h]
  simp -implicitDefEqProofs [D36, h1]
 | true =>
  rw [h] at h1
  obtain ⟨j, x, e, hx⟩ := VR h
  have hj := (List.getElem?_eq_some_iff.1 hx).1
  have hw : IntKind.i64.wrap (i - 1) = (j : Int) := by rw [e, show ((j : Int) + 1 - 1) = j by omega, Ze (by omega) (by omega)]
  rw [XR e hx]
  cases hb : (x.name == []) with
  | true =>
   have hb' : x.name = [] := by simpa using hb
   simp -implicitDefEqProofs [D36, h1, hw, hx, hb']
  | false =>
   have hb' : ¬ x.name = [] := by simpa using hb
   simp -implicitDefEqProofs [D36, h1, hw, hx, hb']
theorem e38 : cpJ PR n 38 [rD p s, .int .i64 i] = some (.bool (match Yd s.l i with | some r => r.mapped | none => false)) := by
 obtain ⟨n, rfl⟩ : ∃ m, n = m + 1 := ⟨n - 1, by omega⟩
 have h1 := e67 (n := n) (by omega) p s i
 rw [u38]
 cases h : inR i s.l.length with
 | false =>
  rw [h] at h1
  rw [Wg h]
  simp -implicitDefEqProofs [D38, h1]
 | true =>
  rw [h] at h1
  obtain ⟨j, x, e, hx⟩ := VR h
  have hj := (List.getElem?_eq_some_iff.1 hx).1
  have hw : IntKind.i64.wrap (i - 1) = (j : Int) := by rw [e, show ((j : Int) + 1 - 1) = j by omega, Ze (by omega) (by omega)]
  rw [XR e hx]
  simp -implicitDefEqProofs [D38, h1, hw, hx]
end
end Go.Proofs.YtdibpeknpmhknaaGreat
namespace Go.Proofs.YtdibpeknpmhknaaGreat
open Go
def okS (p : Qw) (s : ZD) : Bool := QP p s.ctx == 0
def ZP (p : Qw) : Bool := p.sids.l.all (okS p) && decide (p.sids.l.length ≤ 1024)
theorem l31 {n : Nat} (hn : 100 ≤ n) (p : Qw) (hl : p.sids.l.length ≤ 1000) (σ : Sto) : ∀ (k i m : Nat) (b : Qa), i + k = p.sids.l.length → k < m →
  Qv 0 (L31_0 (cpJ PR n) (ciJ PR n) n p.d) m [.int .i64 i, b] σ = some (.done (.bool ((p.sids.l.drop i).all (okS p) && decide (p.sids.l.length ≤ 1024))) σ) := by
 intro k
 induction k with
 | zero =>
  intro i m b hi hm
  obtain ⟨m, rfl⟩ : ∃ j, m = j + 1 := ⟨m - 1, by omega⟩
  have hi' : ¬ ((i : Int) < p.sids.l.length) := by omega
  rw [List.drop_eq_nil_of_le (by omega)]
  refine Qt ?_
  have hc : ((p.sids.l.length : Int) ≤ 1024) = (p.sids.l.length ≤ 1024) := by rw [eq_iff_iff]; omega
  simp -implicitDefEqProofs [L31_0, B31_0, hi', hc]
 | succ k ih =>
  intro i m b hi hm
  obtain ⟨m, rfl⟩ : ∃ j, m = j + 1 := ⟨m - 1, by omega⟩
  have hi' : ((i : Int) < p.sids.l.length) := by omega
  obtain ⟨y, hy⟩ := Qz (by omega : i < p.sids.l.length)
  have hwr := QT (by omega : i < p.sids.l.length) (by unfold maxLen; omega)
  have h1 := e65 (n := n) hn p y.ctx
  rw [QY hy, List.all_cons]
  have hb := okS.eq_1 p y
  generalize QP p y.ctx = q at h1 hb
  by_cases hq : q = 0
  ·subst hq
   rw [hb, show (((0 : Int) == 0) : Bool) = true from rfl, Bool.true_and, ← ih (i + 1) m b (by omega) (by omega)]
   refine Qx ?_
   simp -implicitDefEqProofs [L31_0, B31_0, hi', hy, hwr, h1]
  ·have hq' : (q != 0) = true := by simpa using hq
   have hq2 : (q == 0) = false := by simpa using hq
   rw [hb, hq2]
   refine Qt ?_
   simp -implicitDefEqProofs [L31_0, B31_0, hi', hy, hwr, h1, hq']
theorem e31 {n : Nat} (hn : 1100 ≤ n) {p : Qw} (hl : p.sids.l.length ≤ 1000) : cpJ PR n 31 [p.d] = some (.bool (ZP p)) := by
 obtain ⟨n, rfl⟩ : ∃ m, n = m + 1 := ⟨n - 1, by omega⟩
 have h1 := l31 (n := n) (by omega) p hl Qd p.sids.l.length 0 n (.bool false) (by omega) (by omega)
 simp only [Int.natCast_zero, List.drop_zero] at h1
 rw [u31]
 simp -implicitDefEqProofs [D31, h1, ZP]
def Qw.z : Qw := ⟨⟨.nil, []⟩, ⟨.nil, []⟩, ⟨.nil, []⟩, ⟨.nil, []⟩, ⟨.nil, []⟩, ⟨.nil, []⟩, ⟨.nil, []⟩, ⟨.nil, []⟩, ⟨.nil, []⟩, ⟨.nil, []⟩, ⟨.nil, []⟩, ⟨.nil, []⟩, ⟨.nil, []⟩, ⟨.nil, []⟩, ⟨.nil, []⟩, ⟨.nil, []⟩, ⟨.nil, []⟩⟩
def Zf (p : Qw) : List Q1 := p.sids.l.map λs=> Q1.ok p s.name s.ctx
theorem l11 {n : Nat} (hn : 2 ≤ n) (p : Qw) (hl : p.sids.l.length ≤ 1000) : ∀ (k i m : Nat) (v : Qa) (σ : Sto), i + k = p.sids.l.length → k < m → Own σ 33 v ((Zf p).take i |>.map Q1.row) →
  ∃ v' σ', Qv 0 (L11_0 (cpJ PR n) (ciJ PR n) n p.d) m [.int .i64 i, stD p v] σ = some (.done (.tup [stD p v', .bool true]) σ') ∧ Own σ' 33 v' ((Zf p).map Q1.row) := by
 intro k
 induction k with
 | zero =>
  intro i m v σ hi hm hv
  obtain ⟨m, rfl⟩ : ∃ j, m = j + 1 := ⟨m - 1, by omega⟩
  have hi' : ¬ ((i : Int) < p.sids.l.length) := by omega
  rw [List.take_of_length_le (by simp [Zf]; omega)] at hv
  refine ⟨v, σ, Qt ?_, hv⟩
  have hw := st_wr (p := p) (v := v) (xs := [.nils, .nils, .nils, .nils, .nils, .nils, .nils, .nils, .nils, .nils, .nils, .nils, .nils, .nils, .nils, .nils, .nils, .nils]) rfl (Xe hv)
  have ho := J0 (p := p) (Xe hv)
  simp -implicitDefEqProofs [L11_0, B11_0, hi', hw, ho, -Qh.eq_1]
 | succ k ih =>
  intro i m v σ hi hm hv
  obtain ⟨m, rfl⟩ : ∃ j, m = j + 1 := ⟨m - 1, by omega⟩
  have hi' : ((i : Int) < p.sids.l.length) := by omega
  obtain ⟨y, hy⟩ := Qz (by omega : i < p.sids.l.length)
  have hwr := QT (by omega : i < p.sids.l.length) (by unfold maxLen; omega)
  have h1 := e32 (n := n) (by omega) p y.name y.ctx
  have h2 := Vd (cpJ PR n) (Q1.ok p y.name y.ctx)
  have hlen : ((Zf p).take i).length = i := by simp [Zf]; omega
  obtain ⟨v', σ', h3, h4⟩ := XD (own := 1) (r := (Q1.ok p y.name y.ctx).row) hv (by rw [List.length_map, hlen]; omega)
  have hy2 : (Zf p)[i]? = some (Q1.ok p y.name y.ctx) := by simp [Zf, hy]
  have h5 : Own σ' 33 v' (((Zf p).take (i + 1)).map Q1.row) := by rw [Zp hy2, List.map_append]; exact h4
  obtain ⟨v2, σ2, g1, g2⟩ := ih (i + 1) m v' σ' (by omega) (by omega) h5
  refine ⟨v2, σ2, ?_, g2⟩
  rw [← g1]
  refine Qx ?_
  have h6 := st_set (p := p) (u := v) (V_ h4) (Xe h4)
  simp -implicitDefEqProofs [L11_0, B11_0, hi', hy, hwr, h1, h2, h3, h6, -Qh.eq_1]
theorem JM {σ : Sto} {sz : Nat} {v : Qa} {l : List (List Qa)} (h : Own σ sz v l) : ∃ z, v.sealCell = some (slD z sz l) := by
 obtain ⟨z, hz⟩ := X7 h
 rcases h with ⟨rfl, -⟩ | rfl | ⟨t, rfl, -⟩ <;> exact ⟨z, hz⟩
theorem back_st {σ : Sto} {p : Qw} {v : Qa} {l : List Q1} {rest : List Qa} (h : Own σ 33 v (l.map Q1.row)) (hr : Zv rest = some rest) : ∃ z, (Qa.tup (stD p v :: rest)).handBack σ = some (.tup (rD p ⟨z, l⟩ :: rest)) := by
 obtain ⟨z, hz⟩ := JM h
 refine ⟨z, ?_⟩
 have h1 := st_seal (p := p) hz
 show ((Zv (stD p v :: rest)).or _).map _ = _
 simp only [Zv, h1, hr]
 rfl
theorem e11 {n : Nat} (hn : 1200 ≤ n) {p : Qw} (hl : p.sids.l.length ≤ 1000) : if ZP p then ∃ z, cpJ PR n 11 [p.d] = some (.tup [rD p ⟨z, Zf p⟩, .bool true]) else cpJ PR n 11 [p.d] = some (.tup [rD Qw.z ⟨.nil, []⟩, .bool false]) := by
 obtain ⟨n, rfl⟩ : ∃ m, n = m + 1 := ⟨n - 1, by omega⟩
 have h1 := e31 (n := n) (by omega) hl
 split
 ·rename_i hr
  rw [hr] at h1
  obtain ⟨v, σ, h2, h3⟩ := l11 (n := n) (by omega) p hl p.sids.l.length 0 n .nils Qd (by omega) (by omega) (X5 _ _)
  simp only [Int.natCast_zero] at h2
  obtain ⟨z, hz⟩ := back_st (p := p) (rest := [.bool true]) h3 rfl
  refine ⟨z, ?_⟩
  rw [u11]
  have h4 := st_build (p := p) (cpJ PR n)
  have h5 := st_wr (p := p) (v := .nils) (xs := [.nils, .nils, .nils, .nils, .nils, .nils, .nils, .nils, .nils, .nils, .nils, .nils, .nils, .nils, .nils, .nils, .nils, .nils]) rfl rfl
  simp -implicitDefEqProofs [D11, h1, h2, h4, h5, hz, -Qh.eq_1, -Qa.handBack.eq_2, -POp.sem.eq_17]
 ·rename_i hr
  have hr' : ZP p = false := by simpa using hr
  rw [hr'] at h1
  rw [u11]
  have h4 : POp.sem (cpJ PR n) [] (.build [.nils, .nils, .nils, .nils, .nils, .nils, .nils, .nils, .nils, .nils, .nils, .nils, .nils, .nils, .nils, .nils, .nils, .nils] []) = some (rD Qw.z ⟨.nil, []⟩) := rfl
  have h5 := V5 (p := Qw.z) (s := ⟨.nil, []⟩) (xs := [.nils, .nils, .nils, .nils, .nils, .nils, .nils, .nils, .nils, .nils, .nils, .nils, .nils, .nils, .nils, .nils, .nils, .nils]) rfl
  have h6 : (Qa.tup [rD Qw.z ⟨.nil, []⟩, .bool false]).handBack Qd = some (.tup [rD Qw.z ⟨.nil, []⟩, .bool false]) := rfl
  simp -implicitDefEqProofs [D11, h1, h4, h5, h6, -Qh.eq_1, -POp.sem.eq_17, -Qa.handBack.eq_2]
def WP (c : Q3) (r : Q1) : Bool := r.mapped && ceq r.ctx c
def Vh (p : Qw) (l : List Q1) (c : Q3) : Int → List Q1 × Int × Int
 | .ofNat i => (l, (i + 1 : Nat), 0)
 | _ => if 1024 ≤ l.length then (l, 0, 25) else (l ++ [Q1.ok p [] c], (l.length + 1 : Nat), 0)
def YL (p : Qw) (l : List Q1) (c : Q3) : List Q1 × Int × Int :=
 if QP p c = 0 then Vh p l c (QH (WP c) l 0) else (l, 0, QP p c)
theorem e66 {n : Nat} (hn : 1 ≤ n) (p : Qw) (s : Sl Q1) (r : Q1) (hl : s.l.length ≤ 100000) : ∃ z, cpJ PR n 66 [rD p s, r.d] = some (rD p ⟨z, s.l ++ [r]⟩) := by
 obtain ⟨n, rfl⟩ : ∃ m, n = m + 1 := ⟨n - 1, by omega⟩
 obtain ⟨v1, σ1, h1, hv1⟩ := GY (x := QJ 33 Q1.row s) (new := s.l.map Q1.row) (Js Qd 33 []) W9 V6 (by simp; omega)
 rw [List.nil_append] at hv1
 obtain ⟨v2, σ2, h2, hv2⟩ := XD (own := 1) (r := r.row) hv1 (by simp; omega)
 obtain ⟨z, hz⟩ := JM hv2
 refine ⟨z, ?_⟩
 have h3 := Vd (cpJ PR n) r
 have h4 : POp.sem (cpJ PR n) [] (.bslice false 33) = some (.slice false 1 33 []) := rfl
 have h5 : Qh 17 1 [rD p s, v2] = some (stD p v2) := st_set (p := p) (u := QJ 33 Q1.row s) (V_ hv2) (Xe hv2)
 have h6 := st_wr (p := p) (v := v2) (xs := [.nils, .nils, .nils, .nils, .nils, .nils, .nils, .nils, .nils, .nils, .nils, .nils, .nils, .nils, .nils, .nils, .nils, .nils]) rfl (Xe hv2)
 have h7 := J0 (p := p) (Xe hv2)
 have h8 : (stD p v2).handBack σ2 = some (rD p ⟨z, s.l ++ [r]⟩) := by
  rw [show (stD p v2).handBack σ2 = (stD p v2).sealVal.or ((stD p v2).snapVal σ2) from rfl, st_seal hz, rD, QJ, List.map_append]
  rfl
 rw [u66]
 simp -implicitDefEqProofs [D66, h1, h2, h3, h4, h5, h6, h7, h8, -Qh.eq_1, -POp.sem.eq_18]
abbrev zst : Qa := .agg [.nils, .nils, .nils, .nils, .nils, .nils, .nils, .nils, .nils, .nils, .nils, .nils, .nils, .nils, .nils, .nils, .nils, .nils]
theorem l33 {n : Nat} (hn : 2 ≤ n) (p : Qw) (s : Sl Q1) (c : Q3) (hl : s.l.length ≤ 100000) (σ : Sto) : ∀ (k i m : Nat), i + k = s.l.length → k < m →
  ∃ z, Qv 0 (G8 (cpJ PR n) (ciJ PR n) n (rD p s) c.d) m [.int .i64 i, .int .i64 0, .int .i64 0, zst] σ =
   some (.done (.tup [rD p ⟨z, (Vh p s.l c (QH (WP c) (s.l.drop i) i)).1⟩, .int .i64 (Vh p s.l c (QH (WP c) (s.l.drop i) i)).2.1, .int .i64 (Vh p s.l c (QH (WP c) (s.l.drop i) i)).2.2]) σ) := by
 intro k
 have hw : ∀ t : Sl Q1, Qh 0 18 [zst, rD p t] = some (rD p t) := λt=> V5 rfl
 induction k with
 | zero =>
  intro i m hi hm
  obtain ⟨m, rfl⟩ : ∃ j, m = j + 1 := ⟨m - 1, by omega⟩
  have hi' : ¬ ((i : Int) < s.l.length) := by omega
  rw [List.drop_eq_nil_of_le (by omega)]
  have ht : QH (WP c) ([] : List Q1) i = -1 := rfl
  rw [ht]
  by_cases h4 : 1024 ≤ s.l.length
  ·have h4' : (1024 : Int) ≤ s.l.length := by omega
   refine ⟨s.z, Qt ?_⟩
   rw [show Vh p s.l c (-1) = (s.l, 0, 25) from if_pos h4]
   simp -implicitDefEqProofs [G8, B33_0, hi', hw, h4', -Qh.eq_1]
  ·have h4' : ¬ (1024 : Int) ≤ s.l.length := by omega
   have h1 := e32 (n := n) (by omega) p [] c
   obtain ⟨z, h2⟩ := e66 (n := n) (by omega) p s (Q1.ok p [] c) hl
   have h3 : IntKind.i64.wrap ((s.l.length : Int) + 1) = ((s.l.length + 1 : Nat) : Int) := Z3 (by omega)
   refine ⟨z, Qt ?_⟩
   rw [show Vh p s.l c (-1) = (s.l ++ [Q1.ok p [] c], ((s.l.length + 1 : Nat) : Int), 0) from if_neg h4]
   simp -implicitDefEqProofs [G8, B33_0, hi', hw, h4', h1, h2, h3, -Qh.eq_1]
 | succ k ih =>
  intro i m hi hm
  obtain ⟨m, rfl⟩ : ∃ j, m = j + 1 := ⟨m - 1, by omega⟩
  have hi' : ((i : Int) < s.l.length) := by omega
  obtain ⟨y, hy⟩ := Qz (by omega : i < s.l.length)
  have hwr : IntKind.i64.wrap ((i : Int) + 1) = ((i + 1 : Nat) : Int) := Z3 (by omega)
  have he := eq_ctx y.ctx c
  rw [QY hy, QH]
  have next : WP c y = false → G8 (cpJ PR n) (ciJ PR n) n (rD p s) c.d [.int .i64 i, .int .i64 0, .int .i64 0, zst] σ = some (.next 0 [.int .i64 ((i + 1 : Nat) : Int), .int .i64 0, .int .i64 0, zst] σ) := by
   intro hf
   cases hm : y.mapped with
   | false => simp -implicitDefEqProofs [G8, B33_0, hi', hy, hwr, hm]
   | true =>
    have hc : ceq y.ctx c = false := by simpa [WP, hm] using hf
    rw [hc] at he
    simp -implicitDefEqProofs [G8, B33_0, hi', hy, hwr, hm, he, -QZ.eq_1]
  cases hf : WP c y with
  | false =>
   obtain ⟨z, g⟩ := ih (i + 1) m (by omega) (by omega)
   refine ⟨z, ?_⟩
   rw [if_neg (by simp), ← g]
   exact Qx (next hf)
  | true =>
   have hm : y.mapped = true := by simp only [WP, Bool.and_eq_true] at hf; exact hf.1
   have hc : ceq y.ctx c = true := by simp only [WP, Bool.and_eq_true] at hf; exact hf.2
   rw [hc] at he
   refine ⟨s.z, Qt ?_⟩
   rw [if_pos rfl, show Vh p s.l c (i : Int) = (s.l, ((i + 1 : Nat) : Int), 0) from rfl]
   simp -implicitDefEqProofs [G8, B33_0, hi', hy, hwr, hm, he, hw, -QZ.eq_1, -Qh.eq_1]
theorem e33 {n : Nat} (hn : 101000 ≤ n) (p : Qw) (s : Sl Q1) (c : Q3) (hl : s.l.length ≤ 100000) :
  ∃ z, cpJ PR n 33 [rD p s, c.d] = some (.tup [rD p ⟨z, (YL p s.l c).1⟩, .int .i64 (YL p s.l c).2.1, .int .i64 (YL p s.l c).2.2]) := by
 obtain ⟨n, rfl⟩ : ∃ m, n = m + 1 := ⟨n - 1, by omega⟩
 have h1 := e65 (n := n) (by omega) p c
 have hw : ∀ t : Sl Q1, Qh 0 18 [zst, rD p t] = some (rD p t) := λt=> V5 rfl
 have hb : ∀ (t : Sl Q1) (a b : Int) (σ : Sto), (Qa.tup [rD p t, .int .i64 a, .int .i64 b]).handBack σ = some (.tup [rD p t, .int .i64 a, .int .i64 b]) := by
  intro t a b σ
  show ((Zv [rD p t, .int .i64 a, .int .i64 b]).or _).map _ = _
  simp only [Zv, rD_seal]
  rfl
 rw [u33]
 unfold YL
 by_cases hq : QP p c = 0
 ·rw [hq] at h1
  simp only [if_pos hq]
  obtain ⟨z, h2⟩ := l33 (n := n) (by omega) p s c hl Qd s.l.length 0 n (by omega) (by omega)
  simp only [Int.natCast_zero, List.drop_zero] at h2
  refine ⟨z, ?_⟩
  simp -implicitDefEqProofs [D33, h1, h2, hb, -Qa.handBack.eq_2]
 ·simp only [if_neg hq]
  have hq' : (QP p c != 0) = true := by simpa using hq
  generalize QP p c = q at h1 hq hq'
  refine ⟨s.z, ?_⟩
  simp -implicitDefEqProofs [D33, h1, hq', hw, hb, -Qh.eq_1, -Qa.handBack.eq_2]
end Go.Proofs.YtdibpeknpmhknaaGreat
namespace Go.Proofs.YtdibpeknpmhknaaGreat
open Go
structure ZR where
 name : Bs
 home : Nat
 at_ : Q3
 mapped : Bool
def ZR.row (r : ZR) : List Qa := .str r.name :: .obj r.home 0 :: (r.at_.row ++ [.bool r.mapped])
def ZR.d (r : ZR) : Qa := .agg r.row
abbrev Xi : Qa := .agg [(.str []), .nilp, (.int .i64 0), (.int .i64 0), (.int .i64 0), (.int .i64 0), (.int .u64 0), (.int .i64 0), (.int .u64 0), (.bool false)]
section
variable (r : ZR)
@[simp high] theorem trow_f0 : Qb 0 none [r.d] = some (.str r.name) := rfl
@[simp high] theorem trow_f1 : Qb 1 none [r.d] = some (.obj r.home 0) := rfl
@[simp high] theorem trow_f2 : Qb 2 (some 7) [r.d] = some r.at_.d := rfl
@[simp high] theorem trow_f9 : Qb 9 none [r.d] = some (.bool r.mapped) := rfl
@[simp high] theorem trow_whole : Qb 0 (some 10) [r.d] = some r.d := rfl
@[simp high] theorem trow_ld : Ql (some 10) [.elem r.row 0] = some r.d := rfl
@[simp high] theorem trow_okVal : r.d.okVal = true := rfl
@[simp high] theorem trow_box : Qm [r.d] = some r.d := rfl
theorem YP : Qh 0 10 [Xi, r.d] = some r.d := rfl
theorem trow_unmap : Qh 9 1 [r.d, .bool false] = some ({ r with mapped := false } : ZR).d := rfl
theorem trow_slice (C : Qj) : POp.sem C [r.d] (.bslice true 10) = some (.slice true 1 10 [r.row]) := rfl
theorem Hy (C : Qj) (s : Bs) (a : Nat) (c : Q3) : POp.sem C [.str s, .obj a 0, c.d, .bool true] (.build [(.str []), .nilp, (.int .i64 0), (.int .i64 0), (.int .i64 0), (.int .i64 0), (.int .u64 0), (.int .i64 0), (.int .u64 0), (.bool false)] [(0, 1), (1, 1), (2, 7), (9, 1)]) = some (ZR.mk s a c true).d := rfl
theorem Hu (C : Qj) : POp.sem C [] (.build [(.str []), .nilp, (.int .i64 0), (.int .i64 0), (.int .i64 0), (.int .i64 0), (.int .u64 0), (.int .i64 0), (.int .u64 0), (.bool false)] []) = some Xi := rfl
end
def addI (ix : List (Q3 × Nat)) (r : ZR) (n : Nat) : List (Q3 × Nat) := if r.mapped && !(ix.any λe=> ceq r.at_ e.1) then ix ++ [(r.at_, n)] else ix
def idxF : List ZR → Nat → List (Q3 × Nat) → List (Q3 × Nat)
 | [], _, ix => ix
 | r :: l, n, ix => idxF l (n + 1) (addI ix r (n + 1))
def XP (l : List ZR) : List (Q3 × Nat) := idxF l 0 []
theorem idxF_snoc (r : ZR) : ∀ (l : List ZR) (n : Nat) (ix : List (Q3 × Nat)), idxF (l ++ [r]) n ix = addI (idxF l n ix) r (n + l.length + 1)
 | [], n, ix => rfl
 | q :: l, n, ix => by
  rw [List.cons_append, idxF, idxF_snoc r l, idxF, List.length_cons, show n + 1 + l.length + 1 = n + (l.length + 1) + 1 by omega]
theorem WU (l : List ZR) (r : ZR) : XP (l ++ [r]) = addI (XP l) r (l.length + 1) := by
 rw [XP, idxF_snoc, Nat.zero_add]; rfl
def ent (e : Q3 × Nat) : Qa := .tup [e.1.d, .int .i64 e.2]
def YJ (c : Q3) : List (Q3 × Nat) → Nat → Option (Nat × Qa)
 | [], _ => none
 | e :: l, i => if ceq c e.1 then some (i, .int .i64 e.2) else YJ c l (i + 1)
theorem key_ctx (c : Q3) : WE true KC c.d = true := by
 show ((true == true) && (c.d.plain && (QM KC c.row c.row).isSome)) = true
 rw [Ud]
 rfl
theorem UR (c : Q3) : ∀ (l : List (Q3 × Nat)) (i : Nat), Wp true KC c.d (l.map ent) i = some (YJ c l i)
 | [], i => rfl
 | e :: l, i => by
  show (if Qa.isAgg e.1.d == true then (match QM KC c.row e.1.row with
   | some true => some (some (i, Qa.int .i64 e.2))
   | some false => Wp true KC c.d (l.map ent) (i + 1)
   | none => none) else none) = _
  rw [if_pos (show (e.1.d.isAgg == true) = true from rfl), Ud, YJ]
  cases h : ceq c e.1 with
  | true => rfl
  | false => exact UR c l (i + 1)
theorem Ue {c : Q3} : ∀ {l : List (Q3 × Nat)} {i : Nat}, (l.any λe=> ceq c e.1) = false → YJ c l i = none
 | [], i, _ => rfl
 | e :: l, i, h => by
  simp only [List.any_cons, Bool.or_eq_false_iff] at h
  rw [YJ, h.1]
  exact Ue h.2
theorem JS {c : Q3} : ∀ {l : List (Q3 × Nat)} {i : Nat}, (l.any λe=> ceq c e.1) = true → ∃ j k, YJ c l i = some (j, .int .i64 (k : Nat))
 | [], i, h => by simp at h
 | e :: l, i, h => by
  rw [YJ]
  cases hc : ceq c e.1 with
  | true => exact ⟨i, e.2, rfl⟩
  | false =>
   simp only [List.any_cons, hc, Bool.false_or] at h
   exact JS h
theorem Jm {c : Q3} {e : Q3 × Nat} : ∀ {l : List (Q3 × Nat)} {i : Nat}, YJ c (l ++ [e]) i = match YJ c l i with
  | some x => some x
  | none => if ceq c e.1 then some (i + l.length, .int .i64 e.2) else none
 | [], i => rfl
 | q :: l, i => by
  rw [List.cons_append, YJ, YJ]
  cases ceq c q.1 with
  | true => rfl
  | false =>
   simp only [Bool.false_eq_true, if_false]
   rw [Jm, List.length_cons, show i + 1 + l.length = i + (l.length + 1) by omega]
def Jj (c : Q3) (r : ZR) : Bool := r.mapped && ceq r.at_ c
theorem ceq_comm (a b : Q3) : ceq a b = ceq b a := by
 rw [Bool.eq_iff_iff, JC, JC]; exact eq_comm
theorem HL {α : Type} (f : α → Bool) (x : α) : ∀ (l : List α) (i : Nat), QH f (l ++ [x]) i = if 0 ≤ QH f l i then QH f l i else if f x then ((i + l.length : Nat) : Int) else -1
 | [], i => by simp [QH]
 | y :: l, i => by
  rw [List.cons_append, QH, QH]
  by_cases h : f y = true
  ·rw [if_pos h, if_pos h, if_pos (by omega)]
  ·rw [if_neg h, if_neg h, HL f x l (i + 1), List.length_cons, show i + 1 + l.length = i + (l.length + 1) by omega]
def AnsX (c : Q3) (l : List ZR) (o : Option (Nat × Qa)) : Prop :=
 (0 ≤ QH (Jj c) l 0 → ∃ j, o = some (j, .int .i64 (QH (Jj c) l 0 + 1))) ∧ (QH (Jj c) l 0 < 0 → o = none)
theorem look_idx (c : Q3) (l : List ZR) : AnsX c l (YJ c (XP l) 0) := by
 have key : ∀ (k : Nat) (l : List ZR), l.length = k → AnsX c l (YJ c (XP l) 0) := by
  intro k
  induction k with
  | zero =>
   intro l hl
   obtain rfl : l = [] := List.length_eq_zero_iff.1 hl
   exact ⟨λh=> by simp [QH] at h, λ_=> rfl⟩
  | succ k ih =>
   intro l hl
   obtain ⟨q, r, rfl⟩ : ∃ q r, l = q ++ [r] := ⟨l.dropLast, l.getLast (by intro e; rw [e] at hl; simp at hl), (List.dropLast_concat_getLast _).symm⟩
   obtain ⟨h1, h2⟩ := ih q (by simpa using hl)
   rw [WU, AnsX, HL]
   have hmem : ∀ a : Q3, ((XP q).any λe=> ceq a e.1) = true ↔ ∃ j k, YJ a (XP q) 0 = some (j, .int .i64 (k : Nat)) := λa=> by
    constructor
    ·exact JS
    ·rintro ⟨j, k, h⟩
     cases hh : ((XP q).any λe=> ceq a e.1) with
     | true => rfl
     | false => rw [Ue hh] at h; cases h
   by_cases h0 : 0 ≤ QH (Jj c) q 0
   ·obtain ⟨j, hj⟩ := h1 h0
    simp only [if_pos h0]
    refine ⟨λ_=> ?_, λh=> by omega⟩
    unfold addI
    split
    ·rw [Jm, hj]; exact ⟨j, rfl⟩
    ·exact ⟨j, hj⟩
   ·have hn := h2 (by omega)
    simp only [if_neg h0]
    cases hm : Jj c r with
    | true =>
     simp only [Jj, Bool.and_eq_true, JC] at hm
     obtain ⟨hm1, rfl⟩ := hm
     have hany : ((XP q).any λe=> ceq r.at_ e.1) = false := by
      cases hh : ((XP q).any λe=> ceq r.at_ e.1) with
      | false => rfl
      | true =>
       obtain ⟨j, k, h⟩ := JS (i := 0) hh
       rw [hn] at h; cases h
     simp only [if_true]
     refine ⟨λ_=> ?_, λh=> by omega⟩
     unfold addI
     rw [if_pos (by rw [hm1, hany]; rfl), Jm, hn]
     simp only [JA, if_true]
     exact ⟨_, by rw [show ((q.length + 1 : Nat) : Int) = ((0 + q.length : Nat) : Int) + 1 by omega]⟩
    | false =>
     simp only [Bool.false_eq_true, if_false]
     refine ⟨λh=> by omega, λ_=> ?_⟩
     unfold addI
     split
     ·rename_i ha
      rw [Jm, hn]
      simp only [Bool.and_eq_true] at ha
      have : ceq c r.at_ = false := by
       rw [ceq_comm]
       cases hh : ceq r.at_ c with
       | false => rfl
       | true => simp [Jj, ha.1, hh] at hm
      simp only [this, Bool.false_eq_true, if_false]
     ·exact hn
 exact key l.length l rfl
end Go.Proofs.YtdibpeknpmhknaaGreat
namespace Go.Proofs.YtdibpeknpmhknaaGreat
open Go
theorem W5 : ∀ {cs es : List Qa}, QN cs = some es → es.length = cs.length
 | [], es, h => by simp only [QN, Option.some.injEq] at h; rw [← h]
 | c :: cs, es, h => by
  simp only [QN] at h
  split at h
  ·rename_i h1 h2
   simp only [Option.some.injEq] at h
   rw [← h, List.length_cons, List.length_cons, W5 h2]
  ·cases h
def Hom (σ : Sto) (a : Nat) (P : Qw) : Prop := a < σ.nobj ∧ ∃ cs, σ.obj a = .agg cs ∧ QN cs = some P.row
theorem Hom.ld {σ : Sto} {a : Nat} {P : Qw} (h : Hom σ a P) : ∃ cs, Q8 σ (some 17) [.obj a 0] = some (.agg cs, σ) ∧ (Qa.agg cs).sealVal = some P.d := by
 obtain ⟨h1, cs, h2, h3⟩ := h
 have hl : cs.length = 17 := (W5 h3).symm
 refine ⟨cs, ?_, ?_⟩
 ·rw [Yl _ h2 h1, Z0, if_pos (by omega), List.drop_zero, List.take_of_length_le (by omega)]
  rfl
 ·show (QN cs).map _ = _
  rw [h3]; rfl
def OwnT (σ : Sto) (v : Qa) (t : Nat) (l : List (List Qa)) : Prop :=
 (v = .nils ∧ l = []) ∨ (v = .slice true (t + 3) 10 l ∧ σ.fr t = l.length * 10 ∧ t < σ.ntok)
theorem ownT_len {σ : Sto} {v : Qa} {t : Nat} {l : List (List Qa)} (h : OwnT σ v t l) : Qf [v] = some (.int .i64 l.length) := by
 rcases h with ⟨rfl, rfl⟩ | ⟨rfl, -⟩ <;> rfl
theorem ownT_idx {σ : Sto} {v : Qa} {t i : Nat} {l : List (List Qa)} {r : List Qa} (h : OwnT σ v t l) (hr : l[i]? = some r) : Qq 10 [v, .int .i64 i] = some (.elem r 0) := by
 rcases h with ⟨rfl, rfl⟩ | ⟨rfl, -⟩
 ·simp at hr
 ·simp [Qq, hr]
structure Keep (σ σ' : Sto) (id mid t : Nat) : Prop where
 nobj : σ'.nobj = σ.nobj
 obj : ∀ i, i ≠ id → i ≠ mid → σ'.obj i = σ.obj i
 ntok : σ.ntok ≤ σ'.ntok
 fr : ∀ g, g < σ.ntok → g ≠ t → σ'.fr g = σ.fr g
theorem ownT_app {σ : Sto} {v : Qa} {t : Nat} {l : List (List Qa)} {r : List Qa} (h : OwnT σ v t l) (hl : l.length ≤ 100000) :
  ∃ v' t' σ', QF true 10 σ [v, .slice true 1 10 [r]] = some (v', σ') ∧ OwnT σ' v' t' (l ++ [r]) ∧ σ'.obj = σ.obj ∧ σ'.nobj = σ.nobj ∧ σ.ntok ≤ σ'.ntok ∧ (∀ g, g < σ.ntok → g ≠ t → σ'.fr g = σ.fr g) ∧ (t' = t ∨ σ.ntok ≤ t') ∧ t' < σ'.ntok ∧ v'.cells = [v'] ∧ v'.okCell = true := by
 rcases h with ⟨rfl, rfl⟩ | ⟨rfl, h1, h2⟩
 ·refine ⟨.slice true (σ.ntok + 3) 10 [r], σ.ntok, { σ with ntok := σ.ntok + 1, fr := upd σ.fr σ.ntok (1 * 10) }, by simp [QF, XH, Ye, XE, Qa.szOk, QS], .inr ⟨rfl, by simp [upd], by simp⟩, rfl, rfl, by simp, fun g hg _ => ?_, .inr (Nat.le_refl _), by simp, rfl, rfl⟩
  simp only [upd]
  rw [if_neg (by omega)]
 ·have hm : l.length + 1 ≤ QS := by unfold QS; omega
  refine ⟨.slice true (t + 3) 10 (l ++ [r]), t, { σ with fr := upd σ.fr t ((l.length + 1) * 10) }, by simp [QF, XH, Ye, XE, Qa.szOk, hm, h1], .inr ⟨rfl, by simp [upd], h2⟩, rfl, rfl, Nat.le_refl _, fun g hg hn => ?_, .inl rfl, h2, rfl, rfl⟩
  simp only [upd]
  rw [if_neg hn]
structure ZW where
 pid : Nat
 mid : Nat
 t : Nat
 v : Qa
 rows : List ZR
structure Tab (σ : Sto) (id : Nat) (K : Qw) (T : ZW) : Prop where
 idl : id < σ.nobj
 midl : T.mid < σ.nobj
 ne : T.mid ≠ id
 pne : T.pid ≠ id ∧ T.pid ≠ T.mid
 obj : σ.obj id = .agg [.obj T.pid 0, T.v, .map T.mid]
 map : σ.obj T.mid = .tup ((XP T.rows).map ent)
 own : OwnT σ T.v T.t (T.rows.map ZR.row)
 pol : Hom σ T.pid K
 homes : ∀ r ∈ T.rows, r.home < σ.nobj ∧ r.home ≠ id ∧ r.home ≠ T.mid
 tl : T.t < σ.ntok ∨ T.v = .nils
section
variable {σ : Sto} {id : Nat} {K : Qw} {T : ZW} (h : Tab σ id K T)
include h
theorem Tab.ld0 : Q8 σ none [.obj id 0] = some (.obj T.pid 0, σ) := by rw [Yl _ h.obj h.idl]; rfl
theorem Tab.ld1 : Q8 σ none [.obj id 1] = some (T.v, σ) := by rw [Yl _ h.obj h.idl]; rfl
theorem Tab.ld2 : Q8 σ none [.obj id 2] = some (.map T.mid, σ) := by rw [Yl _ h.obj h.idl]; rfl
theorem Tab.len : Qf [T.v] = some (.int .i64 T.rows.length) := by rw [ownT_len h.own, List.length_map]
theorem Tab.idx {i : Nat} {r : ZR} (hr : T.rows[i]? = some r) : Qq 10 [T.v, .int .i64 i] = some (.elem r.row 0) := ownT_idx h.own (by simp [hr])
theorem Tab.look (c : Q3) : XT true KC (.int .i64 0) true σ [.map T.mid, c.d] = some (X4 (.int .i64 0) true (YJ c (XP T.rows) 0), σ) := by
 simp only [XT, h.midl, key_ctx, and_self, if_true, h.map, UR, Option.map_some]
theorem e39 {n : Nat} (hn : 1 ≤ n) : ciJ PR n 39 [.obj id 0] σ = some (.bool true, σ) := by
 obtain ⟨n, rfl⟩ : ∃ m, n = m + 1 := ⟨n - 1, by omega⟩
 have h0 := h.ld0
 rw [v39]
 simp -implicitDefEqProofs [D39, h0]
theorem e45 {n : Nat} (hn : 2 ≤ n) (i : Int) (hl : T.rows.length ≤ 100000) : ciJ PR n 45 [.obj id 0, .int .i64 i] σ = some (match Yd T.rows i with | some r => .tup [r.d, .bool true] | none => .tup [Xi, .bool false], σ) := by
 obtain ⟨n, rfl⟩ : ∃ m, n = m + 1 := ⟨n - 1, by omega⟩
 have h1 := e39 h (n := n) (by omega)
 have h2 := h.ld1
 have h3 := h.len
 have hz := Hu (cpJ PR n)
 have hzw : Qh 0 10 [Xi, Xi] = some Xi := rfl
 have hzf : Qb 0 (some 10) [Xi] = some Xi := rfl
 rw [v45]
 cases hi : inR i T.rows.length with
 | false =>
  rw [Wg hi]
  by_cases h4 : i < 1
  ·simp -implicitDefEqProofs [D45, h1, h4, hz, hzw, hzf, -Qh.eq_1, -Qb.eq_1, -POp.sem.eq_17]
  ·have h5 : (T.rows.length : Int) < i := by
    simp only [inR, Bool.and_eq_false_iff, decide_eq_false_iff_not] at hi
    omega
   simp -implicitDefEqProofs [D45, h1, h2, h3, h4, h5, hz, hzw, hzf, -Qh.eq_1, -Qb.eq_1, -POp.sem.eq_17]
 | true =>
  obtain ⟨j, x, e, hx⟩ := VR hi
  have hj := (List.getElem?_eq_some_iff.1 hx).1
  have h4 : ¬ i < 1 := by omega
  have h5 : ¬ (T.rows.length : Int) < i := by omega
  have hw : IntKind.i64.wrap (i - 1) = (j : Int) := by rw [e, show ((j : Int) + 1 - 1) = j by omega, Ze (by omega) (by omega)]
  have h6 := h.idx hx
  have h7 := YP x
  rw [XR e hx]
  simp -implicitDefEqProofs [D45, h1, h2, h3, h4, h5, hw, h6, h7, -Qh.eq_1, -Qq.eq_1, -Qq.eq_2]
end
structure Grew (σ σ' : Sto) (id : Nat) (K : Qw) (T T' : ZW) (r : ZR) : Prop where
 tab : Tab σ' id K T'
 keep : Keep σ σ' id T.mid T.t
 pid : T'.pid = T.pid
 mid : T'.mid = T.mid
 rows : T'.rows = T.rows ++ [r]
 t : T'.t = T.t ∨ σ.ntok ≤ T'.t
theorem Hom.keep {σ σ' : Sto} {a : Nat} {P : Qw} {id mid t : Nat} (h : Hom σ a P) (k : Keep σ σ' id mid t) (h1 : a ≠ id) (h2 : a ≠ mid) : Hom σ' a P := by
 obtain ⟨h0, cs, h3, h4⟩ := h
 exact ⟨by rw [k.nobj]; exact h0, cs, by rw [k.obj a h1 h2]; exact h3, h4⟩
theorem e41 {n : Nat} (hn : 1 ≤ n) {σ : Sto} {id : Nat} {K : Qw} {T : ZW} (h : Tab σ id K T) (hl : T.rows.length ≤ 10000) (r : ZR) (hr : r.home < σ.nobj ∧ r.home ≠ id ∧ r.home ≠ T.mid) :
  ∃ σ' T', ciJ PR n 41 [.obj id 0, r.d] σ = some (.tup [], σ') ∧ Grew σ σ' id K T T' r := by
 obtain ⟨n, rfl⟩ : ∃ m, n = m + 1 := ⟨n - 1, by omega⟩
 obtain ⟨v', t', σ1, a1, a2, a3, a4, a5, a6, a7, a8, a9, a10⟩ := ownT_app (r := r.row) h.own (by rw [List.length_map]; omega)
 have ho1 : σ1.obj id = .agg [.obj T.pid 0, T.v, .map T.mid] := by rw [a3]; exact h.obj
 have hst : Xr σ1 1 [.obj id 1, v'] = some (.undef, σ1.put id (.agg [.obj T.pid 0, v', .map T.mid])) := by
  rw [st_obj (k := 1) ho1 (by rw [a4]; exact h.idl) (by rw [a9]; rfl) (by rw [a9, List.all_cons, a10]; rfl), a9]
  rfl
 have ho2 : (σ1.put id (.agg [.obj T.pid 0, v', .map T.mid])).obj id = .agg [.obj T.pid 0, v', .map T.mid] := Sto.put_obj
 have hm2 : (σ1.put id (.agg [.obj T.pid 0, v', .map T.mid])).obj T.mid = .tup ((XP T.rows).map ent) := by rw [Sto.put_obj_ne h.ne, a3]; exact h.map
 have hid2 : id < (σ1.put id (.agg [.obj T.pid 0, v', .map T.mid])).nobj := by rw [Sto.put_nobj, a4]; exact h.idl
 have hmid2 : T.mid < (σ1.put id (.agg [.obj T.pid 0, v', .map T.mid])).nobj := by rw [Sto.put_nobj, a4]; exact h.midl
 have own2 : ∀ τ : Sto, τ.fr = σ1.fr → τ.ntok = σ1.ntok → OwnT τ v' t' ((T.rows ++ [r]).map ZR.row) := by
  intro τ h1 h2
  rw [List.map_append]
  rcases a2 with q | ⟨q1, q2, q3⟩
  ·exact .inl q
  ·exact .inr ⟨q1, by rw [h1]; exact q2, by rw [h2]; exact q3⟩
 have hobj2 : ∀ i, i ≠ id → (σ1.put id (.agg [.obj T.pid 0, v', .map T.mid])).obj i = σ.obj i := fun i hi => by rw [Sto.put_obj_ne hi, a3]
 have hne : ∀ i, i ≠ T.mid → ∀ d, ((σ1.put id (.agg [.obj T.pid 0, v', .map T.mid])).put T.mid d).obj i = (σ1.put id (.agg [.obj T.pid 0, v', .map T.mid])).obj i := fun i hi d => Sto.put_obj_ne hi
 -- what holds of the store behind, with a map M
 have fin : ∀ (τ : Sto) (M : List (Q3 × Nat)), τ.nobj = σ.nobj → τ.ntok = σ1.ntok → τ.fr = σ1.fr → τ.obj id = .agg [.obj T.pid 0, v', .map T.mid] → τ.obj T.mid = .tup (M.map ent) → (∀ i, i ≠ id → i ≠ T.mid → τ.obj i = σ.obj i) → M = XP (T.rows ++ [r]) →
   Grew σ τ id K T { T with t := t', v := v', rows := T.rows ++ [r] } r := by
  intro τ M b1 b2 b3 b4 b5 b6 b7
  have k : Keep σ τ id T.mid T.t := ⟨b1, b6, by rw [b2]; exact a5, fun g hg hn => by rw [b3]; exact a6 g hg hn⟩
  refine ⟨⟨by rw [b1]; exact h.idl, by rw [b1]; exact h.midl, h.ne, h.pne, b4, by rw [b5, b7], own2 τ b3 b2, h.pol.keep k h.pne.1 h.pne.2, fun q hq => ?_, .inl (by rw [b2]; exact a8)⟩, k, rfl, rfl, rfl, a7⟩
  rw [b1]
  rcases List.mem_append.1 hq with hq | hq
  ·exact h.homes q hq
  ·rw [List.mem_singleton.1 hq]; exact hr
 generalize hσ2 : σ1.put id (.agg [.obj T.pid 0, v', .map T.mid]) = σ2 at *
 have e1 := h.ld1
 have e2 := trow_slice r (cpJ PR n)
 have l1 : Q8 σ2 none [.obj id 1] = some (v', σ2) := by rw [Yl _ ho2 hid2]; rfl
 have l2 : Q8 σ2 none [.obj id 2] = some (.map T.mid, σ2) := by rw [Yl _ ho2 hid2]; rfl
 have lk : XT true KC (.int .i64 0) true σ2 [.map T.mid, r.at_.d] = some (X4 (.int .i64 0) true (YJ r.at_ (XP T.rows) 0), σ2) := by
  simp only [XT, hmid2, key_ctx, and_self, if_true, hm2, UR, Option.map_some]
 have hlen : Qf [v'] = some (.int .i64 ((T.rows.length + 1 : Nat) : Int)) := by
  rw [ownT_len a2]; simp
 have b1 : σ2.nobj = σ.nobj := by rw [← hσ2, Sto.put_nobj, a4]
 have b2 : σ2.ntok = σ1.ntok := by rw [← hσ2, Sto.put_ntok]
 have b3 : σ2.fr = σ1.fr := by rw [← hσ2, Sto.put_fr]
 cases hany : ((XP T.rows).any λe=> ceq r.at_ e.1) with
 | true =>
  obtain ⟨j, k, hlk⟩ := JS (i := 0) hany
  rw [hlk] at lk
  refine ⟨σ2, _, ?_, fin σ2 (XP T.rows) b1 b2 b3 ho2 hm2 (fun i h1 _ => hobj2 i h1) (by rw [WU, addI, hany]; simp)⟩
  rw [v41]
  cases hmp : r.mapped <;> simp -implicitDefEqProofs [D41, e1, e2, a1, hst, l1, l2, lk, X4, hmp]
 | false =>
  rw [Ue hany] at lk
  cases hmp : r.mapped with
  | false =>
   refine ⟨σ2, _, ?_, fin σ2 (XP T.rows) b1 b2 b3 ho2 hm2 (fun i h1 _ => hobj2 i h1) (by rw [WU, addI, hmp]; simp)⟩
   rw [v41]
   simp -implicitDefEqProofs [D41, e1, e2, a1, hst, l1, l2, lk, X4, hmp]
  | true =>
   have up : Y5 true KC σ2 [.map T.mid, r.at_.d, .int .i64 ((T.rows.length : Int) + 1)] = some (.undef, σ2.put T.mid (.tup ((XP T.rows).map ent ++ [ent (r.at_, T.rows.length + 1)]))) := by
    simp only [Y5, hmid2, key_ctx, Qa.okVal, Qa.okCell, and_self, if_true, hm2, UR, Ue hany]
    rfl
   refine ⟨σ2.put T.mid (.tup ((XP T.rows).map ent ++ [ent (r.at_, T.rows.length + 1)])), _, ?_, fin _ (XP T.rows ++ [(r.at_, T.rows.length + 1)]) b1 b2 b3 (by rw [Sto.put_obj_ne (Ne.symm h.ne)]; exact ho2) (by rw [Sto.put_obj]; simp) (fun i h1 h2 => by rw [Sto.put_obj_ne h2]; exact hobj2 i h1) (by rw [WU, addI, hmp, hany]; simp)⟩
   rw [v41]
   simp -implicitDefEqProofs [D41, e1, e2, a1, hst, l1, l2, lk, X4, hmp, hlen, up]
end Go.Proofs.YtdibpeknpmhknaaGreat
namespace Go.Proofs.YtdibpeknpmhknaaGreat
open Go
theorem Hom.lds {σ : Sto} {a : Nat} {P : Qw} (h : Hom σ a P) : ∃ cs, Q8 σ (some 17) [.obj a 0] = some (.agg cs, σ) ∧ QN cs = some P.row := by
 obtain ⟨h1, cs, h2, h3⟩ := h
 have hl : cs.length = 17 := (W5 h3).symm
 refine ⟨cs, ?_, h3⟩
 rw [Yl _ h2 h1, Z0, if_pos (by omega), List.drop_zero, List.take_of_length_le (by omega)]
 rfl
section
variable {σ : Sto} {id : Nat} {K : Qw} {T : ZW} (h : Tab σ id K T)
include h
theorem e30 {n : Nat} (hn : 2 ≤ n) (hl : T.rows.length ≤ 10000) (s : Bs) (c : Q3) :
  ∃ σ' T', ciJ PR n 30 [.obj id 0, .str s, c.d] σ = some (.tup [], σ') ∧ Grew σ σ' id K T T' ⟨s, T.pid, c, true⟩ := by
 obtain ⟨n, rfl⟩ : ∃ m, n = m + 1 := ⟨n - 1, by omega⟩
 obtain ⟨σ', T', h1, h2⟩ := e41 (n := n) (by omega) h hl ⟨s, T.pid, c, true⟩ ⟨h.pol.1, h.pne.1, h.pne.2⟩
 refine ⟨σ', T', ?_, h2⟩
 have h3 := h.ld0
 have h4 := Hy (cpJ PR n) s T.pid c
 rw [v30]
 simp -implicitDefEqProofs [D30, h1, h3, h4, -POp.sem.eq_17]
theorem e19 {n : Nat} (hn : 2 ≤ n) : ciJ PR n 19 [.obj id 0] σ = some (.int .i64 T.rows.length, σ) := by
 obtain ⟨n, rfl⟩ : ∃ m, n = m + 1 := ⟨n - 1, by omega⟩
 have h1 := e39 h (n := n) (by omega)
 have h2 := h.ld1
 have h3 := h.len
 rw [v19]
 simp -implicitDefEqProofs [D19, h1, h2, h3]
section
variable {n : Nat} (hn : 3 ≤ n) (i : Int) (hl : T.rows.length ≤ 100000)
include hn hl
theorem e17 : ciJ PR n 17 [.obj id 0, .int .i64 i] σ = some (match Yd T.rows i with | some r => .tup [if r.mapped then r.at_.d else Q3.z.d, .bool true] | none => .tup [Q3.z.d, .bool false], σ) := by
 obtain ⟨n, rfl⟩ : ∃ m, n = m + 1 := ⟨n - 1, by omega⟩
 have h1 := e45 h (n := n) (by omega) i hl
 have hc := XF (cpJ PR n)
 have hz1 : Qh 0 10 [Xi, Xi] = some Xi := rfl
 have hz2 : Qb 9 none [Xi] = some (.bool false) := rfl
 rw [v17]
 cases hr : Yd T.rows i with
 | none =>
  rw [hr] at h1
  simp -implicitDefEqProofs [D17, h1, hc, hz1, hz2, -Qh.eq_1, -Qb.eq_1, -POp.sem.eq_17]
 | some r =>
  rw [hr] at h1
  have hw := YP r
  cases hm : r.mapped with
  | false =>
   simp -implicitDefEqProofs [D17, h1, hc, hw, hm, -Qh.eq_1, -Qb.eq_1, -POp.sem.eq_17]
  | true =>
   simp -implicitDefEqProofs [D17, h1, hc, hw, hm, -POp.sem.eq_17]
theorem e18 : ciJ PR n 18 [.obj id 0, .int .i64 i] σ = some (.bool (match Yd T.rows i with | some r => r.mapped | none => false), σ) := by
 obtain ⟨n, rfl⟩ : ∃ m, n = m + 1 := ⟨n - 1, by omega⟩
 have h1 := e45 h (n := n) (by omega) i hl
 rw [v18]
 have hz1 : Qh 0 10 [Xi, Xi] = some Xi := rfl
 cases hr : Yd T.rows i with
 | none =>
  rw [hr] at h1
  simp -implicitDefEqProofs [D18, h1, hz1, -Qh.eq_1]
 | some r =>
  rw [hr] at h1
  have hw := YP r
  simp -implicitDefEqProofs [D18, h1, hw]
theorem e21 : ciJ PR n 21 [.obj id 0, .int .i64 i] σ = some (match Yd T.rows i with | some r => .tup [.str r.name, .bool (!(r.name == []))] | none => .tup [.str [], .bool false], σ) := by
 obtain ⟨n, rfl⟩ : ∃ m, n = m + 1 := ⟨n - 1, by omega⟩
 have h1 := e45 h (n := n) (by omega) i hl
 rw [v21]
 have hz1 : Qh 0 10 [Xi, Xi] = some Xi := rfl
 have hz2 : Qb 0 none [Xi] = some (.str []) := rfl
 cases hr : Yd T.rows i with
 | none =>
  rw [hr] at h1
  simp -implicitDefEqProofs [D21, h1, hz1, hz2, -Qh.eq_1, -Qb.eq_1]
 | some r =>
  rw [hr] at h1
  have hw := YP r
  simp -implicitDefEqProofs [D21, h1, hw]
theorem e22n (hr : Yd T.rows i = none) : ciJ PR n 22 [.obj id 0, .int .i64 i] σ = some (.tup [.str [], .bool false], σ) := by
 obtain ⟨n, rfl⟩ : ∃ m, n = m + 1 := ⟨n - 1, by omega⟩
 have h1 := e45 h (n := n) (by omega) i hl
 have hz1 : Qh 0 10 [Xi, Xi] = some Xi := rfl
 rw [hr] at h1
 rw [v22]
 simp -implicitDefEqProofs [D22, h1, hz1, -Qh.eq_1]
theorem e22s (hn2 : 30001 ≤ n) {r : ZR} {P : Qw} (hr : Yd T.rows i = some r) (hP : Hom σ r.home P) (g : Zg P) : ciJ PR n 22 [.obj id 0, .int .i64 i] σ = some (.tup [.str (YK P r.at_), .bool true], σ) := by
 obtain ⟨n, rfl⟩ : ∃ m, n = m + 1 := ⟨n - 1, by omega⟩
 have h1 := e45 h (n := n) (by omega) i hl
 rw [hr] at h1
 have hw := YP r
 obtain ⟨cs, h2, h3⟩ := hP.lds
 have h4 : cpJ PR n 46 [.agg P.row, r.at_.d] = some (.tup [.str (YK P r.at_), .int .i64 (QP P r.at_)]) := e46 (n := n) (by omega) P g r.at_
 rw [v22]
 simp -implicitDefEqProofs [D22, h1, hw, h2, h3, h4]
end
def sidV (K : Qw) (l : List ZR) (c : Q3) : Int × Int :=
 if QP K c = 0 then (if 0 ≤ QH (Jj c) l 0 then (QH (Jj c) l 0 + 1, 0) else if 1024 ≤ l.length then (0, 25) else ((l.length + 1 : Nat), 0)) else (0, QP K c)
theorem e16 {n : Nat} (hn : 200 ≤ n) (hl : T.rows.length ≤ 10000) (c : Q3) :
  ∃ σ', ciJ PR n 16 [.obj id 0, c.d] σ = some (.tup [.int .i64 (sidV K T.rows c).1, .int .i64 (sidV K T.rows c).2], σ') ∧
   (if QP K c = 0 ∧ QH (Jj c) T.rows 0 < 0 ∧ T.rows.length < 1024 then ∃ T', Grew σ σ' id K T T' ⟨[], T.pid, c, true⟩ else σ' = σ) := by
 obtain ⟨n, rfl⟩ : ∃ m, n = m + 1 := ⟨n - 1, by omega⟩
 have h1 := e39 h (n := n) (by omega)
 have h2 := h.ld0
 obtain ⟨cs, h3, h4⟩ := h.pol.lds
 have h5 : cpJ PR n 44 [.agg K.row, c.d] = some (.int .i64 (QP K c)) := e44 (n := n) (by omega) K c
 have h6 := h.ld2
 have h7 := h.look c
 have h8 := h.ld1
 have h9 := h.len
 obtain ⟨x1, x2⟩ := look_idx c T.rows
 rw [v16]
 unfold sidV
 by_cases hq : QP K c = 0
 ·rw [hq] at h5
  rw [if_pos hq]
  by_cases hf : 0 ≤ QH (Jj c) T.rows 0
  ·obtain ⟨j, hj⟩ := x1 hf
   rw [hj] at h7
   rw [if_pos hf]
   refine ⟨σ, ?_, by rw [if_neg (λhh=> by omega)]⟩
   simp -implicitDefEqProofs [D16, h1, h2, h3, h4, h5, h6, h7, X4]
  ·rw [x2 (by omega)] at h7
   rw [if_neg hf]
   by_cases hfull : 1024 ≤ T.rows.length
   ·have hfull' : (1024 : Int) ≤ T.rows.length := by omega
    rw [if_pos hfull]
    refine ⟨σ, ?_, by rw [if_neg (λhh=> by omega)]⟩
    simp -implicitDefEqProofs [D16, h1, h2, h3, h4, h5, h6, h7, h8, h9, hfull', X4]
   ·have hfull' : ¬ (1024 : Int) ≤ T.rows.length := by omega
    rw [if_neg hfull]
    obtain ⟨σ', T', g1, g2⟩ := e30 h (n := n) (by omega) hl [] c
    refine ⟨σ', ?_, by rw [if_pos ⟨hq, by omega, by omega⟩]; exact ⟨T', g2⟩⟩
    have k1 := g2.tab.ld1
    have k2 := g2.tab.len
    rw [g2.rows, List.length_append, List.length_singleton] at k2
    simp -implicitDefEqProofs [D16, h1, h2, h3, h4, h5, h6, h7, h8, h9, hfull', X4, g1, k1, k2]
 ·rw [if_neg hq]
  have hq' : (QP K c != 0) = true := by simpa using hq
  refine ⟨σ, ?_, by rw [if_neg (λhh=> hq hh.1)]⟩
  generalize QP K c = q at h5 hq'
  simp -implicitDefEqProofs [D16, h1, h2, h3, h4, h5, hq']
end
end Go.Proofs.YtdibpeknpmhknaaGreat
namespace Go.Proofs.YtdibpeknpmhknaaGreat
open Go
def Q9.plain (t : Q9) : Bs × List Bs := (t.name, t.aliases.l)
structure UG (K p : Qw) : Prop where
 types : K.types.l.map Q9.plain = p.types.l.map Q9.plain
 roles : K.roles.l = p.roles.l
 users : K.users.l = p.users.l
 sens : K.sens.l = p.sens.l
 cats : K.cats.l = p.cats.l
theorem at_map {α β : Type} (f : α → β) (l : List α) (i : Int) : (at' l i).map f = at' (l.map f) i := by
 unfold at'
 split
 ·rw [List.getElem?_map]
 ·rfl
section
variable {K p : Qw} (h : UG K p)
include h
theorem UG.type (i : Int) : (at' K.types.l i).map Q9.plain = (at' p.types.l i).map Q9.plain := by
 rw [at_map, at_map, h.types]
theorem UG.check (c : Q3) : QP K c = QP p c := by
 have ht := h.type c.type
 unfold QP rngV
 rw [h.users, h.roles, h.sens, h.cats]
 cases h1 : at' K.types.l c.type <;> cases h2 : at' p.types.l c.type <;> rw [h1, h2] at ht
 ·simp at ht
 ·simp at ht
 ·cases at' p.users.l c.user <;> cases at' p.roles.l c.role <;> rfl
theorem UG.text (c : Q3) : YK K c = YK p c := by
 have ht : (at' K.types.l c.type).map Q9.name = (at' p.types.l c.type).map Q9.name := by
  have e : ∀ o : Option Q9, o.map Q9.name = (o.map Q9.plain).map Prod.fst := λo=> by cases o <;> rfl
  rw [e, e, h.type]
 unfold YK
 rw [h.check, h.users, h.roles, h.sens, h.cats, ht]
end
theorem e37 {n : Nat} (hn : 30001 ≤ n) (p : Qw) (s : Sl Q1) (hl : s.l.length ≤ 100000) (i : Int) (hg : ∀ r ∈ s.l, Zg r.home) :
  cpJ PR n 37 [rD p s, .int .i64 i] = some (match Yd s.l i with | some r => .tup [.str (YK r.home r.at_), .bool true] | none => .tup [.str [], .bool false]) := by
 obtain ⟨n, rfl⟩ : ∃ m, n = m + 1 := ⟨n - 1, by omega⟩
 have h1 := e67 (n := n) (by omega) p s i
 rw [u37]
 cases h : inR i s.l.length with
 | false =>
  rw [h] at h1
  rw [Wg h]
  simp -implicitDefEqProofs [D37, h1]
 | true =>
  rw [h] at h1
  obtain ⟨j, x, e, hx⟩ := VR h
  have hj := (List.getElem?_eq_some_iff.1 hx).1
  have hw : IntKind.i64.wrap (i - 1) = (j : Int) := by rw [e, show ((j : Int) + 1 - 1) = j by omega, Ze (by omega) (by omega)]
  have h2 := e68 (n := n) (by omega) x.home (hg x (List.mem_of_getElem? hx)) x.at_
  rw [XR e hx]
  simp -implicitDefEqProofs [D37, h1, hw, hx, h2]
structure Gc (σ : Sto) (r : ZR) (q : Q1) : Prop where
 name : r.name = q.name
 mapped : r.mapped = q.mapped
 at_ : r.at_ = q.at_
 ctx : q.ctx = if r.mapped then r.at_ else Q3.z
 good : Zg q.home
 home : ∃ H, Hom σ r.home H ∧ UG H q.home ∧ Zg H
inductive Zj (σ : Sto) : List ZR → List Q1 → Prop where
 | nil : Zj σ [] []
 | cons {r q l m} : Gc σ r q → Zj σ l m → Zj σ (r :: l) (q :: m)
theorem Zj.length {σ : Sto} {l : List ZR} {m : List Q1} (h : Zj σ l m) : l.length = m.length := by
 induction h with
 | nil => rfl
 | cons _ _ ih => simp [ih]
theorem Zj.snoc {σ : Sto} {l : List ZR} {m : List Q1} (h : Zj σ l m) {r : ZR} {q : Q1} (hr : Gc σ r q) : Zj σ (l ++ [r]) (m ++ [q]) := by
 induction h with
 | nil => exact .cons hr .nil
 | cons h1 _ ih => exact .cons h1 ih
theorem Zj.mono {σ σ' : Sto} {l : List ZR} {m : List Q1} (h : Zj σ l m) (hs : ∀ r ∈ l, ∀ H, Hom σ r.home H → Hom σ' r.home H) : Zj σ' l m := by
 induction h with
 | nil => exact .nil
 | cons h1 _ ih =>
  refine .cons ⟨h1.name, h1.mapped, h1.at_, h1.ctx, h1.good, ?_⟩ (ih fun r hr => hs r (List.mem_cons_of_mem _ hr))
  obtain ⟨H, a, b, c⟩ := h1.home
  exact ⟨H, hs _ (List.mem_cons_self ..) H a, b, c⟩
theorem Zj.get {σ : Sto} {l : List ZR} {m : List Q1} (h : Zj σ l m) : ∀ {i : Nat} {r : ZR}, l[i]? = some r → ∃ q, m[i]? = some q ∧ Gc σ r q := by
 induction h with
 | nil => intro i r hr; simp at hr
 | cons h1 _ ih =>
  intro i r hr
  cases i with
  | zero =>
   simp only [List.getElem?_cons_zero, Option.some.injEq] at hr
   subst hr
   exact ⟨_, rfl, h1⟩
  | succ i => exact ih (by simpa using hr)
theorem Zj.good {σ : Sto} {l : List ZR} {m : List Q1} (h : Zj σ l m) : ∀ q ∈ m, Zg q.home := by
 induction h with
 | nil => intro q hq; simp at hq
 | cons h1 _ ih =>
  intro q hq
  rcases List.mem_cons.1 hq with rfl | hq
  ·exact h1.good
  ·exact ih q hq
theorem Zj.find {σ : Sto} {l : List ZR} {m : List Q1} (h : Zj σ l m) (c : Q3) : ∀ i, QH (Jj c) l i = QH (WP c) m i := by
 induction h with
 | nil => intro i; rfl
 | cons h1 _ ih =>
  intro i
  rename_i r q l m h2
  have : Jj c r = WP c q := by
   unfold Jj WP
   rw [← h1.mapped, h1.ctx]
   cases r.mapped <;> rfl
  rw [QH, QH, this, ih]
end Go.Proofs.YtdibpeknpmhknaaGreat
namespace Go.Proofs.YtdibpeknpmhknaaGreat
open Go
structure Jq (σ σ' : Sto) (id : Nat) (T T' : ZW) : Prop where
 keep : Keep σ σ' id T.mid T.t
 pid : T'.pid = T.pid
 mid : T'.mid = T.mid
 t : T'.t = T.t ∨ σ.ntok ≤ T'.t
theorem Jq.refl (σ : Sto) (id : Nat) (T : ZW) : Jq σ σ id T T := ⟨⟨rfl, fun _ _ _ => rfl, Nat.le_refl _, fun _ _ _ => rfl⟩, rfl, rfl, .inl rfl⟩
theorem Jq.trans {a b c : Sto} {id : Nat} {T T1 T2 : ZW} (h : Jq a b id T T1) (k : Jq b c id T1 T2) : Jq a c id T T2 where
 keep := ⟨by rw [k.keep.nobj, h.keep.nobj], fun i h1 h2 => by rw [k.keep.obj i h1 (by rw [h.mid]; exact h2), h.keep.obj i h1 h2], Nat.le_trans h.keep.ntok k.keep.ntok, fun g hg hn => by
  have h0 := h.keep.ntok
  rw [k.keep.fr g (by omega) (by rcases h.t with e | e <;> omega), h.keep.fr g hg hn]⟩
 pid := k.pid.trans h.pid
 mid := k.mid.trans h.mid
 t := by
  have h0 := h.keep.ntok
  rcases k.t with e | e
  ·rw [e]; exact h.t
  ·exact .inr (by omega)
theorem Grew.adv {σ σ' : Sto} {id : Nat} {K : Qw} {T T' : ZW} {r : ZR} (h : Grew σ σ' id K T T' r) : Jq σ σ' id T T' := ⟨h.keep, h.pid, h.mid, h.t⟩
structure ZC (σ : Sto) (id : Nat) (p : Qw) (T : ZW) (rows : List Q1) : Prop where
 ex : ∃ K, Tab σ id K T ∧ UG K p ∧ Zg K
 rel : Zj σ T.rows rows
 good : Zg p
theorem Zj.grew {σ σ' : Sto} {id : Nat} {K : Qw} {T T' : ZW} {r : ZR} {m : List Q1} (h : Zj σ T.rows m) (ht : Tab σ id K T) (g : Grew σ σ' id K T T' r) : Zj σ' T.rows m :=
 h.mono fun q hq H hH => hH.keep g.keep (ht.homes q hq).2.1 (ht.homes q hq).2.2
theorem ZC.add {σ σ' : Sto} {id : Nat} {p K : Qw} {T T' : ZW} {m : List Q1} {s : Bs} {c : Q3} (h : ZC σ id p T m) (ht : Tab σ id K T) (hk : UG K p) (gk : Zg K) (g : Grew σ σ' id K T T' ⟨s, T.pid, c, true⟩) : ZC σ' id p T' (m ++ [Q1.ok p s c]) := by
 refine ⟨⟨K, g.tab, hk, gk⟩, ?_, h.good⟩
 rw [g.rows]
 refine (h.rel.grew ht g).snoc ⟨rfl, rfl, rfl, rfl, h.good, K, ?_, hk, gk⟩
 have := g.tab.pol
 rw [g.pid] at this
 exact this
theorem JO {n : Nat} (hn : 200 ≤ n) {σ : Sto} {id : Nat} {p : Qw} {T : ZW} {m : List Q1} (h : ZC σ id p T m) (hl : T.rows.length ≤ 10000) (c : Q3) :
  ∃ σ' T', ciJ PR n 16 [.obj id 0, c.d] σ = some (.tup [.int .i64 (YL p m c).2.1, .int .i64 (YL p m c).2.2], σ') ∧ ZC σ' id p T' (YL p m c).1 ∧ Jq σ σ' id T T' ∧ T'.rows.length ≤ T.rows.length + 1 := by
 obtain ⟨K, ht, hk, gk⟩ := h.ex
 obtain ⟨σ', h1, h2⟩ := e16 ht hn hl c
 have hlen := h.rel.length
 have hf := h.rel.find c 0
 unfold sidV at h1
 rw [hk.check c, hf, hlen] at h1 h2
 unfold YL
 by_cases hq : QP p c = 0
 ·simp only [if_pos hq] at h1 ⊢
  rcases Wn (WP c) m 0 with ⟨e, -⟩ | ⟨j, x, e, -⟩
  ·rw [e] at h1 h2 ⊢
   rw [if_neg (by decide)] at h1
   by_cases hfull : 1024 ≤ m.length
   ·rw [if_pos hfull] at h1
    rw [if_neg (λhh=> by omega)] at h2
    subst h2
    rw [show Vh p m c (-1) = (m, 0, 25) from if_pos hfull]
    exact ⟨_, T, h1, h, .refl _ _ _, by omega⟩
   ·rw [if_neg hfull] at h1
    rw [if_pos ⟨hq, by decide, by omega⟩] at h2
    obtain ⟨T', g⟩ := h2
    rw [show Vh p m c (-1) = (m ++ [Q1.ok p [] c], ((m.length + 1 : Nat) : Int), 0) from if_neg hfull]
    exact ⟨σ', T', h1, h.add ht hk gk g, g.adv, by rw [g.rows]; simp⟩
  ·rw [e, Nat.zero_add] at h1 h2 ⊢
   rw [if_pos (by omega)] at h1
   rw [if_neg (λhh=> by omega)] at h2
   subst h2
   rw [show Vh p m c (j : Int) = (m, ((j + 1 : Nat) : Int), 0) from rfl]
   exact ⟨_, T, h1, h, .refl _ _ _, by omega⟩
 ·simp only [if_neg hq] at h1 ⊢
  rw [if_neg (λhh=> hq hh.1)] at h2
  subst h2
  exact ⟨_, T, h1, h, .refl _ _ _, by omega⟩
def X2 (p : Qw) : List Q1 → List Q3 → List Q1
 | m, [] => m
 | m, c :: l => X2 p (YL p m c).1 l
theorem l12 {n : Nat} (hn : 101000 ≤ n) (id : Nat) (p : Qw) (l : Sl Q3) (hL : l.l.length ≤ 10000) : ∀ (k i m : Nat) (σ : Sto) (T : ZW) (s : Sl Q1), i + k = l.l.length → k < m → ZC σ id p T s.l → T.rows.length + k ≤ 10000 →
  ∃ z σ' T', Qv 0 (L12_0 (cpJ PR n) (ciJ PR n) n (.obj id 0) (QJ 7 Q3.row l)) m [.int .i64 i, .bool false, zst, rD p s] σ = some (.done (.tup [rD p ⟨z, X2 p s.l (l.l.drop i)⟩, .bool true]) σ') ∧
   ZC σ' id p T' (X2 p s.l (l.l.drop i)) ∧ Jq σ σ' id T T' ∧ T'.rows.length ≤ T.rows.length + k := by
 intro k
 have hw : ∀ t : Sl Q1, Qh 0 18 [zst, rD p t] = some (rD p t) := λt=> V5 rfl
 have hw2 : ∀ t u : Sl Q1, Qh 0 18 [rD p u, rD p t] = some (rD p t) := fun t u => V5 rfl
 induction k with
 | zero =>
  intro i m σ T s hi hm hB hl
  obtain ⟨m, rfl⟩ : ∃ j, m = j + 1 := ⟨m - 1, by omega⟩
  have hi' : ¬ ((i : Int) < l.l.length) := by omega
  rw [List.drop_eq_nil_of_le (by omega)]
  refine ⟨s.z, σ, T, Qt ?_, hB, .refl _ _ _, by omega⟩
  simp -implicitDefEqProofs [L12_0, B12_0, hi', hw, X2, -Qh.eq_1]
 | succ k ih =>
  intro i m σ T s hi hm hB hl
  obtain ⟨m, rfl⟩ : ∃ j, m = j + 1 := ⟨m - 1, by omega⟩
  have hi' : ((i : Int) < l.l.length) := by omega
  obtain ⟨y, hy⟩ := Qz (by omega : i < l.l.length)
  have hwr : IntKind.i64.wrap ((i : Int) + 1) = ((i + 1 : Nat) : Int) := Z3 (by omega)
  have hlen := hB.rel.length
  obtain ⟨z, h1⟩ := e33 (n := n) hn p s y (by omega)
  obtain ⟨σ1, T1, h2, h3, h4, h5⟩ := JO (n := n) (by omega) hB (by omega) y
  obtain ⟨z', σ', T', g1, g2, g3, g4⟩ := ih (i + 1) m σ1 T1 ⟨z, (YL p s.l y).1⟩ (by omega) (by omega) h3 (by omega)
  rw [QY hy]
  refine ⟨z', σ', T', ?_, g2, h4.trans g3, by omega⟩
  rw [X2, ← g1]
  refine Qx ?_
  simp -implicitDefEqProofs [L12_0, B12_0, hi', hy, hwr, h1, h2, hw, hw2, -Qh.eq_1]
theorem e12 {n : Nat} (hn : 101001 ≤ n) {σ : Sto} {id : Nat} {p : Qw} {T : ZW} {s : Sl Q1} (hB : ZC σ id p T s.l) (l : Sl Q3) (hl : T.rows.length + l.l.length ≤ 10000) :
  ∃ z σ' T', ciJ PR n 12 [.obj id 0, rD p s, QJ 7 Q3.row l] σ = some (.tup [rD p ⟨z, X2 p s.l l.l⟩, .bool true], σ') ∧
   ZC σ' id p T' (X2 p s.l l.l) ∧ Jq σ σ' id T T' ∧ T'.rows.length ≤ T.rows.length + l.l.length := by
 obtain ⟨n, rfl⟩ : ∃ m, n = m + 1 := ⟨n - 1, by omega⟩
 obtain ⟨z, σ', T', h1, h2, h3, h4⟩ := l12 (n := n) (by omega) id p l (by omega) l.l.length 0 n σ T s (by omega) (by omega) hB hl
 simp only [Int.natCast_zero, List.drop_zero] at h1 h2
 refine ⟨z, σ', T', ?_, h2, h3, h4⟩
 rw [v12]
 simp -implicitDefEqProofs [D12, h1]
end Go.Proofs.YtdibpeknpmhknaaGreat
namespace Go.Proofs.YtdibpeknpmhknaaGreat
open Go
theorem Vz {σ : Sto} {l : List ZR} {m : List Q1} (h : Zj σ l m) (i : Int) : (Yd l i = none ∧ Yd m i = none) ∨ ∃ r q, Yd l i = some r ∧ Yd m i = some q ∧ Gc σ r q := by
 have hlen := h.length
 cases hi : inR i l.length with
 | false => exact .inl ⟨Wg hi, Wg (by rw [← hlen]; exact hi)⟩
 | true =>
  obtain ⟨j, r, e, hr⟩ := VR hi
  obtain ⟨q, hq, hR⟩ := h.get hr
  exact .inr ⟨r, q, XR e hr, XR e hq, hR⟩
section
variable {n : Nat} (hn : 101001 ≤ n) {σ : Sto} {id : Nat} {p : Qw} {T : ZW} {s : Sl Q1} (hB : ZC σ id p T s.l) (hl : T.rows.length ≤ 10000)
include hn hB hl
theorem l13 : ∀ (k : Nat) (i : Int) (m : Nat), i + k = T.rows.length + 2 → -1 ≤ i → k < m →
  Qv 0 (L13_0 (cpJ PR n) (ciJ PR n) n (.obj id 0) (rD p s)) m [.int .i64 i, .bool false] σ = some (.done (.bool true) σ) := by
 obtain ⟨K, ht, hk, gk⟩ := hB.ex
 have hlen := hB.rel.length
 have h19 := e19 ht (n := n) (by omega)
 have hw1 : IntKind.i64.wrap ((T.rows.length : Int) + 1) = (T.rows.length : Int) + 1 := Ze (by omega) (by omega)
 intro k
 induction k with
 | zero =>
  intro i m hi h0 hm
  obtain ⟨m, rfl⟩ : ∃ j, m = j + 1 := ⟨m - 1, by omega⟩
  have hi' : ¬ (i ≤ (T.rows.length : Int) + 1) := by omega
  refine Qt ?_
  simp -implicitDefEqProofs [L13_0, B13_0, h19, hw1, hi']
 | succ k ih =>
  intro i m hi h0 hm
  obtain ⟨m, rfl⟩ : ∃ j, m = j + 1 := ⟨m - 1, by omega⟩
  have hi' : (i ≤ (T.rows.length : Int) + 1) := by omega
  have hwr : IntKind.i64.wrap (i + 1) = i + 1 := Ze (by omega) (by omega)
  rw [← ih (i + 1) m (by omega) (by omega) (by omega)]
  refine Qx ?_
  have h17 := e17 ht (n := n) (by omega) i (by omega)
  have h18 := e18 ht (n := n) (by omega) i (by omega)
  have h21 := e21 ht (n := n) (by omega) i (by omega)
  have h35 := e35 (n := n) (by omega) p s (by omega) i
  have h36 := e36 (n := n) (by omega) p s (by omega) i
  have h37 := e37 (n := n) (by omega) p s (by omega) i hB.rel.good
  have h38 := e38 (n := n) (by omega) p s (by omega) i
  rcases Vz hB.rel i with ⟨r1, r2⟩ | ⟨r, q, r1, r2, hR⟩
  ·have h22 := e22n ht (n := n) (by omega) i (by omega) r1
   rw [r1] at h17 h18 h21
   rw [r2] at h35 h36 h37 h38
   have he := ctx_ne Q3.z
   simp -implicitDefEqProofs [L13_0, B13_0, h19, hw1, hi', hwr, h17, h18, h21, h22, h35, h36, h37, h38, he, -QZ.eq_1]
  ·obtain ⟨H, a1, a2, a3⟩ := hR.home
   have h22 := e22s ht (n := n) (by omega) i (by omega) (by omega) r1 a1 a3
   rw [r1] at h17 h18 h21
   rw [r2] at h35 h36 h37 h38
   simp only at h17 h18 h21 h35 h36 h37 h38
   rw [a2.text, hR.at_] at h22
   rw [hR.name] at h21
   rw [hR.mapped] at h18
   have hc : (if r.mapped = true then r.at_.d else Q3.z.d) = q.ctx.d := by rw [hR.ctx]; split <;> rfl
   rw [hc] at h17
   have he := ctx_ne q.ctx
   simp -implicitDefEqProofs [L13_0, B13_0, h19, hw1, hi', hwr, h17, h18, h21, h22, h35, h36, h37, h38, he, -QZ.eq_1]
end
theorem e13 {n : Nat} (hn : 111002 ≤ n) {σ : Sto} {id : Nat} {p : Qw} {T : ZW} {s : Sl Q1} (hB : ZC σ id p T s.l) (hl : T.rows.length ≤ 10000) : ciJ PR n 13 [.obj id 0, rD p s] σ = some (.bool true, σ) := by
 obtain ⟨n, rfl⟩ : ∃ m, n = m + 1 := ⟨n - 1, by omega⟩
 obtain ⟨K, ht, hk, gk⟩ := hB.ex
 have hlen := hB.rel.length
 have h19 := e19 ht (n := n) (by omega)
 have h34 := e34 (n := n) (by omega) p s
 have h1 := l13 (n := n) (by omega) hB hl (T.rows.length + 3) (-1) n (by omega) (by omega) (by omega)
 rw [← hlen] at h34
 rw [v13]
 simp -implicitDefEqProofs [D13, h19, h34, h1]
end Go.Proofs.YtdibpeknpmhknaaGreat
namespace Go.Proofs.YtdibpeknpmhknaaGreat
open Go
def GV (p : Qw) (s : ZD) : Bool := QP p s.ctx != 0
section
variable {p : Qw} {a : Nat} {σ : Sto} (ho : σ.obj a = .agg p.row) (ha : a < σ.nobj)
include ho ha
theorem ld_pol : Q8 σ (some 17) [.obj a 0] = some (p.d, σ) := by rw [Yl _ ho ha]; rfl
theorem ld_sids : Q8 σ none [.obj a 14] = some (QJ 8 ZD.row p.sids, σ) := by rw [Yl _ ho ha]; rfl
theorem e63 {n : Nat} (hn : 101 ≤ n) (s : ZD) : ciJ PR n 63 [s.d, .obj a 0] σ = some (.bool (GV p s), σ) := by
 obtain ⟨n, rfl⟩ : ∃ m, n = m + 1 := ⟨n - 1, by omega⟩
 have h1 := ld_pol ho ha
 have h2 := e44 (n := n) (by omega) p s.ctx
 rw [v63]
 simp -implicitDefEqProofs [D63, h1, h2, GV]
theorem l97 {n : Nat} (hn : 101 ≤ n) (us : Sl ZD) (hl : us.l.length ≤ 1000) : ∀ (k i m : Nat) (w : Qa), i + k = us.l.length → k < m →
  Qv 0 (L97_0 (cpJ PR n) (ciJ PR n) n (QJ 8 ZD.row us) (.func 63 [.obj a 0]) (.int .i64 us.l.length)) m [.int .i64 i, w] σ = some (.done (.int .i64 (QH (GV p) (us.l.drop i) i)) σ) := by
 intro k
 induction k with
 | zero =>
  intro i m w hi hm
  obtain ⟨m, rfl⟩ : ∃ j, m = j + 1 := ⟨m - 1, by omega⟩
  have hi' : ¬ ((i : Int) < us.l.length) := by omega
  rw [List.drop_eq_nil_of_le (by omega)]
  refine Qt ?_
  simp -implicitDefEqProofs [L97_0, B97_0, hi', QH]
 | succ k ih =>
  intro i m w hi hm
  obtain ⟨m, rfl⟩ : ∃ j, m = j + 1 := ⟨m - 1, by omega⟩
  have hi' : ((i : Int) < us.l.length) := by omega
  obtain ⟨x, hx⟩ := Qz (by omega : i < us.l.length)
  have hwr := QT (by omega : i < us.l.length) (by unfold maxLen; omega)
  have h1 := e63 ho ha hn x
  rw [QY hx, QH]
  cases hf : GV p x <;> rw [hf] at h1
  ·simp only [Bool.false_eq_true, if_false]
   rw [← ih (i + 1) m w (by omega) (by omega)]
   refine Qx ?_
   simp -implicitDefEqProofs [L97_0, B97_0, hi', hx, hwr, h1]
  ·refine Qt ?_
   simp -implicitDefEqProofs [L97_0, B97_0, hi', hx, hwr, h1]
end
theorem bad_right (p : Qw) : ZP p = (!decide (0 ≤ QH (GV p) p.sids.l 0) && decide (p.sids.l.length ≤ 1024)) := by
 have : p.sids.l.all (okS p) = !decide (0 ≤ QH (GV p) p.sids.l 0) := by
  rcases Wn (GV p) p.sids.l 0 with ⟨e, h⟩ | ⟨j, x, e, h1, h2, -⟩
  ·rw [e, Bool.eq_iff_iff]
   simp only [List.all_eq_true, Bool.not_eq_true', decide_eq_false_iff_not]
   refine ⟨λ_=> by decide, fun _ x hx => ?_⟩
   have := h x hx
   simpa [GV, okS] using this
  ·rw [e, Bool.eq_iff_iff]
   simp only [List.all_eq_true, Bool.not_eq_true', decide_eq_false_iff_not]
   refine ⟨λhh=> ?_, λhh=> by omega⟩
   have := hh x (List.mem_of_getElem? h1)
   simp only [okS, beq_iff_eq] at this
   simp [GV, this] at h2
 rw [ZP, this]
theorem e28 {n : Nat} (hn : 1105 ≤ n) {p : Qw} (hl : p.sids.l.length ≤ 1000) : cpJ PR n 28 [p.d] = some (.bool (ZP p)) := by
 obtain ⟨n, rfl⟩ : ∃ m, n = m + 3 := ⟨n - 3, by omega⟩
 have ho : (Qd.new (.agg p.row)).obj Qd.nobj = .agg p.row := by simp
 have ha : Qd.nobj < (Qd.new (.agg p.row)).nobj := by simp
 have h1 := l97 ho ha (n := n) (by omega) p.sids hl p.sids.l.length 0 n (.int .i64 0) (by omega) (by omega)
 simp only [Int.natCast_zero, List.drop_zero] at h1
 have h2 : ciJ PR (n + 1) 97 [QJ 8 ZD.row p.sids, .func 63 [.obj Qd.nobj 0]] (Qd.new (.agg p.row)) = some (.int .i64 (QH (GV p) p.sids.l 0), Qd.new (.agg p.row)) := by
  rw [v97]
  simp -implicitDefEqProofs [D97, h1]
 have h3 : ciJ PR (n + 2) 62 [QJ 8 ZD.row p.sids, .func 63 [.obj Qd.nobj 0]] (Qd.new (.agg p.row)) = some (.bool (decide (0 ≤ QH (GV p) p.sids.l 0)), Qd.new (.agg p.row)) := by
  rw [v62]
  simp -implicitDefEqProofs [D62, h2]
 have h4 := ld_sids ho ha
 have h5 : Z2 Qd [p.d] = some (.obj Qd.nobj 0, Qd.new (.agg p.row)) := by
  show (if p.row.all Qa.okCell then _ else _) = _
  rw [if_pos (by simp [Qw.row])]
  rfl
 have hc : ((p.sids.l.length : Int) ≤ 1024) = (p.sids.l.length ≤ 1024) := by rw [eq_iff_iff]; omega
 rw [u28, bad_right]
 cases hb : decide (0 ≤ QH (GV p) p.sids.l 0) <;> rw [hb] at h3 <;> simp -implicitDefEqProofs [D28, h3, h4, h5, hc]
def CopyD (sz : Nat) (u : Qa) (l : List (List Qa)) : Prop := (u = .nils ∧ l = []) ∨ (u = .slice false 1 sz [] ∧ l = []) ∨ u = .slice false 2 sz l
theorem Wr {sz : Nat} {u : Qa} {l : List (List Qa)} (h : CopyD sz u l) : ∃ z, u.stale = slD z sz l := by
 rcases h with ⟨rfl, rfl⟩ | ⟨rfl, rfl⟩ | rfl
 ·exact ⟨.nil, rfl⟩
 ·exact ⟨.lit, rfl⟩
 ·cases l
  ·exact ⟨.full, rfl⟩
  ·exact ⟨.full, rfl⟩
theorem HZ {sz : Nat} (z : Zs) (l : List (List Qa)) (hl : l.length ≤ 100000) (hz : slD z sz l ≠ .nils) :
  QV 0 false [slD z sz l] = some (.bool false) ∧ ∃ v σ u, QF false sz Qd [.slice false 1 sz [], slD z sz l] = some (v, σ) ∧ v.okVal = true ∧ v.handBack σ = some u ∧ CopyD sz u l := by
 constructor
 ·rcases ZH z sz l with ⟨h, -⟩ | ⟨h, -⟩ | h | h
  ·exact absurd h hz
  all_goals rw [h]; rfl
 ·have e1 : ∀ σ, Ye σ (slD z sz l) = some (false, l) := λσ=> Gq W9
  have e2 : (slD z sz l).szOk sz = true := V6
  cases l with
  | nil => exact ⟨.slice false 1 sz [], Qd, .slice false 1 sz [], by simp [QF, XH, e1, e2, QS], rfl, rfl, .inr (.inl ⟨rfl, rfl⟩)⟩
  | cons e es =>
   have hm : es.length + 1 ≤ QS := by unfold QS; simp at hl; omega
   refine ⟨.slice false 3 sz (e :: es), { Qd with ntok := 1, fr := upd Qd.fr 0 ((es.length + 1) * sz) }, .slice false 2 sz (e :: es), by simp [QF, XH, e1, e2, hm, Qd], rfl, ?_, .inr (.inr rfl)⟩
   simp [Qa.handBack, upd]
theorem e98 {n : Nat} (hn : 1 ≤ n) (s : Sl QQ) (hl : s.l.length ≤ 100000) : ∃ u, cpJ PR n 98 [QJ 9 QQ.row s] = some u ∧ CopyD 9 u (s.l.map QQ.row) := by
 obtain ⟨n, rfl⟩ : ∃ m, n = m + 1 := ⟨n - 1, by omega⟩
 rw [u98]
 by_cases hz : slD s.z 9 (s.l.map QQ.row) = .nils
 ·have he : s.l.map QQ.row = [] := by
   rcases ZH s.z 9 (s.l.map QQ.row) with ⟨h, h2⟩ | ⟨h, h2⟩ | h | h
   ·exact h2
   ·exact h2
   all_goals rw [h] at hz; cases hz
  refine ⟨.nils, ?_, .inl ⟨rfl, he⟩⟩
  rw [show QJ 9 QQ.row s = .nils from hz]
  simp -implicitDefEqProofs [D98]
 ·obtain ⟨h0, v, σ, u, h1, h2, h3, h4⟩ := HZ s.z (s.l.map QQ.row) (by simpa using hl) hz
  refine ⟨u, ?_, h4⟩
  have h5 : POp.sem (cpJ PR n) [] (.bslice false 9) = some (.slice false 1 9 []) := rfl
  have h0' : QV 0 false [QJ 9 QQ.row s] = some (.bool false) := h0
  have h1' : QF false 9 Qd [.slice false 1 9 [], QJ 9 QQ.row s] = some (v, σ) := h1
  simp -implicitDefEqProofs [D98, h0', h1', h5, h2, h3, -QV.eq_1]
theorem e99 {n : Nat} (hn : 1 ≤ n) (s : Sl QU) (hl : s.l.length ≤ 100000) : ∃ u, cpJ PR n 99 [QJ 11 QU.row s] = some u ∧ CopyD 11 u (s.l.map QU.row) := by
 obtain ⟨n, rfl⟩ : ∃ m, n = m + 1 := ⟨n - 1, by omega⟩
 rw [u99]
 by_cases hz : slD s.z 11 (s.l.map QU.row) = .nils
 ·have he : s.l.map QU.row = [] := by
   rcases ZH s.z 11 (s.l.map QU.row) with ⟨h, h2⟩ | ⟨h, h2⟩ | h | h
   ·exact h2
   ·exact h2
   all_goals rw [h] at hz; cases hz
  refine ⟨.nils, ?_, .inl ⟨rfl, he⟩⟩
  rw [show QJ 11 QU.row s = .nils from hz]
  simp -implicitDefEqProofs [D99]
 ·obtain ⟨h0, v, σ, u, h1, h2, h3, h4⟩ := HZ s.z (s.l.map QU.row) (by simpa using hl) hz
  refine ⟨u, ?_, h4⟩
  have h5 : POp.sem (cpJ PR n) [] (.bslice false 11) = some (.slice false 1 11 []) := rfl
  have h0' : QV 0 false [QJ 11 QU.row s] = some (.bool false) := h0
  have h1' : QF false 11 Qd [.slice false 1 11 [], QJ 11 QU.row s] = some (v, σ) := h1
  simp -implicitDefEqProofs [D99, h0', h1', h5, h2, h3, -QV.eq_1]
theorem e100 {n : Nat} (hn : 1 ≤ n) (s : Sl Bs) (hl : s.l.length ≤ 100000) : ∃ u, cpJ PR n 100 [Z1 s] = some u ∧ CopyD 1 u (s.l.map λx=> [Qa.str x]) := by
 obtain ⟨n, rfl⟩ : ∃ m, n = m + 1 := ⟨n - 1, by omega⟩
 rw [u100]
 by_cases hz : slD s.z 1 (s.l.map λx=> [Qa.str x]) = .nils
 ·have he : (s.l.map λx=> [Qa.str x]) = [] := by
   rcases ZH s.z 1 (s.l.map λx=> [Qa.str x]) with ⟨h, h2⟩ | ⟨h, h2⟩ | h | h
   ·exact h2
   ·exact h2
   all_goals rw [h] at hz; cases hz
  refine ⟨.nils, ?_, .inl ⟨rfl, he⟩⟩
  rw [show Z1 s = .nils from hz]
  simp -implicitDefEqProofs [D100]
 ·obtain ⟨h0, v, σ, u, h1, h2, h3, h4⟩ := HZ s.z (s.l.map λx=> [Qa.str x]) (by simpa using hl) hz
  refine ⟨u, ?_, h4⟩
  have h5 : POp.sem (cpJ PR n) [] (.bslice false 1) = some (.slice false 1 1 []) := rfl
  have h0' : QV 0 false [Z1 s] = some (.bool false) := h0
  have h1' : QF false 1 Qd [.slice false 1 1 [], Z1 s] = some (v, σ) := h1
  simp -implicitDefEqProofs [D100, h0', h1', h5, h2, h3, -QV.eq_1]
end Go.Proofs.YtdibpeknpmhknaaGreat
namespace Go.Proofs.YtdibpeknpmhknaaGreat
open Go
def OwnB (σ : Sto) (sz : Nat) (v : Qa) (t : Nat) (l : List (List Qa)) : Prop :=
 (v = .nils ∧ l = []) ∨ (v = .slice false (t + 3) sz l ∧ σ.fr t = l.length * sz ∧ t < σ.ntok)
theorem ownB_app {σ : Sto} {sz : Nat} {v : Qa} {t : Nat} {l : List (List Qa)} {r : List Qa} (h : OwnB σ sz v t l) (hl : l.length ≤ 100000) :
  ∃ v' t' σ', QF false sz σ [v, .slice false 1 sz [r]] = some (v', σ') ∧ OwnB σ' sz v' t' (l ++ [r]) ∧ σ'.obj = σ.obj ∧ σ'.nobj = σ.nobj ∧ σ.ntok ≤ σ'.ntok ∧ (∀ g, g < σ.ntok → g ≠ t → σ'.fr g = σ.fr g) ∧ (t' = t ∨ σ.ntok ≤ t') ∧ v'.cells = [v'] ∧ v'.okCell = true := by
 rcases h with ⟨rfl, rfl⟩ | ⟨rfl, h1, h2⟩
 ·refine ⟨.slice false (σ.ntok + 3) sz [r], σ.ntok, { σ with ntok := σ.ntok + 1, fr := upd σ.fr σ.ntok (1 * sz) }, by simp [QF, XH, Ye, XE, Qa.szOk, QS], .inr ⟨rfl, by simp [upd], by simp⟩, rfl, rfl, by simp, fun g hg _ => ?_, .inr (Nat.le_refl _), rfl, rfl⟩
  simp only [upd]
  rw [if_neg (by omega)]
 ·have hm : l.length + 1 ≤ QS := by unfold QS; omega
  refine ⟨.slice false (t + 3) sz (l ++ [r]), t, { σ with fr := upd σ.fr t ((l.length + 1) * sz) }, by simp [QF, XH, Ye, XE, Qa.szOk, hm, h1], .inr ⟨rfl, by simp [upd], h2⟩, rfl, rfl, Nat.le_refl _, fun g hg hn => ?_, .inl rfl, rfl, rfl⟩
  simp only [upd]
  rw [if_neg hn]
theorem ownB_seal {σ : Sto} {sz : Nat} {v : Qa} {t : Nat} {l : List (List Qa)} (h : OwnB σ sz v t l) : ∃ z, v.sealCell = some (slD z sz l) := by
 rcases h with ⟨rfl, rfl⟩ | ⟨rfl, -⟩
 ·exact ⟨.nil, rfl⟩
 ·refine ⟨.full, ?_⟩
  cases l <;> simp [Qa.sealCell, slD]
def YI (v r u s c : Qa) : List Qa := [.nils, v, .nils, r, u, .nils, s, c, .nils, .nils, .nils, .nils, .nils, .nils, .nils, .nils, .nils]
theorem type_slice (C : Qj) (t : Q9) : POp.sem C [t.d] (.bslice false 3) = some (.slice false 1 3 [t.row]) := by
 show (ZX false 3 [t.d]).map _ = _
 have h1 : t.d.cells = t.row := rfl
 have h2 : QN t.row = some t.row := by simp [Q9.row, QN]
 have h3 : t.row.length = 3 := rfl
 simp [ZX, h1, h2, h3]
theorem type_al (t : Q9) (z : Zs) : Qh 1 1 [t.d, slD z 1 (t.aliases.l.map λx=> [Qa.str x])] = some ({ t with aliases := ⟨z, t.aliases.l⟩ } : Q9).d := by
 simp [Qh, Q9.d, Q9.row, QX, Z1]
theorem l64 {n : Nat} (hn : 1 ≤ n) (p : Qw) (hl : p.types.l.length ≤ 1000) (hal : ∀ y : Q9, y ∈ p.types.l → y.aliases.l.length ≤ 100000) (a : Nat) (r u s c : Qa) : ∀ (k i m : Nat) (σ : Sto) (v : Qa) (t : Nat) (ts : List Q9), i + k = p.types.l.length → k < m →
  a < σ.nobj → σ.obj a = .agg (YI v r u s c) → OwnB σ 3 v t (ts.map Q9.row) → ts.map Q9.plain = (p.types.l.take i).map Q9.plain →
  ∃ (σ' : Sto) (v' : Qa) (t' : Nat) (ts' : List Q9), Qv 0 (L64_0 (cpJ PR n) (ciJ PR n) n (.obj a 0) (QJ 3 Q9.row p.types) (.int .i64 p.types.l.length)) m [.int .i64 i] σ = some (.done (.obj a 0) σ') ∧
   σ'.nobj = σ.nobj ∧ σ'.obj a = .agg (YI v' r u s c) ∧ OwnB σ' 3 v' t' (ts'.map Q9.row) ∧ ts'.map Q9.plain = p.types.l.map Q9.plain ∧ (∀ j, j ≠ a → σ'.obj j = σ.obj j) ∧ σ.ntok ≤ σ'.ntok ∧ (∀ g, g < σ.ntok → g ≠ t → σ'.fr g = σ.fr g) := by
 intro k
 induction k with
 | zero =>
  intro i m σ v t ts hi hm ha ho hv hts
  obtain ⟨m, rfl⟩ : ∃ j, m = j + 1 := ⟨m - 1, by omega⟩
  have hi' : ¬ ((i : Int) < p.types.l.length) := by omega
  rw [List.take_of_length_le (by omega)] at hts
  refine ⟨σ, v, t, ts, Qt ?_, rfl, ho, hv, hts, fun _ _ => rfl, Nat.le_refl _, fun _ _ _ => rfl⟩
  simp -implicitDefEqProofs [L64_0, B64_0, hi']
 | succ k ih =>
  intro i m σ v t ts hi hm ha ho hv hts
  obtain ⟨m, rfl⟩ : ∃ j, m = j + 1 := ⟨m - 1, by omega⟩
  have hi' : ((i : Int) < p.types.l.length) := by omega
  obtain ⟨x, hx⟩ := Qz (by omega : i < p.types.l.length)
  have hwr := QT (by omega : i < p.types.l.length) (by unfold maxLen; omega)
  obtain ⟨w, h1, h2⟩ := e100 (n := n) hn x.aliases (hal x (List.mem_of_getElem? hx))
  obtain ⟨z, hz⟩ := Wr h2
  have h3 := type_al x z
  have h4 := type_slice (cpJ PR n) { x with aliases := ⟨z, x.aliases.l⟩ }
  have hlen : ts.length = i := by
   have := congrArg List.length hts
   simp at this
   omega
  obtain ⟨v', t', σ1, a1, a2, a3, a4, a5, a6, a7, a8, a9⟩ := ownB_app (r := ({ x with aliases := ⟨z, x.aliases.l⟩ } : Q9).row) hv (by rw [List.length_map]; omega)
  have l1 : Q8 σ none [.obj a 1] = some (v, σ) := by rw [Yl _ ho ha]; rfl
  have hst : Xr σ1 1 [.obj a 1, v'] = some (.undef, σ1.put a (.agg (YI v' r u s c))) := by
   rw [st_obj (k := 1) (cs := YI v r u s c) (by rw [a3]; exact ho) (by rw [a4]; exact ha) (by rw [a8]; rfl) (by rw [a8, List.all_cons, a9]; rfl), a8]
   rfl
  have own2 : OwnB (σ1.put a (.agg (YI v' r u s c))) 3 v' t' ((ts ++ [{ x with aliases := ⟨z, x.aliases.l⟩ }]).map Q9.row) := by
   rw [List.map_append]
   rcases a2 with q | ⟨q1, q2, q3⟩
   ·exact .inl q
   ·exact .inr ⟨q1, q2, q3⟩
  obtain ⟨σ', v2, t2, ts', g1, g2, g3, g4, g5, g6, g7, g8⟩ := ih (i + 1) m _ v' t' (ts ++ [{ x with aliases := ⟨z, x.aliases.l⟩ }]) (by omega) (by omega) (by rw [Sto.put_nobj, a4]; exact ha) Sto.put_obj own2 (by rw [List.map_append, hts, Zp hx, List.map_append]; rfl)
  refine ⟨σ', v2, t2, ts', ?_, by rw [g2, Sto.put_nobj, a4], g3, g4, g5, fun j hj => by rw [g6 j hj, Sto.put_obj_ne hj, a3], by rw [Sto.put_ntok] at g7; omega, fun g hg hn' => ?_⟩
  ·rw [← g1]
   refine Qx ?_
   simp -implicitDefEqProofs [L64_0, B64_0, hi', hx, hwr, h1, hz, h3, h4, l1, a1, hst, -Qh.eq_1]
  ·rw [g8 g (by rw [Sto.put_ntok]; omega) (by rcases a7 with e | e <;> omega), Sto.put_fr, a6 g hg hn']
end Go.Proofs.YtdibpeknpmhknaaGreat
namespace Go.Proofs.YtdibpeknpmhknaaGreat
open Go
theorem snapRes_copy {σ : Sto} {sz : Nat} {u : Qa} {l : List (List Qa)} (h : CopyD sz u l) (hp : l.all (λe=> e.all Qa.plainCell) = true) :
  ∃ w σ1, J3 σ u = some (w, σ1) ∧ (∃ z, w.sealCell = some (slD z sz l)) ∧ w.cells = [w] ∧ w.okCell = true ∧ σ1.obj = σ.obj ∧ σ1.nobj = σ.nobj ∧ σ.ntok ≤ σ1.ntok ∧ ∀ g, g < σ.ntok → σ1.fr g = σ.fr g := by
 rcases h with ⟨rfl, rfl⟩ | ⟨rfl, rfl⟩ | rfl
 ·exact ⟨.nils, σ, rfl, ⟨.nil, rfl⟩, rfl, rfl, rfl, rfl, Nat.le_refl _, fun _ _ => rfl⟩
 ·exact ⟨.slice false 1 sz [], σ, rfl, ⟨.lit, rfl⟩, rfl, rfl, rfl, rfl, Nat.le_refl _, fun _ _ => rfl⟩
 ·refine ⟨.slice false (σ.ntok + 3) sz l, { σ with ntok := σ.ntok + 1, fr := upd σ.fr σ.ntok (l.length * sz) }, by simp [J3, hp, ZG], ⟨.full, ?_⟩, rfl, by simp [Qa.okCell], rfl, rfl, by simp, fun g hg => ?_⟩
  ·cases l <;> simp [Qa.sealCell, slD]
  ·simp only [upd]; rw [if_neg (by omega)]
def keepP (p : Qw) (ts : Sl Q9) (a b c d : Zs) : Qw := { Qw.z with types := ts, roles := ⟨a, p.roles.l⟩, users := ⟨b, p.users.l⟩, sens := ⟨c, p.sens.l⟩, cats := ⟨d, p.cats.l⟩ }
theorem tnames_plain {l m : List Q9} (h : l.map Q9.plain = m.map Q9.plain) : ZB l = ZB m := by
 have e : ∀ l : List Q9, ZB l = (l.map Q9.plain).flatMap λx=> x.1 :: x.2 := by
  intro l
  induction l with
  | nil => rfl
  | cons a l ih => simp only [ZB, List.flatMap_cons, List.map_cons] at ih ⊢; rw [ih]; rfl
 rw [e, e, h]
theorem keep_good {p : Qw} (g : Zg p) {ts : Sl Q9} (h : ts.l.map Q9.plain = p.types.l.map Q9.plain) (a b c d : Zs) : UG (keepP p ts a b c d) p ∧ Zg (keepP p ts a b c d) := by
 have hlen : ts.l.length = p.types.l.length := by simpa using congrArg List.length h
 refine ⟨⟨h, rfl, rfl, rfl, rfl⟩, ⟨⟨?_, ⟨g.roles.first, g.roles.nd, g.roles.ok⟩, g.users, g.cats⟩, ?_⟩⟩
 ·show Xz (ZB ts.l) []
  rw [tnames_plain h]; exact g.types
 ·have s := g.small
  refine ⟨by show ts.l.length ≤ 12; rw [hlen]; exact s.types, Nat.zero_le _, Nat.zero_le _, Nat.zero_le _, Nat.zero_le _, Nat.zero_le _, Nat.zero_le _, s.users, s.roles, Nat.zero_le _, Nat.zero_le _, Nat.zero_le _, s.sens, s.cats, Nat.zero_le _, Nat.zero_le _, Nat.zero_le _, ?_⟩
  intro t ht
  have : t.plain ∈ ts.l.map Q9.plain := List.mem_map.2 ⟨t, ht, rfl⟩
  rw [h] at this
  obtain ⟨q, hq, e⟩ := List.mem_map.1 this
  have e2 : q.aliases.l = t.aliases.l := congrArg Prod.snd e
  rw [← e2]
  exact s.aliases q hq
theorem kbuild (C : Qj) (r u s c : Qa) (hr : r.cells = [r]) (hu : u.cells = [u]) (hs : s.cells = [s]) (hc : c.cells = [c]) : POp.sem C [r, u, s, c] (.build [.nils, .nils, .nils, .nils, .nils, .nils, .nils, .nils, .nils, .nils, .nils, .nils, .nils, .nils, .nils, .nils, .nils] [(3, 1), (4, 1), (6, 1), (7, 1)]) = some (.agg (YI .nils r u s c)) := by
 show (ZN _ _ _).map _ = _
 simp [ZN, hr, hu, hs, hc, QX, YI]
structure New (σ σ' : Sto) : Prop where
 nobj : σ.nobj ≤ σ'.nobj
 obj : ∀ j, j < σ.nobj → σ'.obj j = σ.obj j
 ntok : σ.ntok ≤ σ'.ntok
 fr : ∀ g, g < σ.ntok → σ'.fr g = σ.fr g
theorem Gj {σ : Sto} {c d : Qa} (h : c.sealCell = some d) : c.snapCell σ = some d := by
 cases c <;> first | exact h | (simp [Qa.sealCell] at h)
theorem E9 {σ : Sto} : ∀ {cs ds : List Qa}, QN cs = some ds → Xw σ cs = some ds
 | [], ds, h => h
 | c :: cs, ds, h => by
  simp only [QN] at h
  split at h
  ·rename_i h1 h2
   simp only [Option.some.injEq] at h
   simp only [Xw, Gj h1, E9 h2, h]
  ·cases h
@[simp] theorem snapCell_slOf {α : Type} {f : α → List Qa} {n : Nat} {s : Sl α} {σ : Sto} : (QJ n f s).snapCell σ = some (QJ n f s) := Gj Uo
@[simp] theorem snapCell_strs {s : Sl Bs} {σ : Sto} : (Z1 s).snapCell σ = some (Z1 s) := Gj sealCell_strs
def pdR (p : Qw) (rv : Qa) : Qa := .agg (p.row.set 3 rv)
structure Rol (σ : Sto) (rv : Qa) (p : Qw) : Prop where
 snap : rv.snapCell σ = some (QJ 9 QQ.row p.roles)
 okc : rv.okCell = true
 cells : rv.cells = [rv]
theorem Rol.plain (σ : Sto) (p : Qw) : Rol σ (QJ 9 QQ.row p.roles) p := ⟨snapCell_slOf, Wq, cells_slOf⟩
theorem pdR_plain (p : Qw) : p.d = pdR p (QJ 9 QQ.row p.roles) := rfl
section
variable {p : Qw} {rv : Qa}
@[simp high] theorem pdR_whole : Qb 0 (some 17) [pdR p rv] = some (pdR p rv) := rfl
@[simp high] theorem pdR_types : Qb 1 none [pdR p rv] = some (QJ 3 Q9.row p.types) := rfl
@[simp high] theorem pdR_roles : Qb 3 none [pdR p rv] = some rv := rfl
@[simp high] theorem pdR_users : Qb 4 none [pdR p rv] = some (QJ 11 QU.row p.users) := rfl
@[simp high] theorem pdR_sens : Qb 6 none [pdR p rv] = some (Z1 p.sens) := rfl
@[simp high] theorem pdR_cats : Qb 7 none [pdR p rv] = some (Z1 p.cats) := rfl
@[simp high] theorem pdR_sids : Qb 14 none [pdR p rv] = some (QJ 8 ZD.row p.sids) := rfl
theorem pdR_okc (h : rv.okCell = true) : (p.row.set 3 rv).all Qa.okCell = true := by
 simp [Qw.row, h]
theorem JP (h : rv.okCell = true) : Qm [pdR p rv] = some (pdR p rv) := by
 show (if (p.row.set 3 rv).all Qa.okCell then _ else _) = _
 rw [pdR_okc h]; rfl
theorem Ug (h : rv.okCell = true) : (pdR p rv).okVal = true := pdR_okc h
end
theorem Rol.val {σ : Sto} {rv : Qa} {p : Qw} (h : Rol σ rv p) : (pdR p rv).snapVal σ = some p.d := by
 show (Xw σ (p.row.set 3 rv)).map _ = _
 simp [Qw.row, Xw, h.snap, Qw.d]
theorem Rol.snapVal {σ : Sto} {rv : Qa} {p : Qw} (h : Rol σ rv p) : rv.snapVal σ = some (QJ 9 QQ.row p.roles) := by
 have h1 := h.okc
 have h2 := h.snap
 cases rv <;> first | exact h2 | (simp [Qa.okCell] at h1)
theorem e64 {n : Nat} (hn : 2000 ≤ n) (σ : Sto) {p : Qw} (g : Zg p) {rv : Qa} (hr : Rol σ rv p) :
  ∃ σ' K, ciJ PR n 64 [pdR p rv] σ = some (.obj σ.nobj 0, σ') ∧ σ'.nobj = σ.nobj + 1 ∧ Hom σ' σ.nobj K ∧ UG K p ∧ Zg K ∧ New σ σ' := by
 obtain ⟨n, rfl⟩ : ∃ m, n = m + 1 := ⟨n - 1, by omega⟩
 have hs := g.small
 obtain ⟨u1, h1, c1⟩ := e98 (n := n) (by omega) p.roles (by have := hs.roles; omega)
 obtain ⟨u2, h2, c2⟩ := e99 (n := n) (by omega) p.users (by have := hs.users; omega)
 obtain ⟨u3, h3, c3⟩ := e100 (n := n) (by omega) p.sens (by have := hs.sens; omega)
 obtain ⟨u4, h4, c4⟩ := e100 (n := n) (by omega) p.cats (by have := hs.cats; omega)
 obtain ⟨w, σ1, d1, ⟨z1, d2⟩, d3, d4, d5, d6, d7, d8⟩ := snapRes_copy (σ := σ) c1 (by simp [QQ.row, Q_.row, Qa.plainCell])
 obtain ⟨z2, k2⟩ := Wr c2
 obtain ⟨z3, k3⟩ := Wr c3
 obtain ⟨z4, k4⟩ := Wr c4
 have hcall : ZT (cpJ PR n) 98 σ [rv] = some (w, σ1) := by
  have e : Xa σ [rv] = some [QJ 9 QQ.row p.roles] := by
   simp only [Xa, hr.snapVal]
  rw [ZT, e, Option.bind_some, h1, Option.bind_some, d1]
 have hb := kbuild (cpJ PR n) w (slD z2 11 (p.users.l.map QU.row)) (slD z3 1 (p.sens.l.map λx=> [Qa.str x])) (slD z4 1 (p.cats.l.map λx=> [Qa.str x])) d3 Gv Gv Gv
 have hbox : Z2 σ1 [.agg (YI .nils w (slD z2 11 (p.users.l.map QU.row)) (slD z3 1 (p.sens.l.map λx=> [Qa.str x])) (slD z4 1 (p.cats.l.map λx=> [Qa.str x])))] = some (.obj σ1.nobj 0, σ1.new (.agg (YI .nils w (slD z2 11 (p.users.l.map QU.row)) (slD z3 1 (p.sens.l.map λx=> [Qa.str x])) (slD z4 1 (p.cats.l.map λx=> [Qa.str x]))))) := by
  show (if (YI _ _ _ _ _).all Qa.okCell then _ else _) = _
  rw [if_pos (by simp [YI, d4])]
  rfl
 obtain ⟨σ', v', t', ts', g1, g2, g3, g4, g5, g6, g7, g8⟩ := l64 (n := n) (by omega) p (by have := hs.types; omega) (fun y hy => by have := hs.aliases y hy; omega) σ1.nobj w (slD z2 11 (p.users.l.map QU.row)) (slD z3 1 (p.sens.l.map λx=> [Qa.str x])) (slD z4 1 (p.cats.l.map λx=> [Qa.str x])) p.types.l.length 0 n (σ1.new _) .nils σ1.ntok [] (by omega) (by have := hs.types; omega) (by simp) Sto.new_obj (.inl ⟨rfl, rfl⟩) rfl
 simp only [Int.natCast_zero] at g1
 obtain ⟨z5, k5⟩ := ownB_seal g4
 obtain ⟨q1, q2⟩ := keep_good g (ts := ⟨z5, ts'⟩) g5 z1 z2 z3 z4
 refine ⟨σ', _, ?_, by rw [g2, Sto.new_nobj, d6], ⟨by rw [g2, Sto.new_nobj, d6]; omega, _, by rw [← d6]; exact g3, ?_⟩, q1, q2, ⟨by rw [g2, Sto.new_nobj]; omega, fun j hj => by rw [g6 j (by omega), Sto.new_obj_ne (by omega), d5], by rw [Sto.new_ntok] at g7; omega, fun q hq => by rw [g8 q (by rw [Sto.new_ntok]; omega) (by omega), Sto.new_fr, d8 q hq]⟩⟩
 ·rw [v64, ← d6]
  have hx := JP (p := p) hr.okc
  simp -implicitDefEqProofs [D64, hx, hcall, h2, h3, h4, k2, k3, k4, hb, hbox, g1, -POp.sem.eq_17]
 ·simp only [YI, QN, d2, k5, sealCell_slD, show Qa.sealCell .nils = some .nils from rfl]
  rfl
end Go.Proofs.YtdibpeknpmhknaaGreat
namespace Go.Proofs.YtdibpeknpmhknaaGreat
open Go
theorem Hom.new {σ σ' : Sto} {a : Nat} {P : Qw} (h : Hom σ a P) (k : New σ σ') : Hom σ' a P := by
 obtain ⟨h0, cs, h1, h2⟩ := h
 exact ⟨Nat.lt_of_lt_of_le h0 k.nobj, cs, by rw [k.obj a h0]; exact h1, h2⟩
theorem New.trans {a b c : Sto} (h : New a b) (k : New b c) : New a c :=
 ⟨Nat.le_trans h.nobj k.nobj, fun j hj => by rw [k.obj j (Nat.lt_of_lt_of_le hj h.nobj), h.obj j hj], Nat.le_trans h.ntok k.ntok, fun g hg => by rw [k.fr g (Nat.lt_of_lt_of_le hg h.ntok), h.fr g hg]⟩
theorem New.of (σ : Sto) (d : Qa) : New σ (σ.new d) := ⟨Nat.le_succ _, fun j hj => Sto.new_obj_ne hj, Nat.le_refl _, fun _ _ => rfl⟩
structure GB (σ0 : Sto) (id : Nat) (T : ZW) : Prop where
 id : σ0.nobj ≤ id
 mid : σ0.nobj ≤ T.mid
 pid : σ0.nobj ≤ T.pid
 t : σ0.ntok ≤ T.t
theorem New.adv {σ0 σ σ' : Sto} {id : Nat} {T T' : ZW} (h : New σ0 σ) (s : GB σ0 id T) (k : Jq σ σ' id T T') : New σ0 σ' ∧ GB σ0 id T' := by
 have h1 := h.ntok
 have s1 := s.id
 have s2 := s.mid
 have s3 := s.t
 refine ⟨⟨by rw [k.keep.nobj]; exact h.nobj, fun j hj => by rw [k.keep.obj j (by omega) (by omega), h.obj j hj], Nat.le_trans h1 k.keep.ntok, fun g hg => by rw [k.keep.fr g (by omega) (by omega), h.fr g hg]⟩, ⟨s1, by rw [k.mid]; exact s2, by rw [k.pid]; exact s.pid, ?_⟩⟩
 rcases k.t with e | e <;> omega
theorem e29 {n : Nat} (hn : 2001 ≤ n) (σ : Sto) {p : Qw} (g : Zg p) {rv : Qa} (hr : Rol σ rv p) :
  ∃ σ' id K T, ciJ PR n 29 [pdR p rv] σ = some (.obj id 0, σ') ∧ Tab σ' id K T ∧ T.rows = [] ∧ UG K p ∧ Zg K ∧ New σ σ' ∧ GB σ id T := by
 obtain ⟨n, rfl⟩ : ∃ m, n = m + 1 := ⟨n - 1, by omega⟩
 obtain ⟨σ1, K, h1, h2, h3, h4, h5, h6⟩ := e64 (n := n) (by omega) σ g hr
 have hm : Yg σ1 [] = some (.map σ1.nobj, σ1.new (.tup [])) := rfl
 have hb : POp.sem (cpJ PR n) [.obj σ.nobj 0, .map σ1.nobj] (.build [.nilp, .nils, .nilm] [(0, 1), (2, 1)]) = some (.agg [.obj σ.nobj 0, .nils, .map σ1.nobj]) := rfl
 have hx : Z2 (σ1.new (.tup [])) [.agg [.obj σ.nobj 0, .nils, .map σ1.nobj]] = some (.obj (σ1.nobj + 1) 0, (σ1.new (.tup [])).new (.agg [.obj σ.nobj 0, .nils, .map σ1.nobj])) := rfl
 have n1 := New.of σ1 (.tup [])
 have n2 := New.of (σ1.new (.tup [])) (.agg [.obj σ.nobj 0, .nils, .map σ1.nobj])
 refine ⟨(σ1.new (.tup [])).new (.agg [.obj σ.nobj 0, .nils, .map σ1.nobj]), σ1.nobj + 1, K, ⟨σ.nobj, σ1.nobj, σ.ntok, .nils, []⟩, ?_, ⟨by simp, by simp; omega, by simp, ⟨by simp; omega, by simp; omega⟩, Sto.new_obj, ?_, .inl ⟨rfl, rfl⟩, h3.new (n1.trans n2), fun r hr => by simp at hr, .inr rfl⟩, rfl, h4, h5, h6.trans (n1.trans n2), ⟨by omega, by simp; omega, by simp, Nat.le_refl _⟩⟩
 ·rw [v29]
  have hb1 := JP (p := p) hr.okc
  have hb2 := Ug (p := p) hr.okc
  simp -implicitDefEqProofs [D29, hb1, hb2, h1, hm, hb, hx, -POp.sem.eq_17]
 ·show ((σ1.new (.tup [])).new _).obj σ1.nobj = _
  rw [Sto.new_obj_ne (by simp), Sto.new_obj]
  rfl
theorem l10 {n : Nat} (hn : 10 ≤ n) {σ0 : Sto} {p : Qw} (hl : p.sids.l.length ≤ 1000) (id : Nat) : ∀ (k i m : Nat) (σ : Sto) (T : ZW), i + k = p.sids.l.length → k < m → ZC σ id p T ((Zf p).take i) → T.rows.length = i → New σ0 σ → GB σ0 id T →
  ∃ σ' T', Qv 0 (L10_0 (cpJ PR n) (ciJ PR n) n (.obj id 0) (QJ 8 ZD.row p.sids) (.int .i64 p.sids.l.length)) m [.int .i64 i] σ = some (.done (.obj id 0) σ') ∧ ZC σ' id p T' (Zf p) ∧ T'.rows.length = p.sids.l.length ∧ New σ0 σ' ∧ GB σ0 id T' := by
 intro k
 induction k with
 | zero =>
  intro i m σ T hi hm hB hT hN hS
  obtain ⟨m, rfl⟩ : ∃ j, m = j + 1 := ⟨m - 1, by omega⟩
  have hi' : ¬ ((i : Int) < p.sids.l.length) := by omega
  rw [List.take_of_length_le (by simp [Zf]; omega)] at hB
  refine ⟨σ, T, Qt ?_, hB, by omega, hN, hS⟩
  simp -implicitDefEqProofs [L10_0, B10_0, hi']
 | succ k ih =>
  intro i m σ T hi hm hB hT hN hS
  obtain ⟨m, rfl⟩ : ∃ j, m = j + 1 := ⟨m - 1, by omega⟩
  have hi' : ((i : Int) < p.sids.l.length) := by omega
  obtain ⟨y, hy⟩ := Qz (by omega : i < p.sids.l.length)
  have hwr := QT (by omega : i < p.sids.l.length) (by unfold maxLen; omega)
  obtain ⟨K, ht, hk, gk⟩ := hB.ex
  obtain ⟨σ1, T1, h1, h2⟩ := e30 ht (n := n) (by omega) (by omega) y.name y.ctx
  have hB1 := hB.add ht hk gk h2
  have hy2 : (Zf p)[i]? = some (Q1.ok p y.name y.ctx) := by simp [Zf, hy]
  rw [← Zp hy2] at hB1
  obtain ⟨a1, a2⟩ := hN.adv hS h2.adv
  obtain ⟨σ', T', g1, g2⟩ := ih (i + 1) m σ1 T1 (by omega) (by omega) hB1 (by rw [h2.rows]; simp [hT]) a1 a2
  refine ⟨σ', T', ?_, g2⟩
  rw [← g1]
  refine Qx ?_
  simp -implicitDefEqProofs [L10_0, B10_0, hi', hy, hwr, h1]
theorem e10 {n : Nat} (hn : 2010 ≤ n) (σ : Sto) {p : Qw} (g : Zg p) :
  if ZP p then ∃ σ' id T, ciJ PR n 10 [p.d] σ = some (.obj id 0, σ') ∧ ZC σ' id p T (Zf p) ∧ T.rows.length = p.sids.l.length ∧ New σ σ' ∧ GB σ id T else ciJ PR n 10 [p.d] σ = some (.nilp, σ) := by
 obtain ⟨n, rfl⟩ : ∃ m, n = m + 1 := ⟨n - 1, by omega⟩
 have hs := g.small.sids
 have h1 := e28 (n := n) (by omega) (p := p) (by omega)
 split
 ·rename_i hr
  rw [hr] at h1
  obtain ⟨σ1, id, K, T, h2, h3, h4, h5, h6, h7, h8⟩ := e29 (n := n) (by omega) σ g (Rol.plain σ p)
  rw [← pdR_plain] at h2
  have hB : ZC σ1 id p T ((Zf p).take 0) := ⟨⟨K, h3, h5, h6⟩, by rw [h4]; exact .nil, g⟩
  obtain ⟨σ', T', g1, g2, g3, g4, g5⟩ := l10 (n := n) (by omega) (by omega) id p.sids.l.length 0 n σ1 T (by omega) (by omega) hB (by rw [h4]; rfl) h7 h8
  simp only [Int.natCast_zero] at g1
  refine ⟨σ', id, T', ?_, g2, g3, g4, g5⟩
  rw [v10]
  simp -implicitDefEqProofs [D10, h1, h2, g1]
 ·rename_i hr
  have hr' : ZP p = false := by simpa using hr
  rw [hr'] at h1
  rw [v10]
  simp -implicitDefEqProofs [D10, h1]
end Go.Proofs.YtdibpeknpmhknaaGreat
namespace Go.Proofs.YtdibpeknpmhknaaGreat
open Go
theorem Tab.new {σ σ' : Sto} {id : Nat} {K : Qw} {T : ZW} (h : Tab σ id K T) (k : New σ σ') : Tab σ' id K T := by
 have h1 := k.nobj
 have h2 := k.ntok
 refine ⟨Nat.lt_of_lt_of_le h.idl h1, Nat.lt_of_lt_of_le h.midl h1, h.ne, h.pne, by rw [k.obj _ h.idl]; exact h.obj, by rw [k.obj _ h.midl]; exact h.map, ?_, h.pol.new k, fun r hr => ?_, ?_⟩
 ·rcases h.own with q | ⟨q1, q2, q3⟩
  ·exact .inl q
  ·exact .inr ⟨q1, by rw [k.fr _ q3]; exact q2, Nat.lt_of_lt_of_le q3 h2⟩
 ·obtain ⟨a, b, c⟩ := h.homes r hr
  exact ⟨Nat.lt_of_lt_of_le a h1, b, c⟩
 ·rcases h.tl with q | q
  ·exact .inl (Nat.lt_of_lt_of_le q h2)
  ·exact .inr q
theorem ZC.new {σ σ' : Sto} {id : Nat} {p : Qw} {T : ZW} {m : List Q1} (h : ZC σ id p T m) (k : New σ σ') : ZC σ' id p T m := by
 obtain ⟨K, ht, hk, gk⟩ := h.ex
 exact ⟨⟨K, ht.new k, hk, gk⟩, h.rel.mono fun r _ H hH => hH.new k, h.good⟩
theorem Tab.apart {σ σ' : Sto} {id id2 : Nat} {K : Qw} {T T2 T2' : ZW} (h : Tab σ id K T) (k : Jq σ σ' id2 T2 T2') (h1 : id ≠ id2 ∧ id ≠ T2.mid ∧ T.mid ≠ id2 ∧ T.mid ≠ T2.mid ∧ T.pid ≠ id2 ∧ T.pid ≠ T2.mid) (h2 : T.t ≠ T2.t ∨ T.v = .nils)
  (h3 : ∀ r ∈ T.rows, r.home ≠ id2 ∧ r.home ≠ T2.mid) : Tab σ' id K T := by
 obtain ⟨a1, a2, a3, a4, a5, a6⟩ := h1
 have e := k.keep.nobj
 refine ⟨by rw [e]; exact h.idl, by rw [e]; exact h.midl, h.ne, h.pne, by rw [k.keep.obj _ a1 a2]; exact h.obj, by rw [k.keep.obj _ a3 a4]; exact h.map, ?_, h.pol.keep k.keep a5 a6, fun r hr => by rw [e]; exact h.homes r hr, ?_⟩
 ·rcases h.own with q | ⟨q1, q2, q3⟩
  ·exact .inl q
  ·refine .inr ⟨q1, ?_, Nat.lt_of_lt_of_le q3 k.keep.ntok⟩
   rw [k.keep.fr _ q3 (by
    rcases h2 with e | e
    ·exact e
    ·rw [e] at q1; cases q1)]
   exact q2
 ·rcases h.tl with q | q
  ·exact .inl (Nat.lt_of_lt_of_le q k.keep.ntok)
  ·exact .inr q
structure Ey (σ0 : Sto) (id : Nat) (T : ZW) : Prop where
 id : σ0.nobj ≤ id
 mid : σ0.nobj ≤ T.mid
 t : σ0.ntok ≤ T.t
theorem New.adv2 {σ0 σ σ' : Sto} {id : Nat} {T T' : ZW} (h : New σ0 σ) (s : Ey σ0 id T) (k : Jq σ σ' id T T') : New σ0 σ' ∧ Ey σ0 id T' := by
 have h1 := h.ntok
 have s1 := s.id
 have s2 := s.mid
 have s3 := s.t
 refine ⟨⟨by rw [k.keep.nobj]; exact h.nobj, fun j hj => by rw [k.keep.obj j (by omega) (by omega), h.obj j hj], Nat.le_trans h1 k.keep.ntok, fun g hg => by rw [k.keep.fr g (by omega) (by omega), h.fr g hg]⟩, ⟨s1, by rw [k.mid]; exact s2, ?_⟩⟩
 rcases k.t with e | e <;> omega
theorem l20 {n : Nat} (hn : 10 ≤ n) {σ0 : Sto} {id : Nat} {p K : Qw} {T : ZW} {m : List Q1} (ht : Tab σ0 id K T) (hrel : Zj σ0 T.rows m) (hl : T.rows.length ≤ 10000) (id2 : Nat) : ∀ (k i f : Nat) (σ : Sto) (T2 : ZW), i + k = T.rows.length → k < f → ZC σ id2 p T2 (m.take i) → T2.rows = T.rows.take i → T2.pid = T.pid → New σ0 σ → Ey σ0 id2 T2 →
  ∃ σ' T2', Qv 0 (L20_0 (cpJ PR n) (ciJ PR n) n (.obj id2 0) T.v (.int .i64 T.rows.length)) f [.int .i64 i] σ = some (.done (.obj id2 0) σ') ∧ ZC σ' id2 p T2' m ∧ T2'.rows = T.rows ∧ T2'.pid = T.pid ∧ New σ0 σ' ∧ Ey σ0 id2 T2' := by
 intro k
 induction k with
 | zero =>
  intro i f σ T2 hi hf hB hR hp hN hS
  obtain ⟨f, rfl⟩ : ∃ j, f = j + 1 := ⟨f - 1, by omega⟩
  have hi' : ¬ ((i : Int) < T.rows.length) := by omega
  have hml := hrel.length
  rw [List.take_of_length_le (by omega)] at hB hR
  refine ⟨σ, T2, Qt ?_, hB, hR, hp, hN, hS⟩
  simp -implicitDefEqProofs [L20_0, B20_0, hi']
 | succ k ih =>
  intro i f σ T2 hi hf hB hR hp hN hS
  obtain ⟨f, rfl⟩ : ∃ j, f = j + 1 := ⟨f - 1, by omega⟩
  have hi' : ((i : Int) < T.rows.length) := by omega
  obtain ⟨r, hr⟩ := Qz (by omega : i < T.rows.length)
  obtain ⟨q, hq, hrq⟩ := hrel.get hr
  have hwr : IntKind.i64.wrap ((i : Int) + 1) = ((i + 1 : Nat) : Int) := Z3 (by omega)
  obtain ⟨K2, ht2, hk, gk⟩ := hB.ex
  obtain ⟨b1, -, -⟩ := ht.homes r (List.mem_of_getElem? hr)
  have s1 := hS.id
  have s2 := hS.mid
  have hno := hN.nobj
  obtain ⟨σ1, T3, h1, h2⟩ := e41 (n := n) (by omega) ht2 (by rw [hR, List.length_take]; omega) r ⟨by omega, by omega, by omega⟩
  obtain ⟨a1, a2⟩ := hN.adv2 hS h2.adv
  obtain ⟨H, c1, c2, c3⟩ := hrq.home
  have hB1 : ZC σ1 id2 p T3 (m.take (i + 1)) := by
   refine ⟨⟨K2, h2.tab, hk, gk⟩, ?_, hB.good⟩
   rw [h2.rows, Zp hq]
   exact (hB.rel.grew ht2 h2).snoc ⟨hrq.name, hrq.mapped, hrq.at_, hrq.ctx, hrq.good, H, c1.new a1, c2, c3⟩
  obtain ⟨σ', T2', g1, g2⟩ := ih (i + 1) f σ1 T3 (by omega) (by omega) hB1 (by rw [h2.rows, hR, Zp hr]) (by rw [h2.pid, hp]) a1 a2
  refine ⟨σ', T2', ?_, g2⟩
  rw [← g1]
  refine Qx ?_
  have h3 := ht.idx hr
  have h4 := YP r
  simp -implicitDefEqProofs [L20_0, B20_0, hi', hwr, h1, h3, h4, -Qh.eq_1, -Qq.eq_1, -Qq.eq_2]
theorem e20 {n : Nat} (hn : 10003 ≤ n) {σ : Sto} {id : Nat} {p : Qw} {T : ZW} {m : List Q1} (hB : ZC σ id p T m) (hl : T.rows.length ≤ 10000) :
  ∃ σ' id2 T2, ciJ PR n 20 [.obj id 0] σ = some (.obj id2 0, σ') ∧ ZC σ' id p T m ∧ ZC σ' id2 p T2 m ∧ T2.rows = T.rows ∧ T2.pid = T.pid ∧ New σ σ' ∧ Ey σ id2 T2 := by
 obtain ⟨n, rfl⟩ : ∃ m, n = m + 1 := ⟨n - 1, by omega⟩
 obtain ⟨K, ht, hk, gk⟩ := hB.ex
 have h1 := e39 ht (n := n) (by omega)
 have h2 := ht.ld0
 have hm : Yg σ [] = some (.map σ.nobj, σ.new (.tup [])) := rfl
 have hb : POp.sem (cpJ PR n) [.obj T.pid 0, .map σ.nobj] (.build [.nilp, .nils, .nilm] [(0, 1), (2, 1)]) = some (.agg [.obj T.pid 0, .nils, .map σ.nobj]) := rfl
 have hx : Z2 (σ.new (.tup [])) [.agg [.obj T.pid 0, .nils, .map σ.nobj]] = some (.obj (σ.nobj + 1) 0, (σ.new (.tup [])).new (.agg [.obj T.pid 0, .nils, .map σ.nobj])) := rfl
 have nw := (New.of σ (.tup [])).trans (New.of (σ.new (.tup [])) (.agg [.obj T.pid 0, .nils, .map σ.nobj]))
 have ht2 := ht.new nw
 have h3 := ht2.ld1
 have h4 := ht2.len
 have hp := ht.pol.1
 have hB0 : ZC ((σ.new (.tup [])).new (.agg [.obj T.pid 0, .nils, .map σ.nobj])) (σ.nobj + 1) p ⟨T.pid, σ.nobj, σ.ntok, .nils, []⟩ (m.take 0) := by
  refine ⟨⟨K, ⟨by simp, by simp; omega, by simp, ⟨by simp; omega, by simp; omega⟩, Sto.new_obj, ?_, .inl ⟨rfl, rfl⟩, ht2.pol, fun r hr => by simp at hr, .inr rfl⟩, hk, gk⟩, .nil, hB.good⟩
  show ((σ.new (.tup [])).new _).obj σ.nobj = _
  rw [Sto.new_obj_ne (by simp), Sto.new_obj]
  rfl
 obtain ⟨σ', T2, g1, g2, g3, g4, g5, g6⟩ := l20 (n := n) (by omega) ht hB.rel hl (σ.nobj + 1) T.rows.length 0 n _ _ (by omega) (by omega) hB0 rfl rfl nw ⟨by omega, Nat.le_refl _, Nat.le_refl _⟩
 simp only [Int.natCast_zero] at g1
 refine ⟨σ', σ.nobj + 1, T2, ?_, hB.new g5, g2, g3, g4, g5, g6⟩
 rw [v20]
 simp -implicitDefEqProofs [D20, h1, h2, h3, h4, hm, hb, hx, g1, -POp.sem.eq_17]
end Go.Proofs.YtdibpeknpmhknaaGreat
namespace Go.Proofs.YtdibpeknpmhknaaGreat
open Go
theorem UG.move {K p : Qw} (h : UG K p) (b : Qw) (c : Q3) : X3 K b c = X3 p b c := by
 have ht : (at' K.types.l c.type).map Q9.name = (at' p.types.l c.type).map Q9.name := by
  have e : ∀ o : Option Q9, o.map Q9.name = (o.map Q9.plain).map Prod.fst := λo=> by cases o <;> rfl
  rw [e, e, h.type]
 unfold X3 moveO mvL ZU
 rw [h.check, h.users, h.roles, h.sens, h.cats, ht]
def V8 (p : Qw) (s : Bs) : Q3 × Bool := if s = [] then (Q3.z, false) else Wd s p.sids.l
theorem e69 {n : Nat} (hn : 1101 ≤ n) {p : Qw} (hp : Zh p) (s : Bs) : cpJ PR n 69 [p.d, .str s] = some (Wl (V8 p s)) := by
 obtain ⟨n, rfl⟩ : ∃ m, n = m + 1 := ⟨n - 1, by omega⟩
 have h1 := e106 (n := n) (by omega) hp s
 rw [u69]
 unfold V8
 by_cases hs : s = []
 ·subst hs
  simp -implicitDefEqProofs [D69, Wl, XF]
  rfl
 ·have hs' : (s == []) = false := by simpa using hs
  rw [if_neg hs]
  simp -implicitDefEqProofs [D69, h1, hs', Wl]
theorem G6 (σ : Sto) (c : Q3) (v : Qa) (hv : v.plain = true) : J3 σ (.tup [c.d, v]) = some (.tup [c.d, v], σ) := by
 show (if (Qa.tup [c.d, v]).plainRes then _ else _) = _
 rw [if_pos]
 show ([c.d, v].all Qa.plain) = true
 simp only [List.all_cons, hv]
 rfl
theorem snap_ctx (σ : Sto) (c : Q3) : c.d.snapVal σ = some c.d := rfl
theorem snap_cells {σ : Sto} {cs : List Qa} {P : Qw} (h : QN cs = some P.row) : (Qa.agg cs).snapVal σ = some P.d := by
 show (Xw σ cs).map _ = _
 rw [E9 h]; rfl
def V4 (h b : Qw) (pid : Nat) (r : ZR) : ZR :=
 if (V8 b r.name).2 = true then ⟨r.name, pid, (V8 b r.name).1, true⟩ else if (X3 h b r.at_).2 = 0 then ⟨r.name, pid, (X3 h b r.at_).1, true⟩ else { r with mapped := false }
theorem e40 {n : Nat} (hn : 2400 ≤ n) {σ : Sto} {r : ZR} {H h b : Qw} {rv : Qa} (hH : Hom σ r.home H) (lH : UG H h) (gH : Zg H) (gb : Zg b) (hr : Rol σ rv b) {id pid : Nat} (h0 : Q8 σ none [.obj id 0] = some (.obj pid 0, σ)) :
  ciJ PR n 40 [r.d, pdR b rv, .obj id 0] σ = some ((V4 h b pid r).d, σ) := by
 obtain ⟨n, rfl⟩ : ∃ m, n = m + 1 := ⟨n - 1, by omega⟩
 obtain ⟨cs, h2, h3⟩ := hH.lds
 have h1 : ZT (cpJ PR n) 69 σ [pdR b rv, .str r.name] = some (.tup [(V8 b r.name).1.d, .bool (V8 b r.name).2], σ) := by
  have e : Xa σ [pdR b rv, .str r.name] = some [b.d, .str r.name] := by
   simp only [Xa, hr.val]
   rfl
  have e2 : cpJ PR n 69 [b.d, .str r.name] = some (Wl (V8 b r.name)) := e69 (n := n) (by omega) gb.small r.name
  rw [ZT, e, Option.bind_some, e2, Option.bind_some]
  exact G6 σ _ _ rfl
 have h4 : ZT (cpJ PR n) 70 σ [.agg cs, pdR b rv, r.at_.d] = some (.tup [(X3 h b r.at_).1.d, .int .i64 (X3 h b r.at_).2], σ) := by
  have e : Xa σ [.agg cs, pdR b rv, r.at_.d] = some [H.d, b.d, r.at_.d] := by
   simp only [Xa, hr.val, snap_cells h3, snap_ctx]
  have e2 : cpJ PR n 70 [H.d, b.d, r.at_.d] = some (.tup [(X3 H b r.at_).1.d, .int .i64 (X3 H b r.at_).2]) := e70 (n := n) (by omega) H b gH gb r.at_
  rw [ZT, e, Option.bind_some, e2, Option.bind_some, lH.move]
  exact G6 σ _ _ rfl
 have h5 := JP (p := b) hr.okc
 have hw := fun q : ZR => YP q
 have hbd := λc=> Hy (cpJ PR n) r.name pid c
 rw [v40]
 unfold V4
 generalize V8 b r.name = x at *
 generalize X3 h b r.at_ = y at *
 obtain ⟨xc, xb⟩ := x
 obtain ⟨yc, yi⟩ := y
 simp only at *
 cases xb with
 | true => simp -implicitDefEqProofs [D40, h1, h5, L40_0, J40_0, h0, hbd, hw, -Qh.eq_1, -POp.sem.eq_17]
 | false =>
  by_cases hy : yi = 0
  ·subst hy
   simp -implicitDefEqProofs [D40, h1, h2, h4, h5, L40_0, J40_0, h0, hbd, hw, -Qh.eq_1, -POp.sem.eq_17]
  ·have hy' : (yi != 0) = true := by simpa using hy
   have hu := trow_unmap r
   simp -implicitDefEqProofs [D40, h1, h2, h4, h5, hy, hy', hu, hw, -Qh.eq_1, -POp.sem.eq_17]
def ZF (b : Qw) (q : Q1) : Q1 :=
 if (V8 b q.name).2 = true then Q1.ok b q.name (V8 b q.name).1 else if (X3 q.home b q.at_).2 = 0 then Q1.ok b q.name (X3 q.home b q.at_).1 else { q with ctx := Q3.z, mapped := false }
abbrev zrr : Qa := .agg [(.str []), (.int .i64 0), (.int .i64 0), (.int .i64 0), (.int .i64 0), (.int .u64 0), (.int .i64 0), (.int .u64 0), (.bool false), .nils, .nils, .nils, .nils, .nils, .nils, .nils, .nils, .nils, .nils, .nils, .nils, .nils, .nils, .nils, .nils, .nils, (.int .i64 0), (.int .i64 0), (.int .i64 0), (.int .i64 0), (.int .u64 0), (.int .i64 0), (.int .u64 0)]
theorem zrr_wr (r : Q1) : Qh 0 33 [zrr, r.d] = some r.d := rrow_wr rfl r
theorem rrow_unctx (q : Q1) : Qh 1 7 [q.d, Q3.z.d] = some ({ q with ctx := Q3.z } : Q1).d := rfl
theorem rrow_unmap (q : Q1) : Qh 8 1 [q.d, .bool false] = some ({ q with mapped := false } : Q1).d := rfl
theorem e42 {n : Nat} (hn : 2400 ≤ n) (q : Q1) (b : Qw) (gq : Zg q.home) (gb : Zg b) : cpJ PR n 42 [q.d, b.d] = some (ZF b q).d := by
 obtain ⟨n, rfl⟩ : ∃ m, n = m + 1 := ⟨n - 1, by omega⟩
 have h1 : cpJ PR n 71 [b.d, .str q.name] = some (.tup [(Wd q.name b.sids.l).1.d, .bool (Wd q.name b.sids.l).2]) := e71 (n := n) (by omega) gb.small q.name
 have h2 : cpJ PR n 72 [q.home.d, b.d, q.at_.d] = some (.tup [(X3 q.home b q.at_).1.d, .int .i64 (X3 q.home b q.at_).2]) := e72 (n := n) (by omega) q.home b gq gb q.at_
 have h3 : ∀ c, cpJ PR n 32 [b.d, .str q.name, c.d] = some (Q1.ok b q.name c).d := λc=> e32 (n := n) (by omega) b q.name c
 have hw := zrr_wr
 have h4 := rrow_unctx q
 have h5 := rrow_unmap { q with ctx := Q3.z }
 rw [u42]
 unfold ZF V8
 generalize X3 q.home b q.at_ = y at *
 generalize Wd q.name b.sids.l = x at *
 obtain ⟨xc, xb⟩ := x
 obtain ⟨yc, yi⟩ := y
 simp only at *
 have tail : (if yi = 0 then Q1.ok b q.name yc else { q with ctx := Q3.z, mapped := false }).d = if yi = 0 then (Q1.ok b q.name yc).d else ({ q with ctx := Q3.z, mapped := false } : Q1).d := by split <;> rfl
 by_cases hs : q.name = []
 ·have hs' : (q.name == []) = true := by simpa using hs
  rw [if_pos hs]
  rw [if_neg (by simp)]
  by_cases hy : yi = 0
  ·subst hy
   cases xb <;> simp -implicitDefEqProofs [D42, h1, h2, h3, hs', hw, -Qh.eq_1, -POp.sem.eq_17]
  ·have hy' : (yi != 0) = true := by simpa using hy
   cases xb <;> simp -implicitDefEqProofs [D42, h1, h2, h3, hs', hy, hy', hw, h4, h5, XF, -Qh.eq_1, -POp.sem.eq_17]
 ·have hs' : (q.name == []) = false := by simpa using hs
  rw [if_neg hs]
  cases xb with
  | true => simp -implicitDefEqProofs [D42, h1, h3, hs', hw, -Qh.eq_1, -POp.sem.eq_17]
  | false =>
   by_cases hy : yi = 0
   ·subst hy
    simp -implicitDefEqProofs [D42, h1, h2, h3, hs', hw, -Qh.eq_1, -POp.sem.eq_17]
   ·have hy' : (yi != 0) = true := by simpa using hy
    simp -implicitDefEqProofs [D42, h1, h2, h3, hs', hy, hy', hw, h4, h5, XF, -Qh.eq_1, -POp.sem.eq_17]
theorem Gc.conv {σ : Sto} {r : ZR} {q : Q1} (h : Gc σ r q) {b K : Qw} {pid : Nat} (hK : Hom σ pid K) (lK : UG K b) (gK : Zg K) (gb : Zg b) : Gc σ (V4 q.home b pid r) (ZF b q) := by
 unfold V4 ZF
 rw [h.name, h.at_]
 by_cases hx : (V8 b q.name).2 = true
 ·rw [if_pos hx, if_pos hx]
  exact ⟨rfl, rfl, rfl, rfl, gb, K, hK, lK, gK⟩
 ·rw [if_neg hx, if_neg hx]
  by_cases hy : (X3 q.home b q.at_).2 = 0
  ·rw [if_pos hy, if_pos hy]
   exact ⟨rfl, rfl, rfl, rfl, gb, K, hK, lK, gK⟩
  ·rw [if_neg hy, if_neg hy]
   exact ⟨rfl, rfl, rfl, rfl, h.good, h.home⟩
def W6 (s : Bs) (m : List Q1) : Bool := m.any λq=> q.name == s
theorem l43 {n : Nat} (p : Qw) (s : Sl Q1) (x : Bs) (hl : s.l.length ≤ 100000) (σ : Sto) : ∀ (k i m : Nat) (u : Qa), i + k = s.l.length → k < m →
  Qv 0 (L43_0 (cpJ PR n) (ciJ PR n) n (.str x) (rD p s)) m [.int .i64 i, u] σ = some (.done (.bool (W6 x (s.l.drop i))) σ) := by
 intro k
 induction k with
 | zero =>
  intro i m u hi hm
  obtain ⟨m, rfl⟩ : ∃ j, m = j + 1 := ⟨m - 1, by omega⟩
  have hi' : ¬ ((i : Int) < s.l.length) := by omega
  rw [List.drop_eq_nil_of_le (by omega)]
  refine Qt ?_
  simp -implicitDefEqProofs [L43_0, B43_0, hi', W6]
 | succ k ih =>
  intro i m u hi hm
  obtain ⟨m, rfl⟩ : ∃ j, m = j + 1 := ⟨m - 1, by omega⟩
  have hi' : ((i : Int) < s.l.length) := by omega
  obtain ⟨y, hy⟩ := Qz (by omega : i < s.l.length)
  have hwr : IntKind.i64.wrap ((i : Int) + 1) = ((i + 1 : Nat) : Int) := Z3 (by omega)
  rw [QY hy, W6, List.any_cons]
  cases hb : (y.name == x) with
  | true =>
   refine Qt ?_
   simp -implicitDefEqProofs [L43_0, B43_0, hi', hy, hb]
  | false =>
   rw [Bool.false_or, ← W6, ← ih (i + 1) m u (by omega) (by omega)]
   refine Qx ?_
   simp -implicitDefEqProofs [L43_0, B43_0, hi', hy, hwr, hb]
theorem e43 {n : Nat} (hn : 100002 ≤ n) (p : Qw) (s : Sl Q1) (x : Bs) (hl : s.l.length ≤ 100000) : cpJ PR n 43 [rD p s, .str x] = some (.bool (W6 x s.l)) := by
 obtain ⟨n, rfl⟩ : ∃ m, n = m + 1 := ⟨n - 1, by omega⟩
 have h1 := l43 (n := n) p s x hl Qd s.l.length 0 n (.bool false) (by omega) (by omega)
 simp only [Int.natCast_zero, List.drop_zero] at h1
 rw [u43]
 simp -implicitDefEqProofs [D43, h1]
def newF (m : List Q1) (s : ZD) : Bool := !(W6 s.name m)
def WN (b : Qw) (m : List Q1) (l : List ZD) : List Q1 := (l.filter (newF m)).map λs=> Q1.ok b s.name s.ctx
def Yb (b : Qw) (m : List Q1) : List Q1 := m.map (ZF b) ++ WN b m b.sids.l
def GP (b : Qw) (m : List Q1) : Nat := (m.map (ZF b)).countP λq=> !q.mapped
def ZY (b : Qw) (m : List Q1) : List Q1 × Int × Int := if ZP b then (if 1024 < (Yb b m).length then ([], 0, 25) else (Yb b m, (GP b m : Int), 0)) else ([], 0, 19)
theorem newR_len (b : Qw) (m : List Q1) (l : List ZD) : (WN b m l).length ≤ l.length := by
 rw [WN, List.length_map]; exact List.length_filter_le _ _
section
variable {n : Nat} (hn : 110000 ≤ n) {p b : Qw} {s : Sl Q1} (hl : s.l.length ≤ 5000) (hb : b.sids.l.length ≤ 1000)
include hn hl hb
theorem l15_0 (lost : Nat) (hlost : lost ≤ 5000) : ∀ (k i m : Nat) (v : Qa) (σ : Sto) (rows : List Q1), i + k = b.sids.l.length → k < m → Own σ 33 v (rows.map Q1.row) → rows.length ≤ 5000 + i →
  ∃ σ' v', Qv 1 (Ei (cpJ PR n) (ciJ PR n) n (rD p s) b.d (.int .i64 lost)) m [.int .i64 i, stD b v] σ =
   some (if 1024 < (rows ++ WN b s.l (b.sids.l.drop i)).length then .done (.tup [zst, .int .i64 0, .int .i64 25]) σ' else .done (.tup [stD b v', .int .i64 lost, .int .i64 0]) σ') ∧
   Own σ' 33 v' ((rows ++ WN b s.l (b.sids.l.drop i)).map Q1.row) := by
 intro k
 induction k with
 | zero =>
  intro i m v σ rows hi hm hv hr
  obtain ⟨m, rfl⟩ : ∃ j, m = j + 1 := ⟨m - 1, by omega⟩
  have hi' : ¬ ((i : Int) < b.sids.l.length) := by omega
  rw [List.drop_eq_nil_of_le (by omega), show WN b s.l [] = [] from rfl, List.append_nil]
  have h1 : Qf [v] = some (.int .i64 rows.length) := by rw [own_len hv, List.length_map]
  have hz := st_build0 (cpJ PR n)
  have hz1 : Qh 0 18 [zst, zst] = some zst := rfl
  have hz2 : Qb 0 (some 18) [zst] = some zst := rfl
  have hz3 : zst.okVal = true := rfl
  have hw := st_wr (p := b) (v := v) (xs := [.nils, .nils, .nils, .nils, .nils, .nils, .nils, .nils, .nils, .nils, .nils, .nils, .nils, .nils, .nils, .nils, .nils, .nils]) rfl (Xe hv)
  have ho := J0 (p := b) (Xe hv)
  refine ⟨σ, v, ?_, hv⟩
  by_cases hq : 1024 < rows.length
  ·have hq' : (1024 : Int) < rows.length := by omega
   rw [if_pos hq]
   refine Qt ?_
   simp -implicitDefEqProofs [Ei, B15_0, hi', h1, hq', hz, hz1, hz2, hz3, -Qh.eq_1, -Qb.eq_1, -POp.sem.eq_17, -Qa.okVal.eq_1]
  ·have hq' : ¬ (1024 : Int) < rows.length := by omega
   rw [if_neg hq]
   refine Qt ?_
   simp -implicitDefEqProofs [Ei, B15_0, hi', h1, hq', hw, ho, -Qh.eq_1, -POp.sem.eq_17]
 | succ k ih =>
  intro i m v σ rows hi hm hv hr
  obtain ⟨m, rfl⟩ : ∃ j, m = j + 1 := ⟨m - 1, by omega⟩
  have hi' : ((i : Int) < b.sids.l.length) := by omega
  obtain ⟨y, hy⟩ := Qz (by omega : i < b.sids.l.length)
  have hwr := QT (by omega : i < b.sids.l.length) (by unfold maxLen; omega)
  have h1 : cpJ PR n 43 [rD p s, .str y.name] = some (.bool (W6 y.name s.l)) := e43 (n := n) (by omega) p s y.name (by omega)
  rw [QY hy]
  cases hh : W6 y.name s.l with
  | true =>
   rw [hh] at h1
   have e : WN b s.l (y :: b.sids.l.drop (i + 1)) = WN b s.l (b.sids.l.drop (i + 1)) := by
    simp [WN, newF, hh]
   obtain ⟨σ', v', g1, g2⟩ := ih (i + 1) m v σ rows (by omega) (by omega) hv (by omega)
   rw [e]
   refine ⟨σ', v', ?_, g2⟩
   rw [← g1]
   refine Qx ?_
   simp -implicitDefEqProofs [Ei, B15_0, hi', hy, hwr, h1]
  | false =>
   rw [hh] at h1
   have e : WN b s.l (y :: b.sids.l.drop (i + 1)) = Q1.ok b y.name y.ctx :: WN b s.l (b.sids.l.drop (i + 1)) := by
    simp [WN, newF, hh]
   have h2 := e32 (n := n) (by omega) b y.name y.ctx
   have h3 := Vd (cpJ PR n) (Q1.ok b y.name y.ctx)
   obtain ⟨v1, σ1, h4, h5⟩ := XD (own := 1) (r := (Q1.ok b y.name y.ctx).row) hv (by rw [List.length_map]; omega)
   have h6 := st_set (p := b) (u := v) (V_ h5) (Xe h5)
   obtain ⟨σ', v', g1, g2⟩ := ih (i + 1) m v1 σ1 (rows ++ [Q1.ok b y.name y.ctx]) (by omega) (by omega) (by rw [List.map_append]; exact h5) (by simp; omega)
   rw [List.append_assoc, List.singleton_append] at g1 g2
   rw [e]
   refine ⟨σ', v', ?_, g2⟩
   rw [← g1]
   refine Qx ?_
   simp -implicitDefEqProofs [Ei, B15_0, hi', hy, hwr, h1, h2, h3, h4, h6, -Qh.eq_1]
theorem l15_1 (gs : ∀ q ∈ s.l, Zg q.home) (gb : Zg b) : ∀ (k i m lost : Nat) (v : Qa) (σ : Sto), i + k = s.l.length → k < m → Own σ 33 v (((s.l.take i).map (ZF b)).map Q1.row) → lost = ((s.l.take i).map (ZF b)).countP (λq=> !q.mapped) →
  ∃ σ' v', Qv 0 (L15_1 (cpJ PR n) (ciJ PR n) n (rD p s) b.d) m [.int .i64 i, .int .i64 lost, stD b v] σ =
   some (if 1024 < (Yb b s.l).length then .done (.tup [zst, .int .i64 0, .int .i64 25]) σ' else .done (.tup [stD b v', .int .i64 (GP b s.l : Nat), .int .i64 0]) σ') ∧
   Own σ' 33 v' ((Yb b s.l).map Q1.row) := by
 intro k
 induction k with
 | zero =>
  intro i m lost v σ hi hm hv hlo
  obtain ⟨m, rfl⟩ : ∃ j, m = j + 1 := ⟨m - 1, by omega⟩
  have hi' : ¬ ((i : Int) < s.l.length) := by omega
  rw [List.take_of_length_le (by omega)] at hv hlo
  have hl2 : lost ≤ 5000 := by
   have := List.countP_le_length (p := fun q : Q1 => !q.mapped) (l := s.l.map (ZF b))
   rw [List.length_map] at this
   omega
  obtain ⟨σ', v', g1, g2⟩ := l15_0 (p := p) (n := n) (by omega) hl hb lost hl2 b.sids.l.length 0 n v σ (s.l.map (ZF b)) (by omega) (by omega) hv (by simp; omega)
  simp only [Int.natCast_zero, List.drop_zero] at g1 g2
  have e : (GP b s.l) = lost := by rw [hlo]; rfl
  rw [e]
  refine ⟨σ', v', ?_, g2⟩
  have e2 : L15_1 (cpJ PR n) (ciJ PR n) n (rD p s) b.d [.int .i64 i, .int .i64 lost, stD b v] σ = Qv 1 (Ei (cpJ PR n) (ciJ PR n) n (rD p s) b.d (.int .i64 lost)) n [.int .i64 0, stD b v] σ := by
   simp -implicitDefEqProofs [L15_1, B15_1, hi']
  rw [g1] at e2
  change _ = some (if 1024 < (Yb b s.l).length then _ else _) at e2
  split at e2
  ·rename_i hq
   rw [if_pos hq]
   exact Qt e2
  ·rename_i hq
   rw [if_neg hq]
   exact Qt e2
 | succ k ih =>
  intro i m lost v σ hi hm hv hlo
  obtain ⟨m, rfl⟩ : ∃ j, m = j + 1 := ⟨m - 1, by omega⟩
  have hi' : ((i : Int) < s.l.length) := by omega
  obtain ⟨y, hy⟩ := Qz (by omega : i < s.l.length)
  have hwr : IntKind.i64.wrap ((i : Int) + 1) = ((i + 1 : Nat) : Int) := Z3 (by omega)
  have h1 := e42 (n := n) (by omega) y b (gs y (List.mem_of_getElem? hy)) gb
  have h3 := Vd (cpJ PR n) (ZF b y)
  obtain ⟨v1, σ1, h4, h5⟩ := XD (own := 1) (r := (ZF b y).row) hv (by simp; omega)
  have h6 := st_set (p := b) (u := v) (V_ h5) (Xe h5)
  have hw := zrr_wr (ZF b y)
  have hlb : lost ≤ 5000 := by
   have := List.countP_le_length (p := fun q : Q1 => !q.mapped) (l := (s.l.take i).map (ZF b))
   rw [List.length_map, List.length_take] at this
   omega
  have hwl : IntKind.i64.wrap ((lost : Int) + 1) = ((lost + 1 : Nat) : Int) := Z3 (by omega)
  obtain ⟨σ', v', g1, g2⟩ := ih (i + 1) m (if (ZF b y).mapped then lost else lost + 1) v1 σ1 (by omega) (by omega) (by rw [Zp hy, List.map_append, List.map_append]; exact h5) (by
   rw [Zp hy, List.map_append, List.countP_append, ← hlo]
   cases hm : (ZF b y).mapped <;> simp [hm])
  refine ⟨σ', v', ?_, g2⟩
  rw [← g1]
  refine Qx ?_
  cases hmp : (ZF b y).mapped <;> simp -implicitDefEqProofs [L15_1, B15_1, hi', hy, hwr, hwl, h1, h3, h4, h6, hw, hmp, -Qh.eq_1]
theorem e15 (gs : ∀ q ∈ s.l, Zg q.home) (gb : Zg b) (a : Qw) : ∃ v, cpJ PR (n + 1) 15 [rD p s, a.d, b.d] = some (.tup [v, .int .i64 (ZY b s.l).2.1, .int .i64 (ZY b s.l).2.2]) ∧
  (if (ZY b s.l).2.2 = 0 then ∃ z, v = rD b ⟨z, (ZY b s.l).1⟩ else v = zst) := by
 have h1 := e31 (n := n) (by omega) hb
 have hz1 : Qh 0 18 [zst, zst] = some zst := rfl
 have hz2 : Qb 0 (some 18) [zst] = some zst := rfl
 have hz3 : zst.okVal = true := rfl
 have hz := st_build0 (cpJ PR n)
 have hzb : ∀ (a : Int) (σ : Sto), (Qa.tup [zst, .int .i64 0, .int .i64 a]).handBack σ = some (.tup [zst, .int .i64 0, .int .i64 a]) := fun a σ => rfl
 rw [u15]
 unfold ZY
 cases hr : ZP b with
 | false =>
  rw [hr] at h1
  refine ⟨zst, ?_, rfl⟩
  simp -implicitDefEqProofs [D15, h1, hz, hz1, hz2, hz3, hzb, -Qh.eq_1, -Qb.eq_1, -POp.sem.eq_17, -Qa.okVal.eq_1, -Qa.handBack.eq_2]
 | true =>
  rw [hr] at h1
  obtain ⟨σ', v', g1, g2⟩ := l15_1 (p := p) (n := n) (by omega) hl hb gs gb s.l.length 0 n 0 .nils Qd (by omega) (by omega) (X5 _ _) rfl
  simp only [Int.natCast_zero] at g1
  have h4 := st_build (p := b) (cpJ PR n)
  have h5 := st_wr (p := b) (v := .nils) (xs := [.nils, .nils, .nils, .nils, .nils, .nils, .nils, .nils, .nils, .nils, .nils, .nils, .nils, .nils, .nils, .nils, .nils, .nils]) rfl rfl
  by_cases hq : 1024 < (Yb b s.l).length
  ·rw [if_pos hq] at g1
   simp only [if_true, if_pos hq]
   refine ⟨zst, ?_, rfl⟩
   simp -implicitDefEqProofs [D15, h1, h4, h5, g1, hzb, -Qh.eq_1, -POp.sem.eq_17, -Qa.handBack.eq_2]
  ·rw [if_neg hq] at g1
   simp only [if_true, if_neg hq]
   obtain ⟨z, hb2⟩ := back_st (p := b) (rest := [.int .i64 (GP b s.l : Nat), .int .i64 0]) g2 rfl
   refine ⟨rD b ⟨z, Yb b s.l⟩, ?_, z, rfl⟩
   simp -implicitDefEqProofs [D15, h1, h4, h5, g1, hb2, -Qh.eq_1, -POp.sem.eq_17, -Qa.handBack.eq_2]
end
end Go.Proofs.YtdibpeknpmhknaaGreat
namespace Go.Proofs.YtdibpeknpmhknaaGreat
open Go
def nent (s : Bs) : Qa := .tup [.str s, .bool true]
def Jv (s : Bs) : List Bs → Nat → Option (Nat × Qa)
 | [], _ => none
 | x :: l, i => if s == x then some (i, .bool true) else Jv s l (i + 1)
theorem WI (s : Bs) : ∀ (l : List Bs) (i : Nat), Wp false [.s] (.str s) (l.map nent) i = some (Jv s l i)
 | [], i => rfl
 | x :: l, i => by
  show (match (some ((s == x) && true) : Option Bool) with
   | some true => some (some (i, Qa.bool true))
   | some false => Wp false [.s] (.str s) (l.map nent) (i + 1)
   | none => none) = _
  rw [Jv]
  cases (s == x) with
  | true => rfl
  | false => exact WI s l (i + 1)
theorem lookN_get {s : Bs} : ∀ {l : List Bs} {i j : Nat} {v : Qa}, Jv s l i = some (j, v) → i ≤ j ∧ l[j - i]? = some s ∧ v = .bool true
 | [], i, j, v, h => by cases h
 | x :: l, i, j, v, h => by
  rw [Jv] at h
  split at h
  ·rename_i hx
   simp only [Option.some.injEq, Prod.mk.injEq] at h
   obtain ⟨rfl, rfl⟩ := h
   have : s = x := by simpa using hx
   subst this
   exact ⟨Nat.le_refl _, by simp, rfl⟩
  ·obtain ⟨h1, h2, h3⟩ := lookN_get h
   refine ⟨by omega, ?_, h3⟩
   rw [show j - i = (j - (i + 1)) + 1 by omega]
   simpa using h2
theorem U8 {s : Bs} : ∀ {l : List Bs} {i : Nat}, (l.any λx=> s == x) = false → Jv s l i = none
 | [], i, _ => rfl
 | x :: l, i, h => by
  simp only [List.any_cons, Bool.or_eq_false_iff] at h
  rw [Jv, h.1]
  exact U8 h.2
theorem UJ {s : Bs} : ∀ {l : List Bs} {i : Nat}, (l.any λx=> s == x) = true → ∃ j, Jv s l i = some (j, .bool true)
 | [], i, h => by simp at h
 | x :: l, i, h => by
  rw [Jv]
  cases hc : (s == x) with
  | true => exact ⟨i, rfl⟩
  | false =>
   simp only [List.any_cons, hc, Bool.false_or] at h
   exact UJ h
theorem set_same {α : Type} {l : List α} {j : Nat} {x : α} (h : l[j]? = some x) : l.set j x = l := by
 refine List.ext_getElem? λi=> ?_
 rw [List.getElem?_set]
 split
 ·rename_i e
  subst e
  rw [h]
  split
  ·rfl
  ·rename_i h2
   rw [List.getElem?_eq_none (by omega)] at h
   cases h
 ·rfl
structure NmM (σ : Sto) (a : Nat) (m : List Q1) : Prop where
 lt : a < σ.nobj
 ex : ∃ ns : List Bs, σ.obj a = .tup (ns.map nent) ∧ ∀ s, (ns.any λx=> s == x) = W6 s m
theorem G1 (s : Bs) (m : List Q1) (q : Q1) : W6 s (m ++ [q]) = (W6 s m || q.name == s) := by
 simp [W6]
theorem NmM.look {σ : Sto} {a : Nat} {m : List Q1} (h : NmM σ a m) (s : Bs) : XT false [.s] (.bool false) false σ [.map a, .str s] = some (.bool (W6 s m), σ) := by
 obtain ⟨hl, ns, h1, h2⟩ := h
 have hk : WE false [.s] (.str s) = true := rfl
 simp only [XT, hl, hk, and_self, if_true, h1, WI, Option.map_some]
 cases hb : W6 s m with
 | true =>
  obtain ⟨j, hj⟩ := UJ (i := 0) (by rw [h2, hb])
  rw [hj]; rfl
 | false =>
  rw [U8 (by rw [h2, hb])]; rfl
theorem NmM.add {σ : Sto} {a : Nat} {m : List Q1} (h : NmM σ a m) (q : Q1) : ∃ es, Y5 false [.s] σ [.map a, .str q.name, .bool true] = some (.undef, σ.put a (.tup es)) ∧ NmM (σ.put a (.tup es)) a (m ++ [q]) := by
 obtain ⟨hl, ns, h1, h2⟩ := h
 have hk : WE false [.s] (.str q.name) = true := rfl
 have ho : (Qa.bool true).okVal = true := rfl
 cases hb : W6 q.name m with
 | true =>
  obtain ⟨j, hj⟩ := UJ (i := 0) (by rw [h2, hb])
  obtain ⟨-, hg, -⟩ := lookN_get hj
  rw [Nat.sub_zero] at hg
  refine ⟨ns.map nent, ?_, by rw [Sto.put_nobj]; exact hl, ns, Sto.put_obj, λs=> ?_⟩
  ·simp only [Y5, hl, hk, ho, and_self, if_true, h1, WI, hj]
   rw [show Qa.tup [Qa.str q.name, Qa.bool true] = nent q.name from rfl, set_same (by rw [List.getElem?_map, hg]; rfl)]
   rfl
  ·rw [h2, G1]
   cases hq : (q.name == s) with
   | true =>
    have : q.name = s := by simpa using hq
    rw [← this, hb]; rfl
   | false => rw [Bool.or_false]
 | false =>
  refine ⟨(ns ++ [q.name]).map nent, ?_, by rw [Sto.put_nobj]; exact hl, ns ++ [q.name], Sto.put_obj, λs=> ?_⟩
  ·simp only [Y5, hl, hk, ho, and_self, if_true, h1, WI, U8 (show (ns.any λx=> q.name == x) = false by rw [h2, hb])]
   rw [List.map_append]
   rfl
  ·rw [G1, ← h2, List.any_append]
   congr 1
   simp only [List.any_cons, List.any_nil, Bool.or_false]
   rw [Bool.eq_iff_iff, beq_iff_eq, beq_iff_eq]
   exact eq_comm
section
variable {σ : Sto} {c : Nat} {es es' : List Qa} (hc : σ.obj c = .tup es)
include hc
theorem Hom.putm {a : Nat} {P : Qw} (h : Hom σ a P) : Hom (σ.put c (.tup es')) a P := by
 obtain ⟨h0, cs, h1, h2⟩ := h
 refine ⟨by rw [Sto.put_nobj]; exact h0, cs, ?_, h2⟩
 rw [Sto.put_obj_ne (λe=> by rw [e, hc] at h1; cases h1)]
 exact h1
theorem Tab.putm {id : Nat} {K : Qw} {T : ZW} (h : Tab σ id K T) (hm : T.mid ≠ c) : Tab (σ.put c (.tup es')) id K T := by
 refine ⟨by rw [Sto.put_nobj]; exact h.idl, by rw [Sto.put_nobj]; exact h.midl, h.ne, h.pne, ?_, by rw [Sto.put_obj_ne hm]; exact h.map, ?_, h.pol.putm hc, fun r hr => by rw [Sto.put_nobj]; exact h.homes r hr, by rw [Sto.put_ntok]; exact h.tl⟩
 ·rw [Sto.put_obj_ne (λe=> by have := h.obj; rw [e, hc] at this; cases this)]
  exact h.obj
 ·rcases h.own with q | ⟨q1, q2, q3⟩
  ·exact .inl q
  ·exact .inr ⟨q1, by rw [Sto.put_fr]; exact q2, by rw [Sto.put_ntok]; exact q3⟩
theorem ZC.putm {id : Nat} {p : Qw} {T : ZW} {m : List Q1} (h : ZC σ id p T m) (hm : T.mid ≠ c) : ZC (σ.put c (.tup es')) id p T m := by
 obtain ⟨K, ht, hk, gk⟩ := h.ex
 exact ⟨⟨K, ht.putm hc hm, hk, gk⟩, h.rel.mono fun r _ H hH => hH.putm hc, h.good⟩
end
theorem New.put {σ0 σ : Sto} {c : Nat} {d : Qa} (h : New σ0 σ) (hc : σ0.nobj ≤ c) : New σ0 (σ.put c d) :=
 ⟨by rw [Sto.put_nobj]; exact h.nobj, fun j hj => by rw [Sto.put_obj_ne (by omega)]; exact h.obj j hj, by rw [Sto.put_ntok]; exact h.ntok, fun g hg => by rw [Sto.put_fr]; exact h.fr g hg⟩
theorem snapM_new {σ σ' : Sto} {sz id off len : Nat} {es : List (List Qa)} (h : Ur σ sz id off len = some es) (k : New σ σ') : Ur σ' sz id off len = some es := by
 unfold Ur at h ⊢
 by_cases hi : id < σ.nobj
 ·rw [if_pos hi] at h
  rw [if_pos (Nat.lt_of_lt_of_le hi k.nobj), k.obj id hi]
  exact h
 ·rw [if_neg hi] at h
  cases h
theorem Rol.new {σ σ' : Sto} {rv : Qa} {p : Qw} (h : Rol σ rv p) (k : New σ σ') : Rol σ' rv p := by
 refine ⟨?_, h.okc, h.cells⟩
 have h1 := h.snap
 cases rv <;> first | exact h1 | skip
 simp only [Qa.snapCell] at h1 ⊢
 cases hm : Ur σ _ _ _ _ with
 | none => rw [hm] at h1; cases h1
 | some es => rw [hm] at h1; rw [snapM_new hm k]; exact h1
theorem Gc.new {σ σ' : Sto} {r : ZR} {q : Q1} (h : Gc σ r q) (k : New σ σ') : Gc σ' r q := by
 obtain ⟨H, a, b, c⟩ := h.home
 exact ⟨h.name, h.mapped, h.at_, h.ctx, h.good, H, a.new k, b, c⟩
theorem convT_home (h b : Qw) (pid : Nat) (r : ZR) : (V4 h b pid r).home = pid ∨ (V4 h b pid r).home = r.home := by
 unfold V4
 split
 ·exact .inl rfl
 ·split
  ·exact .inl rfl
  ·exact .inr rfl
structure CvS (σ0 σ : Sto) (id2 nm : Nat) (b : Qw) (T2 : ZW) (m rows : List Q1) : Prop where
 new : New σ0 σ
 both : ZC σ id2 b T2 rows
 since : GB σ0 id2 T2
 nms : NmM σ nm m
 nb : σ0.nobj ≤ nm
 ne : nm ≠ T2.mid ∧ nm ≠ id2
theorem CvS.grew {σ0 σ σ' : Sto} {id2 nm : Nat} {b K : Qw} {T2 T3 : ZW} {m rows : List Q1} {r : ZR} {q : Q1} (h : CvS σ0 σ id2 nm b T2 m rows) (ht : Tab σ id2 K T2) (hk : UG K b) (gk : Zg K) (g : Grew σ σ' id2 K T2 T3 r) (hr : Gc σ' r q) : CvS σ0 σ' id2 nm b T3 m (rows ++ [q]) := by
 obtain ⟨a1, a2⟩ := h.new.adv h.since g.adv
 refine ⟨a1, ⟨⟨K, g.tab, hk, gk⟩, ?_, h.both.good⟩, a2, ?_, h.nb, by rw [g.mid]; exact h.ne⟩
 ·rw [g.rows]
  exact (h.both.rel.grew ht g).snoc hr
 ·obtain ⟨n1, ns, n2, n3⟩ := h.nms
  exact ⟨by rw [g.keep.nobj]; exact n1, ns, by rw [g.keep.obj nm h.ne.2 h.ne.1]; exact n2, n3⟩
theorem newR_snoc (b : Qw) (m : List Q1) (l : List ZD) (y : ZD) : WN b m (l ++ [y]) = WN b m l ++ (if W6 y.name m = true then [] else [Q1.ok b y.name y.ctx]) := by
 unfold WN
 rw [List.filter_append, List.map_append]
 congr 1
 cases h : W6 y.name m <;> simp [newF, h]
section
variable {n : Nat} (hn : 6000 ≤ n) {b : Qw} (hs : b.sids.l.length ≤ 1000) {m : List Q1} (hl : m.length ≤ 5000)
include hn hs hl
theorem l14_1 {σ0 : Sto} (id2 nm lost : Nat) : ∀ (k i f : Nat) (σ : Sto) (T2 : ZW), i + k = b.sids.l.length → k < f → CvS σ0 σ id2 nm b T2 m (m.map (ZF b) ++ WN b m (b.sids.l.take i)) →
  ∃ σ' T', Qv 1 (Ef (cpJ PR n) (ciJ PR n) n (.obj id2 0) (.map nm) (.int .i64 lost) (QJ 8 ZD.row b.sids) (.int .i64 b.sids.l.length)) f [.int .i64 i] σ =
   some (if 1024 < (Yb b m).length then .done (.tup [.nilp, .int .i64 0, .int .i64 25]) σ' else .done (.tup [.obj id2 0, .int .i64 lost, .int .i64 0]) σ') ∧ CvS σ0 σ' id2 nm b T' m (Yb b m) := by
 intro k
 induction k with
 | zero =>
  intro i f σ T2 hi hf hC
  obtain ⟨f, rfl⟩ : ∃ j, f = j + 1 := ⟨f - 1, by omega⟩
  have hi' : ¬ ((i : Int) < b.sids.l.length) := by omega
  rw [List.take_of_length_le (by omega)] at hC
  change CvS σ0 σ id2 nm b T2 m (Yb b m) at hC
  obtain ⟨K, ht, -, -⟩ := hC.both.ex
  have h1 := ht.ld1
  have h2 := ht.len
  rw [hC.both.rel.length] at h2
  refine ⟨σ, T2, ?_, hC⟩
  by_cases hq : 1024 < (Yb b m).length
  ·have hq' : (1024 : Int) < (Yb b m).length := by omega
   rw [if_pos hq]
   refine Qt ?_
   simp -implicitDefEqProofs [Ef, B14_1, hi', h1, h2, hq']
  ·have hq' : ¬ (1024 : Int) < (Yb b m).length := by omega
   rw [if_neg hq]
   refine Qt ?_
   simp -implicitDefEqProofs [Ef, B14_1, hi', h1, h2, hq']
 | succ k ih =>
  intro i f σ T2 hi hf hC
  obtain ⟨f, rfl⟩ : ∃ j, f = j + 1 := ⟨f - 1, by omega⟩
  have hi' : ((i : Int) < b.sids.l.length) := by omega
  obtain ⟨y, hy⟩ := Qz (by omega : i < b.sids.l.length)
  have hwr := QT (by omega : i < b.sids.l.length) (by unfold maxLen; omega)
  have h1 := hC.nms.look y.name
  have e := newR_snoc b m (b.sids.l.take i) y
  rw [← Zp hy] at e
  cases hh : W6 y.name m with
  | true =>
   rw [hh] at h1 e
   simp only [if_true, List.append_nil] at e
   rw [← e] at hC
   obtain ⟨σ', T', g1, g2⟩ := ih (i + 1) f σ T2 (by omega) (by omega) hC
   refine ⟨σ', T', ?_, g2⟩
   rw [← g1]
   refine Qx ?_
   simp -implicitDefEqProofs [Ef, B14_1, hi', hy, hwr, h1]
  | false =>
   rw [hh] at h1 e
   simp only [Bool.false_eq_true, if_false] at e
   obtain ⟨K, ht, hk, gk⟩ := hC.both.ex
   have hlen := hC.both.rel.length
   have hnl := newR_len b m (b.sids.l.take i)
   rw [List.length_append, List.length_map] at hlen
   rw [List.length_take] at hnl
   obtain ⟨σ1, T3, h2, h3⟩ := e30 ht (n := n) (by omega) (by omega) y.name y.ctx
   have hrow : Gc σ1 ⟨y.name, T2.pid, y.ctx, true⟩ (Q1.ok b y.name y.ctx) := by
    have hp := h3.tab.pol
    rw [h3.pid] at hp
    exact ⟨rfl, rfl, rfl, rfl, hC.both.good, K, hp, hk, gk⟩
   have hC1 := hC.grew ht hk gk h3 hrow
   rw [List.append_assoc, ← e] at hC1
   obtain ⟨σ', T', g1, g2⟩ := ih (i + 1) f σ1 T3 (by omega) (by omega) hC1
   refine ⟨σ', T', ?_, g2⟩
   rw [← g1]
   refine Qx ?_
   simp -implicitDefEqProofs [Ef, B14_1, hi', hy, hwr, h1, h2]
theorem l14_2 {σ0 : Sto} {id : Nat} {p : Qw} {T : ZW} (hB0 : ZC σ0 id p T m) {rv : Qa} (hr0 : Rol σ0 rv b) (id2 nm : Nat) : ∀ (k i f lost : Nat) (σ : Sto) (T2 : ZW), i + k = m.length → k < f → lost = ((m.take i).map (ZF b)).countP (λq=> !q.mapped) → CvS σ0 σ id2 nm b T2 (m.take i) ((m.take i).map (ZF b)) →
  ∃ σ' T', Qv 0 (L14_2 (cpJ PR n) (ciJ PR n) n (pdR b rv) (.obj id2 0) (.map nm) T.v (.int .i64 m.length)) f [.int .i64 i, .int .i64 lost] σ =
   some (if 1024 < (Yb b m).length then .done (.tup [.nilp, .int .i64 0, .int .i64 25]) σ' else .done (.tup [.obj id2 0, .int .i64 (GP b m : Nat), .int .i64 0]) σ') ∧ CvS σ0 σ' id2 nm b T' m (Yb b m) := by
 obtain ⟨K0, ht0, -, -⟩ := hB0.ex
 have hlen0 := hB0.rel.length
 intro k
 induction k with
 | zero =>
  intro i f lost σ T2 hi hf hlo hC
  obtain ⟨f, rfl⟩ : ∃ j, f = j + 1 := ⟨f - 1, by omega⟩
  have hi' : ¬ ((i : Int) < m.length) := by omega
  rw [List.take_of_length_le (by omega)] at hC hlo
  obtain ⟨σ', T', g1, g2⟩ := l14_1 hn hs hl (σ0 := σ0) id2 nm lost b.sids.l.length 0 n σ T2 (by omega) (by omega) (by rw [List.take_zero, show WN b m [] = [] from rfl, List.append_nil]; exact hC)
  simp only [Int.natCast_zero] at g1
  have e : (GP b m) = lost := by rw [hlo]; rfl
  rw [e]
  refine ⟨σ', T', ?_, g2⟩
  have e2 : L14_2 (cpJ PR n) (ciJ PR n) n (pdR b rv) (.obj id2 0) (.map nm) T.v (.int .i64 m.length) [.int .i64 i, .int .i64 lost] σ = Qv 1 (Ef (cpJ PR n) (ciJ PR n) n (.obj id2 0) (.map nm) (.int .i64 lost) (QJ 8 ZD.row b.sids) (.int .i64 b.sids.l.length)) n [.int .i64 0] σ := by
   simp -implicitDefEqProofs [L14_2, B14_2, hi']
  rw [g1] at e2
  split at e2
  ·rename_i hq
   rw [if_pos hq]
   exact Qt e2
  ·rename_i hq
   rw [if_neg hq]
   exact Qt e2
 | succ k ih =>
  intro i f lost σ T2 hi hf hlo hC
  obtain ⟨f, rfl⟩ : ∃ j, f = j + 1 := ⟨f - 1, by omega⟩
  have hi' : ((i : Int) < m.length) := by omega
  obtain ⟨r, hr⟩ := Qz (by omega : i < T.rows.length)
  obtain ⟨q, hq, hrq⟩ := hB0.rel.get hr
  have hwr : IntKind.i64.wrap ((i : Int) + 1) = ((i + 1 : Nat) : Int) := Z3 (by omega)
  have hlb : lost ≤ 5000 := by
   have := List.countP_le_length (p := fun q : Q1 => !q.mapped) (l := (m.take i).map (ZF b))
   rw [List.length_map, List.length_take] at this
   omega
  have hwl : IntKind.i64.wrap ((lost : Int) + 1) = ((lost + 1 : Nat) : Int) := Z3 (by omega)
  obtain ⟨es, u1, u2⟩ := hC.nms.add q
  obtain ⟨nl, ns, hmo, -⟩ := hC.nms
  have hB1 := hC.both.putm (es' := es) hmo (λe=> hC.ne.1 e.symm)
  have hN1 : New σ0 (σ.put nm (.tup es)) := hC.new.put hC.nb
  generalize σ.put nm (.tup es) = σ1 at *
  have hC1 : CvS σ0 σ1 id2 nm b T2 (m.take (i + 1)) ((m.take i).map (ZF b)) := ⟨hN1, hB1, hC.since, by rw [Zp hq]; exact u2, hC.nb, hC.ne⟩
  obtain ⟨K, ht, hk, gk⟩ := hB1.ex
  have hrow1 := hrq.new hN1
  obtain ⟨H, c1, c2, c3⟩ := hrow1.home
  have h1 := e40 (n := n) (by omega) c1 c2 c3 hB1.good (hr0.new hN1) ht.ld0
  have hlen := hB1.rel.length
  rw [List.length_map, List.length_take] at hlen
  obtain ⟨b1, -, -⟩ := ht0.homes r (List.mem_of_getElem? hr)
  have hno := hN1.nobj
  have s1 := hC.since.id
  have s2 := hC.since.mid
  obtain ⟨σ2, T3, h2, h3⟩ := e41 (n := n) (by omega) ht (by omega) (V4 q.home b T2.pid r) (by
   rcases convT_home q.home b T2.pid r with e | e <;> rw [e]
   ·exact ⟨ht.pol.1, ht.pne⟩
   ·exact ⟨by omega, by omega, by omega⟩)
  have hN2 := (hC1.new.adv hC1.since h3.adv).1
  have hp2 := h3.tab.pol
  rw [h3.pid] at hp2
  have hrow2 := Gc.conv (hrq.new hN2) hp2 hk gk hB1.good
  have hC2 := hC1.grew ht hk gk h3 hrow2
  have ec : (m.take i).map (ZF b) ++ [ZF b q] = (m.take (i + 1)).map (ZF b) := by rw [Zp hq, List.map_append]; rfl
  rw [ec] at hC2
  have hmm : (V4 q.home b T2.pid r).mapped = (ZF b q).mapped := hrow2.mapped
  obtain ⟨σ', T', g1, g2⟩ := ih (i + 1) f (if (ZF b q).mapped then lost else lost + 1) σ2 T3 (by omega) (by omega) (by
   rw [← ec, List.countP_append, ← hlo]
   cases hm : (ZF b q).mapped <;> simp [hm]) hC2
  refine ⟨σ', T', ?_, g2⟩
  rw [← g1]
  refine Qx ?_
  have h5 := ht0.idx hr
  have h6 := YP r
  have h7 := YP (V4 q.home b T2.pid r)
  have h8 := Ug (p := b) hr0.okc
  rw [← hrq.name] at u1
  generalize V4 q.home b T2.pid r = r2 at *
  cases hmp : (ZF b q).mapped <;> rw [hmp] at hmm <;> simp -implicitDefEqProofs [L14_2, B14_2, L14_0, J14_0, hi', hwr, hwl, u1, h1, h2, h5, h6, h7, h8, hmm, -Qh.eq_1, -Qq.eq_1, -Qq.eq_2]
end
theorem e14 {n : Nat} (hn : 7000 ≤ n) {σ : Sto} {id : Nat} {p b : Qw} {T : ZW} {m : List Q1} (hB : ZC σ id p T m) (hl : m.length ≤ 5000) (gb : Zg b) {rv xa : Qa} (hr : Rol σ rv b) (hxa : Qm [xa] = some xa) :
  ∃ σ' id2, ciJ PR n 14 [.obj id 0, xa, pdR b rv] σ = some (.tup [(if (ZY b m).2.2 = 0 then .obj id2 0 else .nilp), .int .i64 (ZY b m).2.1, .int .i64 (ZY b m).2.2], σ') ∧ New σ σ' ∧ ((ZY b m).2.2 = 0 → ∃ T2, ZC σ' id2 b T2 (ZY b m).1 ∧ GB σ id2 T2) := by
 obtain ⟨n, rfl⟩ : ∃ m, n = m + 1 := ⟨n - 1, by omega⟩
 obtain ⟨K, ht, hk, gk⟩ := hB.ex
 have hs := gb.small.sids
 have h1 := e39 ht (n := n) (by omega)
 have h2 : ZT (cpJ PR n) 28 σ [pdR b rv] = some (.bool (ZP b), σ) := by
  have e : Xa σ [pdR b rv] = some [b.d] := by simp only [Xa, hr.val]
  have e2 : cpJ PR n 28 [b.d] = some (.bool (ZP b)) := e28 (n := n) (by omega) (by omega)
  rw [ZT, e, Option.bind_some, e2, Option.bind_some]
  rfl
 have hbx := JP (p := b) hr.okc
 have hov := Ug (p := b) hr.okc
 unfold ZY
 rw [v14]
 cases hq : ZP b with
 | false =>
  rw [hq] at h2
  refine ⟨σ, 0, ?_, ⟨Nat.le_refl _, fun _ _ => rfl, Nat.le_refl _, fun _ _ => rfl⟩, λh=> by simp at h⟩
  simp -implicitDefEqProofs [D14, h1, h2, hbx, hxa, -Qm.eq_1]
 | true =>
  rw [hq] at h2
  obtain ⟨σ1, id2, K2, T2, h3, h4, h5, h6, h7, h8, h9⟩ := e29 (n := n) (by omega) σ gb hr
  have hm : Yg σ1 [] = some (.map σ1.nobj, σ1.new (.tup [])) := rfl
  have nw := h8.trans (New.of σ1 (.tup []))
  have h10 := (ht.new nw).ld1
  have h11 := ht.len
  rw [hB.rel.length] at h11
  have t2 := h4.new (New.of σ1 (.tup []))
  have hC : CvS σ (σ1.new (.tup [])) id2 σ1.nobj b T2 (m.take 0) ((m.take 0).map (ZF b)) := by
   refine ⟨nw, ⟨⟨K2, t2, h6, h7⟩, by rw [h5]; exact .nil, gb⟩, h9, ⟨by simp, [], Sto.new_obj, λs=> rfl⟩, h8.nobj, ?_⟩
   have a1 := h4.idl
   have a2 := h4.midl
   exact ⟨by omega, by omega⟩
  obtain ⟨σ', T', g1, g2⟩ := l14_2 (n := n) (by omega) (by omega) hl hB hr id2 σ1.nobj m.length 0 n 0 _ T2 (by omega) (by omega) rfl hC
  simp only [Int.natCast_zero] at g1
  refine ⟨σ', id2, ?_, g2.new, λ_=> ?_⟩
  ·by_cases hf : 1024 < (Yb b m).length
   ·rw [if_pos hf] at g1
    simp only [if_true, if_pos hf]
    simp -implicitDefEqProofs [D14, h1, h2, hbx, hxa, hov, h3, hm, h10, h11, g1, -Qm.eq_1]
   ·rw [if_neg hf] at g1
    simp only [if_true, if_neg hf]
    simp -implicitDefEqProofs [D14, h1, h2, hbx, hxa, hov, h3, hm, h10, h11, g1, -Qm.eq_1]
  ·rename_i hz
   by_cases hf : 1024 < (Yb b m).length
   ·simp only [if_true, if_pos hf] at hz
    exact absurd hz (by decide)
   ·simp only [if_true, if_neg hf]
    exact ⟨T', g2.both, g2.since⟩
end Go.Proofs.YtdibpeknpmhknaaGreat
namespace Go.Proofs.YtdibpeknpmhknaaGreat
open Go
section
variable {n : Nat} (hn : 30002 ≤ n) {σ : Sto} {id : Nat} {p : Qw} {T : ZW} {m : List Q1} (hB : ZC σ id p T m) (hl : m.length ≤ 10000)
include hn hB
theorem HP : ciJ PR n 19 [.obj id 0] σ = some (.int .i64 m.length, σ) := by
 obtain ⟨K, ht, hk, gk⟩ := hB.ex
 rw [← hB.rel.length]
 exact e19 ht (by omega)
include hl
theorem HC {i : Int} {q : Q1} (hq : Yd m i = some q) : ciJ PR n 17 [.obj id 0, .int .i64 i] σ = some (.tup [q.ctx.d, .bool true], σ) := by
 obtain ⟨K, ht, hk, gk⟩ := hB.ex
 have hlen := hB.rel.length
 have h := e17 ht (n := n) (by omega) i (by omega)
 rcases Vz hB.rel i with ⟨r1, r2⟩ | ⟨r, q', r1, r2, hR⟩
 ·rw [r2] at hq; cases hq
 ·rw [r2] at hq
  obtain rfl : q' = q := by simpa using hq
  rw [r1] at h
  simp only at h
  rw [h, hR.ctx]
  split <;> rfl
theorem Vs {i : Int} {q : Q1} (hq : Yd m i = some q) : ciJ PR n 18 [.obj id 0, .int .i64 i] σ = some (.bool q.mapped, σ) := by
 obtain ⟨K, ht, hk, gk⟩ := hB.ex
 have hlen := hB.rel.length
 have h := e18 ht (n := n) (by omega) i (by omega)
 rcases Vz hB.rel i with ⟨r1, r2⟩ | ⟨r, q', r1, r2, hR⟩
 ·rw [r2] at hq; cases hq
 ·rw [r2] at hq
  obtain rfl : q' = q := by simpa using hq
  rw [r1] at h
  simp only at h
  rw [h, hR.mapped]
theorem both_name {i : Int} {q : Q1} (hq : Yd m i = some q) : ciJ PR n 21 [.obj id 0, .int .i64 i] σ = some (.tup [.str q.name, .bool (!(q.name == []))], σ) := by
 obtain ⟨K, ht, hk, gk⟩ := hB.ex
 have hlen := hB.rel.length
 have h := e21 ht (n := n) (by omega) i (by omega)
 rcases Vz hB.rel i with ⟨r1, r2⟩ | ⟨r, q', r1, r2, hR⟩
 ·rw [r2] at hq; cases hq
 ·rw [r2] at hq
  obtain rfl : q' = q := by simpa using hq
  rw [r1] at h
  simp only at h
  rw [h, hR.name]
theorem both_text {i : Int} {q : Q1} (hq : Yd m i = some q) : ciJ PR n 22 [.obj id 0, .int .i64 i] σ = some (.tup [.str (YK q.home q.at_), .bool true], σ) := by
 obtain ⟨K, ht, hk, gk⟩ := hB.ex
 have hlen := hB.rel.length
 rcases Vz hB.rel i with ⟨r1, r2⟩ | ⟨r, q', r1, r2, hR⟩
 ·rw [r2] at hq; cases hq
 ·rw [r2] at hq
  obtain rfl : q' = q := by simpa using hq
  obtain ⟨H, a1, a2, a3⟩ := hR.home
  have h := e22s ht (n := n) (by omega) i (by omega) (by omega) r1 a1 a3
  rw [h, a2.text, hR.at_]
theorem both_known (c : Q3) (hc : QP p c = 0) {j : Nat} (hf : QH (WP c) m 0 = (j : Int)) : ciJ PR n 16 [.obj id 0, c.d] σ = some (.tup [.int .i64 ((j : Int) + 1), .int .i64 0], σ) := by
 obtain ⟨K, ht, hk, gk⟩ := hB.ex
 have hlen := hB.rel.length
 obtain ⟨σ', h1, h2⟩ := e16 ht (n := n) (by omega) (by omega) c
 have hff := hB.rel.find c 0
 unfold sidV at h1
 rw [hk.check c, hff, hc, if_pos rfl, hf, if_pos (by omega)] at h1
 rw [hk.check c, hff, hf, if_neg (λh=> by omega)] at h2
 rw [h1, h2]
end
theorem ZC.apart {σ σ' : Sto} {id id2 : Nat} {p : Qw} {T T2 T2' : ZW} {m : List Q1} (h : ZC σ id p T m) (k : Jq σ σ' id2 T2 T2') (h1 : id ≠ id2 ∧ id ≠ T2.mid ∧ T.mid ≠ id2 ∧ T.mid ≠ T2.mid ∧ T.pid ≠ id2 ∧ T.pid ≠ T2.mid) (h2 : T.t ≠ T2.t ∨ T.v = .nils)
  (h3 : ∀ r ∈ T.rows, r.home ≠ id2 ∧ r.home ≠ T2.mid) : ZC σ' id p T m := by
 obtain ⟨K, ht, hk, gk⟩ := h.ex
 refine ⟨⟨K, ht.apart k h1 h2 h3, hk, gk⟩, h.rel.mono fun r hr H hH => ?_, h.good⟩
 exact hH.keep k.keep (h3 r hr).1 (h3 r hr).2
theorem ZC.token {σ : Sto} {id : Nat} {p : Qw} {T : ZW} {m : List Q1} (h : ZC σ id p T m) (hv : T.v = .nils) (t : Nat) : ZC σ id p { T with t := t } m := by
 obtain ⟨K, ht, hk, gk⟩ := h.ex
 refine ⟨⟨K, ⟨ht.idl, ht.midl, ht.ne, ht.pne, ht.obj, ht.map, ?_, ht.pol, ht.homes, .inr hv⟩, hk, gk⟩, h.rel, h.good⟩
 rcases ht.own with q | ⟨q1, q2, q3⟩
 ·exact .inl q
 ·rw [hv] at q1; cases q1
theorem both_rows' {σ : Sto} {id : Nat} {p : Qw} {T : ZW} {m : List Q1} (h : ZC σ id p T m) : T.rows.length = m.length := h.rel.length
theorem pol_box' (p : Qw) : Qm [p.d] = some p.d := by
 show (if p.row.all Qa.okCell then _ else _) = _
 rw [if_pos (by simp [Qw.row])]
 rfl
theorem New.refl (σ : Sto) : New σ σ := ⟨Nat.le_refl _, fun _ _ => rfl, Nat.le_refl _, fun _ _ => rfl⟩
end Go.Proofs.YtdibpeknpmhknaaGreat
namespace Go.Proofs.YtdibpeknpmhknaaGreat
open Go
def setL : List Nat → Q_ → Q_
 | [], s => s
 | k :: l, s => setL l (Vu s k)
abbrev irows (l : List Nat) : List (List Qa) := l.map fun (k : Nat) => [Qa.int .i64 (k : Int)]
theorem l60 {n : Nat} (l : List Nat) (hl : l.length ≤ 1000) (hk : ∀ k ∈ l, k < 256) : ∀ (j i m : Nat) (s : Q_) (σ : Sto), i + j = l.length → j < m → σ.obj 0 = s.d → 0 < σ.nobj →
  ∃ σ', Qv 0 (L60_0 (cpJ PR n) (ciJ PR n) n (.slice false 1 1 (irows l)) (.obj 0 0)) m [.int .i64 i] σ = some (.done (setL (l.drop i) s).d σ') := by
 intro j
 induction j with
 | zero =>
  intro i m s σ hi hm hs h0
  obtain ⟨m, rfl⟩ : ∃ q, m = q + 1 := ⟨m - 1, by omega⟩
  have hi' : ¬ ((i : Int) < l.length) := by omega
  have h1 : Q8 σ (some 4) [.obj 0 0] = some (s.d, σ) := by
   rw [Yl (some 4) hs h0]; rfl
  refine ⟨σ, Qt ?_⟩
  rw [List.drop_eq_nil_of_le (by omega)]
  simp -implicitDefEqProofs [L60_0, B60_0, hi', h1, setL]
 | succ j ih =>
  intro i m s σ hi hm hs h0
  obtain ⟨m, rfl⟩ : ∃ q, m = q + 1 := ⟨m - 1, by omega⟩
  have hi' : ((i : Int) < l.length) := by omega
  obtain ⟨k, hk0⟩ := Qz (by omega : i < l.length)
  have hkl := hk k (List.mem_of_getElem? hk0)
  have hwr : IntKind.i64.wrap ((i : Int) + 1) = (i : Int) + 1 := Ze (by omega) (by omega)
  have h1 := Yv (σ := σ) (id := 0) (n := 4) (i := k / 64) (f := λi=> .int .u64 (s.w i)) hs h0 (by omega)
  have h2 := YN (id := 0) (j := k / 64) (by omega)
  have h3 := wrap_pow (k := k % 64) (by omega)
  have h4 : ¬ (((k % 64 : Nat) : Int) < 0) := by omega
  have h5 : min (k % 64) 64 = k % 64 := by omega
  have h6 := or_nat (s.w (k / 64)) (2 ^ (k % 64)) (s.lt _) (pow_lt' (Nat.mod_lt _ (by decide)))
  have h7 := Gb (σ := σ) (id := 0) (n := 4) (i := k / 64) (f := λi=> .int .u64 (s.w i)) (v := .int .u64 ((s.w (k / 64) ||| 2 ^ (k % 64) : Nat) : Int)) hs h0 (by omega) rfl rfl
  have e : Wk 4 (upd (λi=> Qa.int .u64 (s.w i)) (k / 64) (.int .u64 ((s.w (k / 64) ||| 2 ^ (k % 64) : Nat) : Int))) = (Vu s k).d := by
   rw [Q_.d_arr]
   congr 1
   funext i
   simp only [upd, Vu]
   split <;> rfl
  rw [e] at h7
  obtain ⟨σ', h8⟩ := ih (i + 1) m (Vu s k) (σ.put 0 (Vu s k).d) (by omega) (by omega) (by simp) (by simpa using h0)
  refine ⟨σ', ?_⟩
  rw [QY hk0, setL, ← h8]
  refine Qx ?_
  have hq : Qq 1 [.slice false 1 1 (irows l), .int .i64 (i : Int)] = some (.elem [.int .i64 (k : Int)] 0) := by
   simp [Qq, hk0]
  have hlen : Qf [.slice false 1 1 (irows l)] = some (.int .i64 (l.length : Int)) := by simp [Qf, goI]
  have hd := VE k hkl
  have hd' : (k : Int).tdiv 64 = (k : Int) / 64 := Int.tdiv_eq_ediv_of_nonneg (by omega)
  simp -implicitDefEqProofs [L60_0, B60_0, hi', hq, hlen, hwr, hd, hd', h1, h2, h3, h4, h5, h6, h7, Et, IntKind.bits, -Int.natCast_emod, -Int.natCast_ediv, -Int.natCast_pow, -Zb.eq_1, -Qq.eq_1, -Qf.eq_2]
theorem e60 {n : Nat} (hn : 2000 ≤ n) (l : List Nat) (hl : l.length ≤ 1000) (hk : ∀ k ∈ l, k < 256) : cpJ PR n 60 [.slice false 1 1 (irows l)] = some (setL l Q_.zero).d := by
 obtain ⟨n, rfl⟩ : ∃ m, n = m + 1 := ⟨n - 1, by omega⟩
 obtain ⟨σ', h1⟩ := l60 (n := n) l hl hk l.length 0 n Q_.zero (Qd.new Q_.zero.d) (by omega) (by omega) rfl (by simp [Qd])
 simp only [Int.natCast_zero, List.drop_zero] at h1
 have h2 : Yc Qd [.int .u64 0, .int .u64 0, .int .u64 0, .int .u64 0] [] = some (.obj 0 0, Qd.new Q_.zero.d) := rfl
 rw [u60]
 simp -implicitDefEqProofs [D60, h1, h2]
def initC : Q3 := ⟨0, 1, 0, ⟨0, 0, by decide⟩, ⟨0, 0, by decide⟩⟩
def J5 : Q3 := ⟨0, 0, 2, ⟨0, 0, by decide⟩, ⟨0, 0, by decide⟩⟩
theorem e61 {n : Nat} (hn : 1 ≤ n) : cpJ PR n 61 [] = some initC.d := by
 obtain ⟨n, rfl⟩ : ∃ m, n = m + 1 := ⟨n - 1, by omega⟩
 rw [u61]
 simp -implicitDefEqProofs [D61]
 rfl
theorem e27 {n : Nat} (hn : 1 ≤ n) : cpJ PR n 27 [] = some J5.d := by
 obtain ⟨n, rfl⟩ : ∃ m, n = m + 1 := ⟨n - 1, by omega⟩
 rw [u27]
 simp -implicitDefEqProofs [D27]
 rfl
def We (w : Nat) (h : w < 18446744073709551616 := by decide) : Q_ := ⟨λi=> if i = 0 then w else 0, λi=> by split <;> first | exact h | decide⟩
abbrev seA (w : Nat) : Qa := .agg [.int .u64 (w : Int), .int .u64 0, .int .u64 0, .int .u64 0]
def lv0 : LvV := ⟨0, 0, by decide⟩
def QR : Qw where
 classes := ⟨.lit, [⟨[112, 114, 111, 99, 101, 115, 115], ⟨.lit, [[102, 111, 114, 107], [116, 114, 97, 110, 115, 105, 116, 105, 111, 110], [100, 121, 110, 116, 114, 97, 110, 115, 105, 116, 105, 111, 110], [115, 101, 110, 100]]⟩⟩,
  ⟨[102, 105, 108, 101], ⟨.lit, [[114, 101, 97, 100], [119, 114, 105, 116, 101], [99, 114, 101, 97, 116, 101], [117, 110, 108, 105, 110, 107], [101, 120, 101, 99, 117, 116, 101], [101, 110, 116, 114, 121, 112, 111, 105, 110, 116], [114, 101, 108, 97, 98, 101, 108, 102, 114, 111, 109], [114, 101, 108, 97, 98, 101, 108, 116, 111]]⟩⟩, ⟨[100, 105, 114], ⟨.lit, [[114, 101, 97, 100], [119, 114, 105, 116, 101], [99, 114, 101, 97, 116, 101], [117, 110, 108, 105, 110, 107], [97, 100, 100], [114, 101, 109, 111, 118, 101], [114, 101, 108, 97, 98, 101, 108, 102, 114, 111, 109], [114, 101, 108, 97, 98, 101, 108, 116, 111]]⟩⟩]⟩
 types := ⟨.lit, [⟨[105, 110, 105, 116, 95, 116], ⟨.nil, []⟩, false⟩, ⟨[117, 115, 101, 114, 95, 116], ⟨.nil, []⟩, false⟩, ⟨[102, 105, 108, 101, 95, 116], ⟨.nil, []⟩, false⟩, ⟨[115, 104, 101, 108, 108, 95, 116], ⟨.nil, []⟩, false⟩]⟩
 attrs := ⟨.lit, [⟨[100, 111, 109, 97, 105, 110], We 3⟩]⟩
 roles := ⟨.lit, [⟨[111, 98, 106, 101, 99, 116, 95, 114], We 0, We 0⟩, ⟨[115, 121, 115, 116, 101, 109], We 3, We 0⟩]⟩
 users := ⟨.lit, [⟨[114, 111, 111, 116], We 2, lv0, lv0, lv0⟩]⟩
 bools := ⟨.lit, [⟨[115, 104, 97, 114, 101], false⟩]⟩
 sens := ⟨.lit, [[115, 48]]⟩
 cats := ⟨.nil, []⟩
 conds := ⟨.lit, [.mk 1 0 0 0 ⟨.nil, []⟩ (We 0) .nil []]⟩
 rules := ⟨.lit, [⟨1, We 3, We 0, true, 0, 9, 0, by decide⟩, ⟨1, We 1, We 12, false, 1, 17, 0, by decide⟩, ⟨1, We 1, We 2, false, 0, 2, 0, by decide⟩, ⟨1, We 2, We 8, false, 1, 32, 0, by decide⟩, ⟨1, We 2, We 4, false, 1, 1, 1, by decide⟩]⟩
 trans := ⟨.lit, [⟨1, We 1, We 8, 0, [], 1, 0⟩]⟩
 roleTrans := ⟨.nil, []⟩
 ranges := ⟨.nil, []⟩
 constrs := ⟨.nil, []⟩
 sids := ⟨.lit, [⟨[107, 101, 114, 110, 101, 108], initC⟩, ⟨[114, 111, 111, 116], J5⟩, ⟨[117, 110, 108, 97, 98, 101, 108, 101, 100], J5⟩]⟩
 files := ⟨.nil, []⟩
 asserts := ⟨.nil, []⟩
theorem e25 {n : Nat} (hn : 2001 ≤ n) : cpJ PR n 25 [] = some QR.d := by
 obtain ⟨n, rfl⟩ : ∃ m, n = m + 1 := ⟨n - 1, by omega⟩
 have a0 : cpJ PR n 60 [.slice false 1 1 [[.int .i64 0]]] = some (seA 1) := e60 (n := n) (by omega) [0] (by decide) (by decide)
 have a1 : cpJ PR n 60 [.slice false 1 1 [[.int .i64 1]]] = some (seA 2) := e60 (n := n) (by omega) [1] (by decide) (by decide)
 have a2 : cpJ PR n 60 [.slice false 1 1 [[.int .i64 2]]] = some (seA 4) := e60 (n := n) (by omega) [2] (by decide) (by decide)
 have a3 : cpJ PR n 60 [.slice false 1 1 [[.int .i64 3]]] = some (seA 8) := e60 (n := n) (by omega) [3] (by decide) (by decide)
 have a4 : cpJ PR n 60 [.slice false 1 1 [[.int .i64 0], [.int .i64 1]]] = some (seA 3) := e60 (n := n) (by omega) [0, 1] (by decide) (by decide)
 have a5 : cpJ PR n 60 [.slice false 1 1 [[.int .i64 2], [.int .i64 3]]] = some (seA 12) := e60 (n := n) (by omega) [2, 3] (by decide) (by decide)
 have b1 : cpJ PR n 61 [] = some (.agg [.int .i64 0, .int .i64 1, .int .i64 0, .int .i64 0, .int .u64 0, .int .i64 0, .int .u64 0]) := e61 (by omega)
 have b2 : cpJ PR n 27 [] = some (.agg [.int .i64 0, .int .i64 0, .int .i64 2, .int .i64 0, .int .u64 0, .int .i64 0, .int .u64 0]) := e27 (by omega)
 rw [u25]
 simp -implicitDefEqProofs [D25, a0, a1, a2, a3, a4, a5, b1, b2]
 rfl
end Go.Proofs.YtdibpeknpmhknaaGreat
