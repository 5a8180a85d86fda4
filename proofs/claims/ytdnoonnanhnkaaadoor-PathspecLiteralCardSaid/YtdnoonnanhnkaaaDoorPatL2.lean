/- Less and its law; Lookup and its law. -/
import Derived.Test.YtdnoonnanhnkaaaDoorPatL
set_option linter.unusedVariables false
set_option linter.unusedSimpArgs false
set_option maxRecDepth 20000
set_option maxHeartbeats 2000000
namespace Go.Proofs.YtdnoonnanhnkaaaDoor
open Go

/-- Lexicographic order. -/
def ltL : List Int → List Int → Bool
  | x :: xs, y :: ys => if x = y then ltL xs ys else decide (x < y)
  | _, _ => false

theorem ltL_asymm : ∀ {x y : List Int}, ltL x y = true → ltL y x = false
  | [], _, h => by simp [ltL] at h
  | _ :: _, [], h => by simp [ltL] at h
  | a :: x, b :: y, h => by
    simp only [ltL] at h ⊢
    by_cases e : a = b
    · subst e; simp only [if_true] at h ⊢; exact ltL_asymm h
    · rw [if_neg e] at h; rw [if_neg (Ne.symm e)]; simp at h ⊢; omega

theorem ltL_trans : ∀ {x y z : List Int}, ltL x y = true → ltL y z = true → ltL x z = true
  | [], _, _, h, _ => by simp [ltL] at h
  | _ :: _, [], _, h, _ => by simp [ltL] at h
  | _ :: _, _ :: _, [], _, h => by simp [ltL] at h
  | a :: x, b :: y, c :: z, h1, h2 => by
    simp only [ltL] at h1 h2 ⊢
    by_cases e1 : a = b
    · subst e1
      simp only [if_true] at h1
      by_cases e2 : a = c
      · subst e2; simp only [if_true] at h2 ⊢; exact ltL_trans h1 h2
      · rw [if_neg e2] at h2 ⊢; exact h2
    · rw [if_neg e1] at h1
      simp only [decide_eq_true_eq] at h1
      by_cases e2 : b = c
      · subst e2; rw [if_neg e1]; simpa using h1
      · rw [if_neg e2] at h2
        simp only [decide_eq_true_eq] at h2
        rw [if_neg (by omega)]
        simp; omega

theorem ltL_neg : ∀ {x y z : List Int}, x.length = y.length → y.length = z.length → ltL x z = true → ltL x y = true ∨ ltL y z = true
  | [], _, _, _, _, h => by simp [ltL] at h
  | _ :: _, [], _, h, _, _ => by simp at h
  | _ :: _, _ :: _, [], _, h, _ => by simp at h
  | a :: x, b :: y, c :: z, h1, h2, h => by
    simp only [ltL] at h ⊢
    simp only [List.length_cons, Nat.add_right_cancel_iff] at h1 h2
    by_cases e1 : a = b
    · subst e1
      by_cases e2 : a = c
      · subst e2; simp only [if_true] at h ⊢; exact ltL_neg h1 h2 h
      · rw [if_neg e2] at h ⊢; exact .inr h
    · rw [if_neg e1]
      by_cases e2 : b = c
      · subst e2; rw [if_neg e1] at h; exact .inl h
      · rw [if_neg e2]
        by_cases e3 : a = c
        · subst e3; simp; omega
        · rw [if_neg e3] at h; simp at h ⊢; omega

/-- What Less answers. -/
def lessV (a b : Bs) : Bool := match parseV true a, parseV true b with
  | some l, some m => ltL (weightV a l) (weightV b m)
  | none, some _ => true
  | _, none => false

def keyV (s : Bs) : Option (List Int) := (parseV true s).map (weightV s)
def ltO : Option (List Int) → Option (List Int) → Bool
  | some x, some y => ltL x y
  | none, some _ => true
  | _, none => false
theorem less_key (a b : Bs) : lessV a b = ltO (keyV a) (keyV b) := by
  unfold lessV keyV
  cases parseV true a <;> cases parseV true b <;> rfl
theorem key_len {s : Bs} {x : List Int} (h : keyV s = some x) : x.length = 4 := by
  unfold keyV at h
  rw [Option.map_eq_some_iff] at h
  obtain ⟨l, -, rfl⟩ := h
  rfl

theorem less_asymm {a b : Bs} (h : lessV a b = true) : lessV b a = false := by
  rw [less_key] at h ⊢
  generalize keyV a = x at h ⊢
  generalize keyV b = y at h ⊢
  cases x with
  | none => cases y with
    | none => rfl
    | some y => rfl
  | some x => cases y with
    | none => simp [ltO] at h
    | some y => exact ltL_asymm h
theorem less_trans {a b c : Bs} (h1 : lessV a b = true) (h2 : lessV b c = true) : lessV a c = true := by
  rw [less_key] at h1 h2 ⊢
  generalize keyV a = x at *
  generalize keyV b = y at *
  generalize keyV c = z at *
  cases x <;> cases y <;> cases z <;> simp only [ltO, Bool.false_eq_true] at h1 h2 ⊢
  exact ltL_trans h1 h2
theorem less_neg {a b c : Bs} (h : lessV a c = true) : lessV a b = true ∨ lessV b c = true := by
  rw [less_key] at h
  rw [less_key, less_key]
  have la := @key_len a
  have lb := @key_len b
  have lc := @key_len c
  generalize keyV a = x at *
  generalize keyV b = y at *
  generalize keyV c = z at *
  cases x <;> cases y <;> cases z <;> simp only [ltO, Bool.false_eq_true, false_or, or_false, or_true, true_or] at h ⊢
  exact ltL_neg (by rw [la rfl, lb rfl]) (by rw [lb rfl, lc rfl]) h

/-- The two weights are compared place by place. -/
theorem unroll4 {f : List DVal → Sto → Option Out} {σ : Sto} {u : DVal} {v0 v1 v2 v3 w0 w1 w2 w3 : Int} {m : Nat}
    (h : ∀ (k : Nat) (x y : Int), ([v0, v1, v2, v3] : List Int)[k]? = some x → ([w0, w1, w2, w3] : List Int)[k]? = some y → f [.int .i64 k, u] σ = if x = y then some (.next 0 [.int .i64 ((k + 1 : Nat) : Int), u] σ) else some (.done (.bool (decide (x < y))) σ))
    (h4 : f [.int .i64 ((4 : Nat) : Int), u] σ = some (.done (.bool false) σ)) : iterJ 0 f (m + 5) [.int .i64 ((0 : Nat) : Int), u] σ = some (.done (.bool (ltL [v0, v1, v2, v3] [w0, w1, w2, w3])) σ) := by
  have g0 := h 0 v0 w0 rfl rfl
  have g1 := h 1 v1 w1 rfl rfl
  have g2 := h 2 v2 w2 rfl rfl
  have g3 := h 3 v3 w3 rfl rfl
  simp only [ltL]
  by_cases c0 : v0 = w0
  · rw [if_pos c0] at g0 ⊢
    rw [iterJ_next' g0]
    by_cases c1 : v1 = w1
    · rw [if_pos c1] at g1 ⊢
      rw [iterJ_next' g1]
      by_cases c2 : v2 = w2
      · rw [if_pos c2] at g2 ⊢
        rw [iterJ_next' g2]
        by_cases c3 : v3 = w3
        · rw [if_pos c3] at g3 ⊢
          rw [iterJ_next' g3]
          exact iterJ_done h4
        · rw [if_neg c3] at g3 ⊢
          exact iterJ_done g3
      · rw [if_neg c2] at g2 ⊢
        exact iterJ_done g2
    · rw [if_neg c1] at g1 ⊢
      exact iterJ_done g1
  · rw [if_neg c0] at g0 ⊢
    exact iterJ_done g0

/-- Two objects of four numbers. -/
abbrev two4 (a b c d a' b' c' d' : Int) : Sto := (emptySto.new (quad a b c d)).new (quad a' b' c' d')

theorem two4_facts (a b c d a' b' c' d' : Int) : allocOSem emptySto [.int .i64 0, .int .i64 0, .int .i64 0, .int .i64 0] [] = some (.obj 0 0, st4 0 0 0 0) ∧
    allocOSem (st4 0 0 0 0) [.int .i64 0, .int .i64 0, .int .i64 0, .int .i64 0] [] = some (.obj 1 0, two4 0 0 0 0 0 0 0 0) ∧
    stOSem (two4 0 0 0 0 0 0 0 0) 4 [.obj 0 0, quad a b c d] = some (.undef, (two4 0 0 0 0 0 0 0 0).put 0 (quad a b c d)) ∧
    stOSem ((two4 0 0 0 0 0 0 0 0).put 0 (quad a b c d)) 4 [.obj 1 0, quad a' b' c' d'] = some (.undef, ((two4 0 0 0 0 0 0 0 0).put 0 (quad a b c d)).put 1 (quad a' b' c' d')) := by
  refine ⟨rfl, rfl, ?_, ?_⟩
  · rw [st_obj (k := 4) (cs := [.int .i64 0, .int .i64 0, .int .i64 0, .int .i64 0]) rfl (by show 0 < 2; decide) rfl rfl]
    simp
  · rw [st_obj (k := 4) (cs := [.int .i64 0, .int .i64 0, .int .i64 0, .int .i64 0]) rfl (by show 1 < 2; decide) rfl rfl]
    simp

section
variable {n : Nat} (v0 v1 v2 v3 w0 w1 w2 w3 : Int) (σ : Sto) (h0 : σ.obj 0 = quad v0 v1 v2 v3) (h1 : σ.obj 1 = quad w0 w1 w2 w3) (hn : 2 ≤ σ.nobj)
include h0 h1 hn

theorem l24 (m : Nat) (u : DVal) : iterJ 0 (L24_0 (cpJ PR n) (ciJ PR n) n (.obj 0 0) (.obj 1 0)) (m + 5) [.int .i64 ((0 : Nat) : Int), u] σ = some (.done (.bool (ltL [v0, v1, v2, v3] [w0, w1, w2, w3])) σ) := by
  refine unroll4 (fun k x y hx hy => ?_) (by simp -implicitDefEqProofs [L24_0, B24_0])
  have hk : k < 4 := (List.getElem?_eq_some_iff.1 hx).1
  have hk' : (k : Int) < 4 := by omega
  have hw := wrap_succ (i := k) (by omega)
  simp only [Int.natCast_add, Int.natCast_one] at hw
  have g0 : ldOSem σ none [.obj 0 k] = some (.int .i64 x, σ) := by
    rw [ld_obj none h0 (by omega)]
    have : ([.int .i64 v0, .int .i64 v1, .int .i64 v2, .int .i64 v3] : List DVal)[k]? = some (.int .i64 x) := by
      have e : ([.int .i64 v0, .int .i64 v1, .int .i64 v2, .int .i64 v3] : List DVal) = ([v0, v1, v2, v3] : List Int).map (.int .i64) := rfl
      rw [e, List.getElem?_map, hx]; rfl
    simp [this]
  have g1 : ldOSem σ none [.obj 1 k] = some (.int .i64 y, σ) := by
    rw [ld_obj none h1 (by omega)]
    have : ([.int .i64 w0, .int .i64 w1, .int .i64 w2, .int .i64 w3] : List DVal)[k]? = some (.int .i64 y) := by
      have e : ([.int .i64 w0, .int .i64 w1, .int .i64 w2, .int .i64 w3] : List DVal) = ([w0, w1, w2, w3] : List Int).map (.int .i64) := rfl
      rw [e, List.getElem?_map, hy]; rfl
    simp [this]
  by_cases c : x = y
  · subst c
    simp -implicitDefEqProofs [L24_0, B24_0, hk', g0, g1, hw]
  · have c' : (x != y) = true := by simpa using c
    simp -implicitDefEqProofs [L24_0, B24_0, hk', g0, g1, c, c']

theorem l25 (m : Nat) (u : DVal) : iterJ 0 (L25_0 (cpJ PR n) (ciJ PR n) n (.obj 0 0) (.obj 1 0)) (m + 5) [.int .i64 ((0 : Nat) : Int), u] σ = some (.done (.bool (ltL [v0, v1, v2, v3] [w0, w1, w2, w3])) σ) := by
  refine unroll4 (fun k x y hx hy => ?_) (by simp -implicitDefEqProofs [L25_0, B25_0])
  have hk : k < 4 := (List.getElem?_eq_some_iff.1 hx).1
  have hk' : (k : Int) < 4 := by omega
  have hw := wrap_succ (i := k) (by omega)
  simp only [Int.natCast_add, Int.natCast_one] at hw
  have g0 : ldOSem σ none [.obj 0 k] = some (.int .i64 x, σ) := by
    rw [ld_obj none h0 (by omega)]
    have : ([.int .i64 v0, .int .i64 v1, .int .i64 v2, .int .i64 v3] : List DVal)[k]? = some (.int .i64 x) := by
      have e : ([.int .i64 v0, .int .i64 v1, .int .i64 v2, .int .i64 v3] : List DVal) = ([v0, v1, v2, v3] : List Int).map (.int .i64) := rfl
      rw [e, List.getElem?_map, hx]; rfl
    simp [this]
  have g1 : ldOSem σ none [.obj 1 k] = some (.int .i64 y, σ) := by
    rw [ld_obj none h1 (by omega)]
    have : ([.int .i64 w0, .int .i64 w1, .int .i64 w2, .int .i64 w3] : List DVal)[k]? = some (.int .i64 y) := by
      have e : ([.int .i64 w0, .int .i64 w1, .int .i64 w2, .int .i64 w3] : List DVal) = ([w0, w1, w2, w3] : List Int).map (.int .i64) := rfl
      rw [e, List.getElem?_map, hy]; rfl
    simp [this]
  by_cases c : x = y
  · subst c
    simp -implicitDefEqProofs [L25_0, B25_0, hk', g0, g1, hw]
  · have c' : (x != y) = true := by simpa using c
    simp -implicitDefEqProofs [L25_0, B25_0, hk', g0, g1, c, c']
end

theorem e24 {n : Nat} (hn : 100100 ≤ n) (a b : Bs) (ha : a.length ≤ 90000) (hb : b.length ≤ 90000) : cpJ PR n 24 [.str a, .str b] = some (.bool (lessV a b)) := by
  obtain ⟨n, rfl⟩ : ∃ m, n = m + 1 := ⟨n - 1, by omega⟩
  have h1 := e31 (n := n) (by omega) a ha
  have h2 := e31 (n := n) (by omega) b hb
  rw [elems_parse] at h1 h2
  rw [u24]
  unfold lessV
  cases c1 : parseV true a with
  | none => rw [c1] at h1; cases c2 : parseV true b <;> rw [c2] at h2 <;> simp only at h1 h2 <;> simp -implicitDefEqProofs [D24, h1, h2]
  | some l =>
    rw [c1] at h1
    cases c2 : parseV true b with
    | none => rw [c2] at h2; simp only at h1 h2; simp -implicitDefEqProofs [D24, h1, h2]
    | some m =>
      rw [c2] at h2
      obtain ⟨-, p1, p2, p3⟩ := parse_len c1
      obtain ⟨-, q1, q2, q3⟩ := parse_len c2
      have h3 := e40 (n := n) (p := a) (by omega) (l := l) (by omega) (fun t ht => by have := p2 t ht; omega) p3 (by omega)
      have h4 := e40 (n := n) (p := b) (by omega) (l := m) (by omega) (fun t ht => by have := q2 t ht; omega) q3 (by omega)
      simp only [quadL, weightV, List.map_cons, List.map_nil] at h3 h4
      obtain ⟨f1, f2, f3, f4⟩ := two4_facts (if l.any specV then 0 else 1) (stemV l).length (a.countP pB) (a.count 63) (if m.any specV then 0 else 1) (stemV m).length (b.countP pB) (b.count 63)
      obtain ⟨q, rfl⟩ : ∃ q, n = q + 5 := ⟨n - 5, by omega⟩
      have h5 := l24 (n := q + 5) (if l.any specV then 0 else 1) (stemV l).length (a.countP pB) (a.count 63) (if m.any specV then 0 else 1) (stemV m).length (b.countP pB) (b.count 63) (h0 := by rw [Sto.put_obj_ne (by decide), Sto.put_obj]) (h1 := Sto.put_obj) (hn := Nat.le_refl 2) (m := q) (u := .bool false)
        (σ := ((two4 0 0 0 0 0 0 0 0).put 0 (quad (if l.any specV then 0 else 1) (stemV l).length (a.countP pB) (a.count 63))).put 1 (quad (if m.any specV then 0 else 1) (stemV m).length (b.countP pB) (b.count 63)))
      simp only [Int.natCast_zero] at h5
      simp only at h1 h2
      simp only [weightV]
      generalize (if l.any specV = true then (0 : Int) else 1) = x0 at *
      generalize (if m.any specV = true then (0 : Int) else 1) = y0 at *
      simp -implicitDefEqProofs [D24, h1, h2, h3, h4, f1, f2, f3, f4, h5]

theorem e25 {n : Nat} (hn : 100100 ≤ n) (a b : Bs) (ha : a.length ≤ 90000) (hb : b.length ≤ 90000) : cpJ PR n 25 [.str a, .str b] = some (.bool (lessV a b)) := by
  obtain ⟨n, rfl⟩ : ∃ m, n = m + 1 := ⟨n - 1, by omega⟩
  have h1 := e17 (n := n) (by omega) a ha
  have h2 := e17 (n := n) (by omega) b hb
  have nz : ∀ {sp : Bool} {x : Bs}, parseV sp x = none → (chkV sp x != 0) = true := fun {sp x} h => by
    have : chkV sp x ≠ 0 := fun e => by obtain ⟨l, hl⟩ := chk_zero.1 e; rw [h] at hl; cases hl
    simpa using this
  rw [u25]
  unfold lessV
  cases c2 : parseV true b with
  | none => cases c1 : parseV true a <;> simp -implicitDefEqProofs [D25, h2, nz c2]
  | some m =>
    rw [chk_zero.2 ⟨m, c2⟩] at h2
    cases c1 : parseV true a with
    | none => simp -implicitDefEqProofs [D25, h1, h2, nz c1]
    | some l =>
      rw [chk_zero.2 ⟨l, c1⟩] at h1
      have h3 := e41' (n := n) (p := a) (by omega) ha c1
      have h4 := e41' (n := n) (p := b) (by omega) hb c2
      simp only [quadL, weightV, List.map_cons, List.map_nil] at h3 h4
      obtain ⟨f1, f2, f3, f4⟩ := two4_facts (if l.any specV then 0 else 1) (stemV l).length (a.countP pB) (a.count 63) (if m.any specV then 0 else 1) (stemV m).length (b.countP pB) (b.count 63)
      obtain ⟨q, rfl⟩ : ∃ q, n = q + 5 := ⟨n - 5, by omega⟩
      have h5 := l25 (n := q + 5) (if l.any specV then 0 else 1) (stemV l).length (a.countP pB) (a.count 63) (if m.any specV then 0 else 1) (stemV m).length (b.countP pB) (b.count 63) (h0 := by rw [Sto.put_obj_ne (by decide), Sto.put_obj]) (h1 := Sto.put_obj) (hn := Nat.le_refl 2) (m := q) (u := .bool false)
        (σ := ((two4 0 0 0 0 0 0 0 0).put 0 (quad (if l.any specV then 0 else 1) (stemV l).length (a.countP pB) (a.count 63))).put 1 (quad (if m.any specV then 0 else 1) (stemV m).length (b.countP pB) (b.count 63)))
      simp only [Int.natCast_zero] at h5
      simp only [weightV]
      generalize (if l.any specV = true then (0 : Int) else 1) = x0 at *
      generalize (if m.any specV = true then (0 : Int) else 1) = y0 at *
      simp -implicitDefEqProofs [D25, h1, h2, h3, h4, f1, f2, f3, f4, h5]

/-- The law of Less. -/
theorem e5 {n : Nat} (hn : 100300 ≤ n) (aw : cpJ PR n 11 [] = some (.bool true)) (a b c : Bs) :
    cpJ PR (n + 1) 5 [.str a, .str b, .str c] = some (.bool true) := by
  have hs := short3 (n := n) (by omega) a b c
  rw [u5]
  cases hsh : shortV [a, b, c] with
  | false =>
    rw [hsh] at hs
    simp -implicitDefEqProofs [D5, hs, aw]
  | true =>
    rw [hsh] at hs
    have hle : a.length ≤ 300 ∧ b.length ≤ 300 ∧ c.length ≤ 300 := by simpa [shortV] using hsh
    have h1 := e24 (n := n) (by omega) a b (by omega) (by omega)
    have h2 := e24 (n := n) (by omega) b c (by omega) (by omega)
    have h3 := e24 (n := n) (by omega) a c (by omega) (by omega)
    have h4 := e25 (n := n) (by omega) a b (by omega) (by omega)
    have h5 := e24 (n := n) (by omega) b a (by omega) (by omega)
    have a1 := less_asymm (a := a) (b := b)
    have a2 := less_trans (a := a) (b := b) (c := c)
    have a3 := less_neg (a := a) (b := b) (c := c)
    generalize lessV a b = x at *
    generalize lessV b c = y at *
    generalize lessV a c = z at *
    generalize lessV b a = w at *
    cases x <;> cases y <;> cases z <;> cases w <;> simp at a1 a2 a3 <;> simp -implicitDefEqProofs [D5, hs, h1, h2, h3, h4, h5, aw]

end Go.Proofs.YtdnoonnanhnkaaaDoor
