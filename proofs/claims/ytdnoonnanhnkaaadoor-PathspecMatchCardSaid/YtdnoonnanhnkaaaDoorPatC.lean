/- What the reference's functions that take texts apart answer, and the stems. -/
import Derived.Test.YtdnoonnanhnkaaaDoorPatB
set_option linter.unusedVariables false
set_option linter.unusedSimpArgs false
set_option maxRecDepth 20000
set_option maxHeartbeats 2000000
namespace Go.Proofs.YtdnoonnanhnkaaaDoor
open Go

def strRows (l : List Bs) : List (List DVal) := l.map fun t => [.str t]
@[simp] theorem strRows_len (l : List Bs) : (strRows l).length = l.length := by simp [strRows]
theorem strRows_snoc (l : List Bs) (t : Bs) : strRows (l ++ [t]) = strRows l ++ [[.str t]] := by simp [strRows]

theorem l36 {n : Nat} (s : Bs) (hs : s.length < 100000) (σ : Sto) : ∀ (k i m fr : Nat) (done : List Bs), i + k = s.length → k + 2 < m → fr ≤ i → done.length ≤ i → 47 ∉ (s.drop fr).take (i - fr) →
    iterJ 0 (L36_0 (cpJ PR n) (ciJ PR n) n (.str s)) m [.int .i64 i, .int .i64 fr, (apd σ 1 (strRows done)).1] (apd σ 1 (strRows done)).2 =
      some (.done (apd σ 1 (strRows (done ++ parts 47 (s.drop fr)))).1 (apd σ 1 (strRows (done ++ parts 47 (s.drop fr)))).2) := by
  intro k
  induction k with
  | zero =>
    intro i m fr done hi hm hfr hdl hno
    obtain ⟨m, rfl⟩ : ∃ q, m = q + 1 + 1 := ⟨m - 2, by omega⟩
    obtain rfl : i = s.length := by omega
    have hw := wrap_succ (i := s.length) (by omega)
    simp only [Int.natCast_add, Int.natCast_one] at hw
    have ha := app_apd (σ := σ) (sz := 1) (own := 1) (es := strRows done) (r := [.str (s.drop fr)]) (by simp; omega)
    have e : (s.drop fr).take (s.length - fr) = s.drop fr := List.take_of_length_le (by simp)
    have hfr' : (fr : Int) ≤ s.length := by omega
    rw [e] at hno
    rw [parts_none hno, strRows_snoc]
    rw [iterJ_next' (vs' := [.int .i64 ((s.length : Int) + 1), .int .i64 ((s.length : Int) + 1), (apd σ 1 (strRows done ++ [[.str (s.drop fr)]])).1]) (σ' := (apd σ 1 (strRows done ++ [[.str (s.drop fr)]])).2)]
    · refine iterJ_done ?_
      have : ¬ ((s.length : Int) + 1 ≤ s.length) := by omega
      simp -implicitDefEqProofs [L36_0, B36_0, this]
    · simp -implicitDefEqProofs [L36_0, B36_0, hfr', e, ha, hw]
  | succ k ih =>
    intro i m fr done hi hm hfr hdl hno
    obtain ⟨m, rfl⟩ : ∃ q, m = q + 1 := ⟨m - 1, by omega⟩
    have hi1 : (i : Int) ≤ s.length := by omega
    have hi2 : ((i : Int) == s.length) = false := beq_eq_false_iff_ne.2 (by omega)
    have hw := wrap_succ (i := i) (by omega)
    simp only [Int.natCast_add, Int.natCast_one] at hw
    obtain ⟨x, hx⟩ := get_some (by omega : i < s.length)
    have hxd : (s.drop fr)[i - fr]? = some x := by rw [List.getElem?_drop, show fr + (i - fr) = i by omega]; exact hx
    by_cases hc : x = 47
    · subst hc
      have ha := app_apd (σ := σ) (sz := 1) (own := 1) (es := strRows done) (r := [.str ((s.drop fr).take (i - fr))]) (by simp; omega)
      have hfr' : (fr : Int) ≤ i := by omega
      have hsplit : s.drop fr = (s.drop fr).take (i - fr) ++ 47 :: s.drop (i + 1) := by
        have h1 := List.take_append_drop (i - fr) (s.drop fr)
        rw [drop_get hxd, List.drop_drop, show fr + (i - fr + 1) = i + 1 by omega] at h1
        exact h1.symm
      have hp : parts 47 (s.drop fr) = (s.drop fr).take (i - fr) :: parts 47 (s.drop (i + 1)) := by
        have := parts_at (s := s.drop (i + 1)) hno
        rwa [← hsplit] at this
      rw [iterJ_next' (vs' := [.int .i64 ((i + 1 : Nat) : Int), .int .i64 ((i + 1 : Nat) : Int), (apd σ 1 (strRows (done ++ [(s.drop fr).take (i - fr)]))).1]) (σ' := (apd σ 1 (strRows (done ++ [(s.drop fr).take (i - fr)]))).2), ih (i + 1) m (i + 1) (done ++ [(s.drop fr).take (i - fr)]) (by omega) (by omega) (Nat.le_refl _) (by simp; omega) (by simp), hp]
      · simp
      · rw [strRows_snoc]
        simp -implicitDefEqProofs [L36_0, B36_0, hi1, hi2, hx, hw, hfr', ha, u8_47]
    · have hc' : (x == 47) = false := by simpa using hc
      rw [iterJ_next' (vs' := [.int .i64 ((i + 1 : Nat) : Int), .int .i64 fr, (apd σ 1 (strRows done)).1]) (σ' := (apd σ 1 (strRows done)).2), ih (i + 1) m fr done (by omega) (by omega) (by omega) (by omega) ?_]
      · rw [show i + 1 - fr = (i - fr) + 1 by omega, take_get hxd]
        simp only [List.mem_append, List.mem_singleton, not_or]
        exact ⟨hno, Ne.symm hc⟩
      · simp -implicitDefEqProofs [L36_0, B36_0, hi1, hi2, hx, hw, u8_47, hc']

/-- What a text's elements are, if it begins with a slash. -/
def splitV (s : Bs) : List Bs := if s = [47] then [] else parts 47 (s.drop 1)

theorem e36 {n : Nat} (hn : 100010 ≤ n) (s : Bs) (hs : s.length < 100000) (h0 : 0 < s.length) : cpJ PR n 36 [.str s] = some (frD 1 (strRows (splitV s))) := by
  obtain ⟨n, rfl⟩ : ∃ m, n = m + 1 := ⟨n - 1, by omega⟩
  rw [u36]
  unfold splitV
  by_cases h1 : s = [47]
  · subst h1
    simp -implicitDefEqProofs [D36, frD, strRows]
  · have h1' : (s == [47]) = false := by simpa using h1
    rw [if_neg h1]
    have h := l36 (n := n) s hs emptySto (s.length - 1) 1 n 1 [] (by omega) (by omega) (Nat.le_refl _) (by simp) (by simp)
    simp only [List.nil_append] at h
    change iterJ 0 _ n [.int .i64 1, .int .i64 1, .nils] emptySto = _ at h
    simp -implicitDefEqProofs [D36, h1', h]

/-- What the caller has of it. -/
theorem splitD (l : List Bs) : slD true 1 (strRows l) = strsD true l := rfl

/-! Elements of the reference -/

/-- From byte i on: are the bytes proper? prev: is the byte before a star? -/
def rest51 (sp : Bool) : Bool → Bs → Bool
  | _, [] => true
  | prev, b :: s => (pB b || (sp && (b == 63 || (b == 42 && !prev)))) && rest51 sp (b == 42) s

theorem l51 {n : Nat} (hn : 5 ≤ n) (t : Bs) (ht : t.length < 100000) (sp : Bool) (u : DVal) (σ : Sto) : ∀ (k i m : Nat) (prev : Bool), i + k = t.length → k < m → (prev = match i with | 0 => false | j + 1 => t.getD j 0 == 42) →
    iterJ 0 (L51_0 (cpJ PR n) (ciJ PR n) n (.str t) (.bool sp)) m [.int .i64 i, u] σ = some (.done (.bool (rest51 sp prev (t.drop i) && decide (0 < t.length))) σ) := by
  intro k
  induction k with
  | zero =>
    intro i m prev hi hm hp
    obtain ⟨m, rfl⟩ : ∃ q, m = q + 1 := ⟨m - 1, by omega⟩
    have hi' : ¬ ((i : Int) < t.length) := by omega
    rw [List.drop_eq_nil_of_le (by omega)]
    refine iterJ_done ?_
    have : decide ((0 : Int) < t.length) = decide (0 < t.length) := by rw [decide_eq_decide]; omega
    simp -implicitDefEqProofs only [rest51, Bool.true_and, ← this]
    simp -implicitDefEqProofs [L51_0, B51_0, hi']
  | succ k ih =>
    intro i m prev hi hm hp
    obtain ⟨m, rfl⟩ : ∃ q, m = q + 1 := ⟨m - 1, by omega⟩
    have hi' : ((i : Int) < t.length) := by omega
    have hw := wrap_succ (i := i) (by omega)
    simp only [Int.natCast_add, Int.natCast_one] at hw
    obtain ⟨x, hx⟩ := get_some (by omega : i < t.length)
    have hb := e54 (n := n) (by omega) x
    have hxg : t.getD i 0 = x := by simp [List.getD_eq_getElem?_getD, hx]
    have hrec := ih (i + 1) m (x == 42) (by omega) (by omega) (by simp only [hxg])
    rw [drop_get hx]
    simp only [rest51]
    -- the star's condition
    have key : ∀ r, (r = (pB x || (sp && (x == 63 || (x == 42 && !prev))))) → L51_0 (cpJ PR n) (ciJ PR n) n (.str t) (.bool sp) [.int .i64 i, u] σ =
        if r then some (.next 0 [.int .i64 ((i + 1 : Nat) : Int), u] σ) else some (.done (.bool false) σ) := by
      rintro r rfl
      cases i with
      | zero =>
        subst hp
        simp only [Int.natCast_zero, Int.zero_add] at hi' hw
        obtain ⟨t', rfl⟩ : ∃ t', t = x :: t' := by
          cases t with
          | nil => simp at hx
          | cons a t' => simp at hx; exact ⟨t', by rw [hx]⟩
        have hpos : (0 : Int) < (t'.length : Int) + 1 := by omega
        cases hpb : pB x <;> rw [hpb] at hb <;> cases h42 : (x == 42) <;> cases h63 : (x == 63) <;> cases sp <;> simp -implicitDefEqProofs [L51_0, B51_0, hpos, hx, hb, u8_42, u8_63, h42, h63, hw]
      | succ j =>
        obtain ⟨y, hy⟩ := get_some (by omega : j < t.length)
        have hyg : t.getD j 0 = y := by simp [List.getD_eq_getElem?_getD, hy]
        simp only [hyg] at hp
        subst hp
        have hpj : IntKind.i64.wrap (j : Int) = j := wrap_i64 (by omega) (by omega)
        have hj0 : (((j : Int) + 1) == 0) = false := beq_eq_false_iff_ne.2 (by omega)
        simp only [Int.natCast_add, Int.natCast_one] at hi' hw
        have n42 : ((y.toNat : Int) != 42) = (y != 42) := by simp only [bne, u8_42]
        cases hpb : pB x <;> rw [hpb] at hb <;> cases h42 : (x == 42) <;> cases h63 : (x == 63) <;> cases sp <;> cases hy42 : (y == 42) <;> simp -implicitDefEqProofs [L51_0, B51_0, hi', hx, hy, hb, u8_42, u8_63, h42, h63, hw, hpj, hj0, bne, hy42]
    cases hr : (pB x || (sp && (x == 63 || (x == 42 && !prev)))) with
    | true =>
      have := key true hr.symm
      rw [iterJ_next' (by rw [this]; rfl), hrec]
      rw [Bool.true_and]
    | false =>
      have := key false hr.symm
      rw [iterJ_done (by rw [this]; rfl)]
      rw [Bool.false_and, Bool.false_and]

theorem e51 {n : Nat} (hn : 100010 ≤ n) (t : Bs) (ht : t.length < 100000) (sp : Bool) : cpJ PR n 51 [.str t, .bool sp] = some (.bool ((sp && t == [42, 42]) || (rest51 sp false t && decide (0 < t.length)))) := by
  obtain ⟨n, rfl⟩ : ∃ m, n = m + 1 := ⟨n - 1, by omega⟩
  rw [u51]
  have h := l51 (n := n) (by omega) t ht sp (.bool false) emptySto t.length 0 n false (by omega) (by omega) rfl
  simp only [Int.natCast_zero, List.drop_zero] at h
  cases sp with
  | false => simp -implicitDefEqProofs [D51, h]
  | true =>
    cases h2 : (t == [42, 42]) <;> simp -implicitDefEqProofs [D51, h, h2]

theorem rest_false (prev : Bool) : ∀ t : Bs, rest51 false prev t = t.all pB
  | [] => rfl
  | b :: t => by simp [rest51, rest_false (b == 42) t]

theorem pB_42 : pB 42 = false := by decide
theorem rest_true : ∀ (t : Bs) (prev : Bool), rest51 true prev t = (!(prev && (t.head? == some 42)) && !twice 42 t && t.all eltB)
  | [], prev => by simp [rest51, twice]
  | [b], prev => by
    by_cases h : b = 42
    · subst h
      cases prev <;> simp [rest51, twice, eltB, pB_42]
    · have h' : (b == 42) = false := by simpa using h
      cases prev <;> cases hp : pB b <;> cases h3 : (b == 63) <;> simp [rest51, twice, eltB, h', hp, h3]
  | b :: c :: t, prev => by
    have ih := rest_true (c :: t) (b == 42)
    rw [rest51, ih, List.all_cons, twice]
    simp only [List.head?_cons]
    by_cases h : b = 42
    · subst h
      cases prev <;> cases hc : (c == 42) <;> simp [eltB, pB_42, hc]
    · have h' : (b == 42) = false := by simpa using h
      cases prev <;> cases hp : pB b <;> cases h3 : (b == 63) <;> cases hc : (c == 42) <;> simp [eltB, h', hp, h3, hc]

theorem elt_ref (t : Bs) : ((true && t == [42, 42]) || (rest51 true false t && decide (0 < t.length))) = eltOk t := by
  rw [rest_true]
  unfold eltOk
  have : decide (0 < t.length) = !t.isEmpty := by cases t <;> simp
  rw [this]
  have e : (fun b => pB b || b == 63 || b == 42) = eltB := rfl
  rw [e]
  cases (t == [42, 42]) <;> cases t.isEmpty <;> cases twice 42 t <;> simp

theorem name_ref (t : Bs) : ((false && t == [42, 42]) || (rest51 false false t && decide (0 < t.length))) = nameOk t := by
  rw [rest_false]
  unfold nameOk
  have : decide (0 < t.length) = !t.isEmpty := by cases t <;> simp
  rw [this]
  cases t.isEmpty <;> simp

def okOf (sp : Bool) : Bs → Bool := if sp then eltOk else nameOk

theorem e51' {n : Nat} (hn : 100010 ≤ n) (t : Bs) (ht : t.length < 100000) (sp : Bool) : cpJ PR n 51 [.str t, .bool sp] = some (.bool (okOf sp t)) := by
  rw [e51 hn t ht sp]
  cases sp
  · rw [name_ref]; rfl
  · rw [elt_ref]; rfl

/-! The errors of texts -/

def parseV (sp : Bool) (s : Bs) : Option (List Bs) := (divV s).bind fun l => if l.all (okOf sp) then some l else none
theorem elems_parse (s : Bs) : elemsV s = parseV true s := rfl
theorem names_parse (s : Bs) : namesV s = parseV false s := rfl

/-- The error of a pattern (sp) or of a path. -/
def chkV (sp : Bool) (s : Bs) : Int := if 256 < s.length then 4 else if (parseV sp s).isSome then 0 else 9

theorem chk_zero {sp : Bool} {s : Bs} : chkV sp s = 0 ↔ ∃ l, parseV sp s = some l := by
  unfold chkV
  constructor
  · intro h
    split at h
    · cases h
    · split at h
      · rename_i h'; exact Option.isSome_iff_exists.1 h'
      · cases h
  · rintro ⟨l, hl⟩
    have hle : s.length ≤ 256 := by
      unfold parseV at hl
      cases hd : divV s with
      | none => rw [hd] at hl; cases hl
      | some l' =>
        unfold divV at hd
        split at hd
        · rename_i h; subst h; simp
        · split at hd
          · split at hd
            · rename_i h; exact h.2
            · cases hd
          · cases hd
    rw [if_neg (by omega), hl]
    rfl

theorem e32 {n : Nat} (hn : 1 ≤ n) (s : Bs) (ok : Bool) : cpJ PR n 32 [.str s, .bool ok] = some (.int .i64 (if 256 < s.length then 4 else if ok then 0 else 9)) := by
  obtain ⟨n, rfl⟩ : ∃ m, n = m + 1 := ⟨n - 1, by omega⟩
  rw [u32]
  by_cases h : 256 < s.length
  · have h' : (256 : Int) < s.length := by omega
    simp -implicitDefEqProofs [D32, h, h']
  · have h' : ¬ (256 : Int) < s.length := by omega
    cases ok <;> simp -implicitDefEqProofs [D32, h, h']

theorem e16 {n : Nat} (hn : 100030 ≤ n) (s : Bs) (hs : s.length ≤ 90000) : cpJ PR n 16 [.str s] = some (.int .i64 (chkV true s)) := by
  obtain ⟨n, rfl⟩ : ∃ m, n = m + 1 := ⟨n - 1, by omega⟩
  have h1 := e31 (n := n) (by omega) s hs
  rw [elems_parse] at h1
  rw [u16]
  unfold chkV
  cases h : parseV true s with
  | none =>
    rw [h] at h1
    have h2 := e32 (n := n) (by omega) s false
    simp only at h1
    simp -implicitDefEqProofs [D16, h1, h2]
  | some l =>
    rw [h] at h1
    have h2 := e32 (n := n) (by omega) s true
    simp only at h1
    simp -implicitDefEqProofs [D16, h1, h2]

theorem e18 {n : Nat} (hn : 100030 ≤ n) (s : Bs) (hs : s.length ≤ 90000) : cpJ PR n 18 [.str s] = some (.int .i64 (chkV false s)) := by
  obtain ⟨n, rfl⟩ : ∃ m, n = m + 1 := ⟨n - 1, by omega⟩
  have h1 := e34 (n := n) (by omega) s hs
  rw [names_parse] at h1
  rw [u18]
  unfold chkV
  cases h : parseV false s with
  | none =>
    rw [h] at h1
    have h2 := e32 (n := n) (by omega) s false
    simp only at h1
    simp -implicitDefEqProofs [D18, h1, h2]
  | some l =>
    rw [h] at h1
    have h2 := e32 (n := n) (by omega) s true
    simp only at h1
    simp -implicitDefEqProofs [D18, h1, h2]

theorem l33 {n : Nat} (hn : 100010 ≤ n) (sp : Bool) (l : List Bs) (hl : l.length < 100000) (hs : ∀ t ∈ l, t.length < 100000) (u : DVal) (σ : Sto) : ∀ (k i m : Nat), i + k = l.length → k < m →
    iterJ 0 (L33_0 (cpJ PR n) (ciJ PR n) n (.bool sp) (strsD true l)) m [.int .i64 i, u] σ = some (.done (.int .i64 (if (l.drop i).all (okOf sp) then 0 else 9)) σ) := by
  intro k
  induction k with
  | zero =>
    intro i m hi hm
    obtain ⟨m, rfl⟩ : ∃ q, m = q + 1 := ⟨m - 1, by omega⟩
    have hi' : ¬ ((i : Int) < l.length) := by omega
    rw [List.drop_eq_nil_of_le (by omega)]
    refine iterJ_done ?_
    simp -implicitDefEqProofs [L33_0, B33_0, hi']
  | succ k ih =>
    intro i m hi hm
    obtain ⟨m, rfl⟩ : ∃ q, m = q + 1 := ⟨m - 1, by omega⟩
    have hi' : ((i : Int) < l.length) := by omega
    have hw := wrap_succ (i := i) (by omega)
    simp only [Int.natCast_add, Int.natCast_one] at hw
    obtain ⟨x, hx⟩ := get_some (by omega : i < l.length)
    have he := e51' (n := n) (by omega) x (hs x (List.mem_of_getElem? hx)) sp
    rw [drop_get hx, List.all_cons]
    cases hok : okOf sp x with
    | true =>
      rw [hok] at he
      rw [iterJ_next' (vs' := [.int .i64 ((i + 1 : Nat) : Int), u]) (σ' := σ) (by simp -implicitDefEqProofs [L33_0, B33_0, hi', hx, he, hw]), ih (i + 1) m (by omega) (by omega), Bool.true_and]
    | false =>
      rw [hok] at he
      refine iterJ_done ?_
      simp -implicitDefEqProofs [L33_0, B33_0, hi', hx, he]

theorem parts_slash {r : Bs} (h : r.length + 1 ≤ 256) : divV (47 :: r) = some (splitV (47 :: r)) := by
  unfold divV splitV
  by_cases h1 : (47 :: r : Bs) = [47]
  · rw [if_pos h1, if_pos h1]
  · rw [if_neg h1, if_neg h1]
    simp [h]

theorem e33 {n : Nat} (hn : 100030 ≤ n) (sp : Bool) (s : Bs) (hs : s.length ≤ 90000) : cpJ PR n 33 [.str s, .bool sp] = some (.int .i64 (chkV sp s)) := by
  obtain ⟨n, rfl⟩ : ∃ m, n = m + 1 := ⟨n - 1, by omega⟩
  rw [u33]
  unfold chkV
  by_cases h : 256 < s.length
  · have h' : (256 : Int) < s.length := by omega
    simp -implicitDefEqProofs [D33, h, h']
  · have h' : ¬ (256 : Int) < s.length := by omega
    rw [if_neg h]
    cases s with
    | nil => simp -implicitDefEqProofs [D33, parseV, divV]
    | cons b r =>
      by_cases hb : b = 47
      · subst hb
        simp only [List.length_cons, Int.natCast_add, Int.natCast_one] at h h'
        have h36 := e36 (n := n) (by omega) (47 :: r) (by simp; omega) (by simp)
        have hd := parts_slash (r := r) (by omega)
        have hlen := divV_len hd
        simp only [List.length_cons] at hlen
        have hl := l33 (n := n) (by omega) sp (splitV (47 :: r)) (by omega) (fun t ht => by have := hlen.2 t ht; omega) (.int .i64 0) emptySto (splitV (47 :: r)).length 0 n (by omega) (by omega)
        simp only [Int.natCast_zero, List.drop_zero] at hl
        have hp : parseV sp (47 :: r) = if (splitV (47 :: r)).all (okOf sp) then some (splitV (47 :: r)) else none := by
          unfold parseV
          rw [hd]
          rfl
        have hv : (if (parseV sp (47 :: r)).isSome = true then (0 : Int) else 9) = if (splitV (47 :: r)).all (okOf sp) then 0 else 9 := by
          rw [hp]
          cases (splitV (47 :: r)).all (okOf sp) <;> rfl
        rw [hv]
        have hbig : ¬ (256 : Int) < (r.length : Int) + 1 := h'
        simp -implicitDefEqProofs [D33, hbig, h36, splitD, hl]
      · have hb' : (b == 47) = false := by simpa using hb
        have hbig : ¬ (256 : Int) < (r.length : Int) + 1 := by simpa using h'
        have hp : parseV sp (b :: r) = none := by
          unfold parseV divV
          have : ¬ (b :: r : Bs) = [47] := fun e => by simp at e; exact hb e.1
          rw [if_neg this]
          simp [hb]
        rw [hp]
        simp -implicitDefEqProofs [D33, hbig, bne, u8_47, hb']

theorem e17 {n : Nat} (hn : 100040 ≤ n) (s : Bs) (hs : s.length ≤ 90000) : cpJ PR n 17 [.str s] = some (.int .i64 (chkV true s)) := by
  obtain ⟨n, rfl⟩ : ∃ m, n = m + 1 := ⟨n - 1, by omega⟩
  have h := e33 (n := n) (by omega) true s hs
  rw [u17]
  simp -implicitDefEqProofs [D17, h]

theorem e19 {n : Nat} (hn : 100040 ≤ n) (s : Bs) (hs : s.length ≤ 90000) : cpJ PR n 19 [.str s] = some (.int .i64 (chkV false s)) := by
  obtain ⟨n, rfl⟩ : ∃ m, n = m + 1 := ⟨n - 1, by omega⟩
  have h := e33 (n := n) (by omega) false s hs
  rw [u19]
  simp -implicitDefEqProofs [D19, h]

end Go.Proofs.YtdnoonnanhnkaaaDoor
