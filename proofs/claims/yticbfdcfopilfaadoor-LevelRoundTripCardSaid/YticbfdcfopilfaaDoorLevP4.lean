/- Parse of the program and of the reference, and the law about them. -/
import Derived.Test.YticbfdcfopilfaaDoorLevP3
set_option linter.unusedVariables false
set_option linter.unusedSimpArgs false
set_option maxRecDepth 20000
set_option maxHeartbeats 4000000
namespace Go.Proofs.YticbfdcfopilfaaDoor
open Go

abbrev LTp := Bs × List Sp

def readP (s : Bs) : Option (LTp × LTp) :=
  match parsedP (Lib.cut s [45]).1 with
  | none => none
  | some l => if (Lib.cut s [45]).2.2 = true then (match parsedP (Lib.cut s [45]).2.1 with | none => none | some h => some (l, h)) else some (l, ([], []))

def readR (s : Bs) : Option (LTp × LTp) :=
  match levelR 3000 s with
  | none => none
  | some (l, []) => some (l, ([], []))
  | some (l, c :: r) => if c = 45 then (match levelR 3000 r with | none => none | some (h, rest) => if rest = [] then some (l, h) else none) else none

theorem dash_part {p : Bs × Bs} (h : ValidSp p) : (45 : UInt8) ∉ partS p := by
  obtain ⟨f, t⟩ := p
  obtain ⟨h1, h2⟩ := h
  have hf : (45 : UInt8) ∉ f := not_mem_word (wordP_iff.1 h1).1 isL_sp.2.2.2
  unfold partS
  split
  · exact hf
  · rename_i ht
    rcases h2 with h2 | h2
    · exact absurd h2 ht
    · have ht' : (45 : UInt8) ∉ t := not_mem_word (wordP_iff.1 h2).1 isL_sp.2.2.2
      simp only at ht' ⊢
      simp [hf, ht']

theorem dash_sp : ∀ (sp : List Sp) (first : Bool), (∀ p ∈ sp, ValidSp p) → (45 : UInt8) ∉ renderSp first sp
  | [], first, _ => by simp [renderSp]
  | p :: r, first, h => by
    have h1 := dash_part (h p (by simp))
    have h2 := dash_sp r false fun q hq => h q (by simp [hq])
    cases first <;> simp [renderSp, sepB, h1, h2]

theorem dash_render {l : LTp} (h : ValidL l) : (45 : UInt8) ∉ renderL l := by
  rw [renderL_sp, List.mem_append]
  rintro (h1 | h1)
  · exact not_mem_word (wordP_iff.1 h.1).1 isL_sp.2.2.2 h1
  · exact dash_sp _ _ h.2 h1

theorem render_len : ∀ (sp : List Sp) (first : Bool), sp.length ≤ (renderSp first sp).length
  | [], _ => by simp
  | p :: r, first => by
    have := render_len r false
    simp only [renderSp, List.length_cons, List.length_append]; omega

theorem spans_few {l : LTp} {s rest : Bs} (h : s = renderL l ++ rest) : l.2.length ≤ s.length := by
  rw [h, renderL_sp]
  have := render_len l.2 true
  simp only [List.length_append]; omega

theorem read_eq (s : Bs) (hs : s.length ≤ 2000) : readP s = readR s := by
  have key : ∀ x, readP s = some x → readR s = some x := by
    intro x h
    unfold readP at h
    rcases cut_exists 45 s with hm | ⟨a, b, rfl, hm⟩
    · rw [cut_miss hm] at h
      simp only [Bool.false_eq_true, if_false] at h
      split at h
      · cases h
      · rename_i l hl
        simp only [Option.some.injEq] at h
        subst h
        obtain ⟨h1, h2⟩ := parsedP_sound hl
        have h1' : s = renderL l ++ [] := by rw [List.append_nil]; exact h1
        have := levelR_complete (k := 3000) (rest := []) (l := l) (.inl rfl) (by have := spans_few h1'; omega) h2
        rw [← h1'] at this
        unfold readR
        rw [this]
    · rw [cut_hit hm] at h
      simp only [if_true] at h
      split at h
      · cases h
      · rename_i l hl
        split at h
        · cases h
        · rename_i g hg
          simp only [Option.some.injEq] at h
          subst h
          obtain ⟨h1, h2⟩ := parsedP_sound hl
          obtain ⟨g1, g2⟩ := parsedP_sound hg
          have e1 : a ++ 45 :: b = renderL l ++ 45 :: b := by rw [← h1]
          have e2 : b = renderL g ++ [] := by rw [List.append_nil]; exact g1
          have hb : b.length ≤ 2000 := by simp at hs; omega
          have r1 := levelR_complete (k := 3000) (rest := 45 :: b) (l := l) (.inr ⟨b, rfl⟩) (by have := spans_few e1; omega) h2
          have r2 := levelR_complete (k := 3000) (rest := []) (l := g) (.inl rfl) (by have := spans_few e2; omega) g2
          rw [← e1] at r1
          rw [← e2] at r2
          unfold readR
          rw [r1]
          simp only [if_true, r2]
  have back : ∀ x, readR s = some x → readP s = some x := by
    intro x h
    unfold readR at h
    split at h
    · cases h
    · rename_i l hl
      simp only [Option.some.injEq] at h
      subst h
      obtain ⟨h1, h2⟩ := levelR_sound hl
      rw [List.append_nil] at h1
      have hm : (45 : UInt8) ∉ s := by rw [h1]; exact dash_render h2
      have := parsedP_complete h2
      rw [← h1] at this
      unfold readP
      rw [cut_miss hm]
      simp only [this, Bool.false_eq_true, if_false]
    · rename_i l c r hl
      split at h
      · rename_i hc
        subst hc
        split at h
        · cases h
        · rename_i g rest hg
          split at h
          · rename_i hr
            subst hr
            simp only [Option.some.injEq] at h
            subst h
            obtain ⟨h1, h2⟩ := levelR_sound hl
            obtain ⟨g1, g2⟩ := levelR_sound hg
            rw [List.append_nil] at g1
            have hm := dash_render h2
            have p1 := parsedP_complete h2
            have p2 := parsedP_complete g2
            rw [← g1] at p2
            unfold readP
            rw [h1, cut_hit hm]
            simp only [p1, p2, if_true]
          · cases h
      · cases h
  cases hP : readP s with
  | some x => rw [key x hP]
  | none =>
    cases hR : readR s with
    | none => rfl
    | some x => rw [back x hR] at hP; cases hP

theorem readP_few {s : Bs} (hs : s.length ≤ 1000) {l h : LTp} (e : readP s = some (l, h)) : l.2.length ≤ 1000 ∧ h.2.length ≤ 1000 := by
  unfold readP at e
  have hl := cut_len s 45
  split at e
  · cases e
  · rename_i l' h1
    have a1 := (parsedP_sound h1).1
    have b1 : l'.2.length ≤ 1000 := by
      have := spans_few (l := l') (s := (Lib.cut s [45]).1) (rest := []) (by rw [List.append_nil]; exact a1)
      omega
    split at e
    · split at e
      · cases e
      · rename_i g h2
        simp only [Option.some.injEq, Prod.mk.injEq] at e
        obtain ⟨rfl, rfl⟩ := e
        have a2 := (parsedP_sound h2).1
        have := spans_few (l := g) (s := (Lib.cut s [45]).2.1) (rest := []) (by rw [List.append_nil]; exact a2)
        exact ⟨b1, by omega⟩
    · simp only [Option.some.injEq, Prod.mk.injEq] at e
      obtain ⟨rfl, rfl⟩ := e
      exact ⟨b1, by simp⟩

/-- A range as it stands in a source, as an argument. -/
abbrev rtA (l h : LTp) : DVal := .agg [.str l.1, spD true l.2, .str h.1, spD true h.2]

section
variable {n : Nat} (hn : 20200 ≤ n) (z z' : Bool) {sens cats : List (List UInt8)} (hf : Few sens cats) (s : Bs) (hs : s.length ≤ 1000)
include hn hf hs

omit hs in
theorem e26_prop (hP : propV sens cats = false) : cpJ PR n 26 [.str s, strsD z sens, strsD z' cats] = some (rgE 0 0 0 0 2) := by
  obtain ⟨n, rfl⟩ : ∃ m, n = m + 1 := ⟨n - 1, by omega⟩
  have h1 := p46 (n := n) z z' hf (by omega)
  rw [hP] at h1
  rw [u26]
  simp -implicitDefEqProofs [D26, h1]

theorem e26_none (hP : propV sens cats = true) (hr : readP s = none) : cpJ PR n 26 [.str s, strsD z sens, strsD z' cats] = some (rgE 0 0 0 0 9) := by
  obtain ⟨n, rfl⟩ : ∃ m, n = m + 1 := ⟨n - 1, by omega⟩
  have h1 := p46 (n := n) z z' hf (by omega)
  rw [hP] at h1
  have h2 := e47 (n := n) (by omega) s (by omega) 45
  have hl := cut_len s 45
  have h3 := e48 (n := n) (Lib.cut s [45]).1 (by omega) (by omega)
  have h4 := e48 (n := n) (Lib.cut s [45]).2.1 (by omega) (by omega)
  unfold readP at hr
  rw [u26]
  generalize (Lib.cut s [45]).1 = a at h2 h3 hr
  generalize (Lib.cut s [45]).2.1 = b at h2 h4 hr
  generalize (Lib.cut s [45]).2.2 = q at h2 hr
  rcases h3 with ⟨l, p1, p2⟩ | ⟨p1, nm0, rows, p2⟩
  · rw [p1] at hr
    simp only at hr
    cases q with
    | false => simp at hr
    | true =>
      simp only [if_true] at hr
      rcases h4 with ⟨g, g1, g2⟩ | ⟨g1, nm1, rows1, g2⟩
      · rw [g1] at hr; simp at hr
      · simp -implicitDefEqProofs [D26, h1, h2, p2, g2]
  · simp -implicitDefEqProofs [D26, h1, h2, p2]

theorem e26_some (hP : propV sens cats = true) {l h : LTp} (hr : readP s = some (l, h)) {t t' : Int} {d d' : Nat} {f : Int} (h31 : cpJ PR (n - 1) 31 [rtA l h, strsD z sens, strsD z' cats] = some (rgE t d t' d' f)) :
    cpJ PR n 26 [.str s, strsD z sens, strsD z' cats] = some (rgE t d t' d' f) := by
  obtain ⟨n, rfl⟩ : ∃ m, n = m + 1 := ⟨n - 1, by omega⟩
  have h1 := p46 (n := n) z z' hf (by omega)
  rw [hP] at h1
  have h2 := e47 (n := n) (by omega) s (by omega) 45
  have hl := cut_len s 45
  have h3 := e48 (n := n) (Lib.cut s [45]).1 (by omega) (by omega)
  have h4 := e48 (n := n) (Lib.cut s [45]).2.1 (by omega) (by omega)
  unfold readP at hr
  rw [u26]
  simp only [Nat.add_sub_cancel] at h31
  generalize (Lib.cut s [45]).1 = a at h2 h3 hr
  generalize (Lib.cut s [45]).2.1 = b at h2 h4 hr
  generalize (Lib.cut s [45]).2.2 = q at h2 hr
  rcases h3 with ⟨l', p1, p2⟩ | ⟨p1, nm0, rows, p2⟩
  · rw [p1] at hr
    simp only at hr
    change _ = some (DVal.tup [.agg [.str l'.1, spD true l'.2], .bool true]) at p2
    cases q with
    | false =>
      simp only [Bool.false_eq_true, if_false, Option.some.injEq, Prod.mk.injEq] at hr
      obtain ⟨rfl, rfl⟩ := hr
      simp only [rtA, spD, List.map_nil, slD_nil] at h31
      simp -implicitDefEqProofs [D26, L26_0, J26_0, h1, h2, p2, h31]
    | true =>
      simp only [if_true] at hr
      rcases h4 with ⟨g, g1, g2⟩ | ⟨g1, nm1, rows1, g2⟩
      · rw [g1] at hr
        simp only [Option.some.injEq, Prod.mk.injEq] at hr
        obtain ⟨rfl, rfl⟩ := hr
        change _ = some (DVal.tup [.agg [.str g.1, spD true g.2], .bool true]) at g2
        simp only [rtA] at h31
        simp -implicitDefEqProofs [D26, L26_0, J26_0, h1, h2, p2, g2, h31]
      · rw [g1] at hr; simp at hr
  · rw [p1] at hr; simp at hr
end

/-- Read. -/
theorem e50 {n : Nat} (hn : 5000 ≤ n) (s : Bs) (hs : s.length ≤ 1000) :
    (∃ l h, readR s = some (l, h) ∧ cpJ PR n 50 [.str s] = some (.tup [rtA l h, .bool true])) ∨
    (readR s = none ∧ ∃ n1 r1 n2 r2, cpJ PR n 50 [.str s] = some (.tup [rtD n1 r1 n2 r2, .bool false])) := by
  obtain ⟨n, rfl⟩ : ∃ m, n = m + 1 := ⟨n - 1, by omega⟩
  have h0 := e64 (n := n) (by omega) s (by omega) 0 (Nat.zero_le _)
  simp only [Int.natCast_zero, List.drop_zero] at h0
  rw [u50]
  unfold readR
  rcases h0 with ⟨l, rest, r1, r2, r3, r4⟩ | ⟨r1, nm0, rows, k, r4⟩
  · rw [r1]
    change _ = some (DVal.tup [.agg [.str l.1, spD true l.2], .int .i64 ((s.length - rest.length : Nat) : Int), .bool true]) at r4
    obtain ⟨i, hi⟩ : ∃ i, i = s.length - rest.length := ⟨_, rfl⟩
    rw [← hi] at r3 r4
    cases rest with
    | nil =>
      have e1 : ((i : Int) == (s.length : Int)) = true := by simp at hi; simp [hi]
      refine .inl ⟨l, ([], []), rfl, ?_⟩
      simp only [rtA, spD, List.map_nil, slD_nil]
      simp only [spD] at r4
      simp -implicitDefEqProofs [D50, r4, e1]
    | cons c r =>
      have hlen : r.length + 1 ≤ s.length := by simpa using r2
      have hi' : i = s.length - (r.length + 1) := by simpa using hi
      have e1 : ((i : Int) == (s.length : Int)) = false := by simp; omega
      have hc : s[i]? = some c := by
        have : (s.drop i)[0]? = some c := by rw [r3]; rfl
        simpa using this
      have hd : s.drop (i + 1) = r := by
        have := drop_get hc
        rw [r3] at this
        exact (List.cons.inj this).2.symm
      have dq := u8_eq c 45
      have tq : (((45 : UInt8).toNat : Nat) : Int) = 45 := by decide
      rw [tq] at dq
      by_cases h45 : c = 45
      · subst h45
        obtain ⟨i1, hi1, hw⟩ : ∃ k1 : Nat, k1 = i + 1 ∧ IntKind.i64.wrap ((i : Int) + 1) = (k1 : Int) := ⟨i + 1, rfl, by rw [wrap_i64 (by omega) (by omega)]; rfl⟩
        have h1 := e64 (n := n) (by omega) s (by omega) i1 (by omega)
        rw [hi1, hd, ← hi1] at h1
        simp only [if_true]
        rcases h1 with ⟨g, rest2, t1, t2, t3, t4⟩ | ⟨t1, nm1, rows1, k1, t4⟩
        · rw [t1]
          simp only
          change _ = some (DVal.tup [.agg [.str g.1, spD true g.2], .int .i64 ((s.length - rest2.length : Nat) : Int), .bool true]) at t4
          by_cases hr2 : rest2 = []
          · subst hr2
            have e2 : ((s.length - ([] : Bs).length : Nat) : Int) = s.length := by simp
            rw [e2] at t4
            refine .inl ⟨l, g, by simp, ?_⟩
            simp only [rtA]
            simp only [spD] at r4 t4 ⊢
            simp -implicitDefEqProofs [D50, r4, e1, hc, hw, t4]
          · obtain ⟨j, hj⟩ : ∃ j, j = s.length - rest2.length := ⟨_, rfl⟩
            rw [← hj] at t4
            have hpos : 0 < rest2.length := List.length_pos_iff.2 hr2
            have e2 : ((j : Int) == (s.length : Int)) = false := by simp; omega
            refine .inr ⟨by simp [hr2], l.1, l.2.map spRow, g.1, g.2.map spRow, ?_⟩
            change _ = some (DVal.tup [.agg [.str l.1, spD true l.2, .str g.1, spD true g.2], .bool false])
            simp only [spD] at r4 t4 ⊢
            simp -implicitDefEqProofs [D50, r4, e1, hc, hw, t4, e2]
        · rw [t1]
          refine .inr ⟨rfl, l.1, l.2.map spRow, nm1, rows1, ?_⟩
          change _ = some (DVal.tup [.agg [.str l.1, spD true l.2, .str nm1, slD true 2 rows1], .bool false])
          simp only [spD] at r4 ⊢
          simp -implicitDefEqProofs [D50, r4, e1, hc, hw, t4]
      · have dq' : ((c.toNat : Int) == 45) = false := by rw [dq]; simp [h45]
        have dq2 : ¬ ((c.toNat : Int) = 45) := by simpa using dq'
        refine .inr ⟨by simp [h45], [], [], [], [], ?_⟩
        simp only [spD] at r4
        simp -implicitDefEqProofs [D50, r4, e1, hc, dq', dq2, slD_nil]
  · rw [r1]
    refine .inr ⟨rfl, nm0, rows, [], [], ?_⟩
    simp -implicitDefEqProofs [D50, r4, slD_nil]

section
variable {n : Nat} (hn : 20200 ≤ n) (z z' : Bool) {sens cats : List (List UInt8)} (hf : Few sens cats) (s : Bs) (hs : s.length ≤ 1000)
include hn hf hs

omit hs in
theorem e27_prop (hP : propV sens cats = false) : cpJ PR n 27 [.str s, strsD z sens, strsD z' cats] = some (rgE 0 0 0 0 2) := by
  obtain ⟨n, rfl⟩ : ∃ m, n = m + 1 := ⟨n - 1, by omega⟩
  have h1 := p49 (n := n) z z' hf (by omega)
  rw [hP] at h1
  rw [u27]
  simp -implicitDefEqProofs [D27, h1]

theorem e27_none (hP : propV sens cats = true) (hr : readR s = none) : cpJ PR n 27 [.str s, strsD z sens, strsD z' cats] = some (rgE 0 0 0 0 9) := by
  obtain ⟨n, rfl⟩ : ∃ m, n = m + 1 := ⟨n - 1, by omega⟩
  have h1 := p49 (n := n) z z' hf (by omega)
  rw [hP] at h1
  rw [u27]
  rcases e50 (n := n) (by omega) s hs with ⟨l, h, r1, r2⟩ | ⟨r1, n1, r1', n2, r2', r2⟩
  · rw [hr] at r1; cases r1
  · simp -implicitDefEqProofs [D27, h1, r2]

theorem e27_some (hP : propV sens cats = true) {l h : LTp} (hr : readR s = some (l, h)) {t t' : Int} {d d' : Nat} {f : Int} (h32 : cpJ PR (n - 1) 32 [rtA l h, strsD z sens, strsD z' cats] = some (rgE t d t' d' f)) :
    cpJ PR n 27 [.str s, strsD z sens, strsD z' cats] = some (rgE t d t' d' f) := by
  obtain ⟨n, rfl⟩ : ∃ m, n = m + 1 := ⟨n - 1, by omega⟩
  have h1 := p49 (n := n) z z' hf (by omega)
  rw [hP] at h1
  rw [u27]
  simp only [Nat.add_sub_cancel] at h32
  rcases e50 (n := n) (by omega) s hs with ⟨l', h', r1, r2⟩ | ⟨r1, n1, r1', n2, r2', r2⟩
  · rw [hr] at r1
    simp only [Option.some.injEq, Prod.mk.injEq] at r1
    obtain ⟨rfl, rfl⟩ := r1
    simp only [rtA] at r2 h32
    simp -implicitDefEqProofs [D27, h1, r2, h32]
  · rw [hr] at r1; cases r1
end

/-! What Parse returns is valid -/

theorem bitsR_bits : ∀ {k a c j : Nat}, (bitsR c a k).testBit j = true → c.testBit j = true ∨ (a ≤ j ∧ j < a + k)
  | 0, a, c, j, h => .inl h
  | k + 1, a, c, j, h => by
    rcases bitsR_bits (k := k) (a := a + 1) (c := c ||| 2 ^ a) h with h | h
    · rw [Nat.testBit_or, Bool.or_eq_true] at h
      rcases h with h | h
      · exact .inl h
      · rw [Nat.testBit_two_pow] at h
        simp only [decide_eq_true_eq] at h
        exact .inr (by omega)
    · exact .inr (by omega)

theorem lvlAcc_bits (cats : List (List UInt8)) : ∀ (sp : List Sp) (c : Nat), (∀ j, c.testBit j = true → j < cats.length) → ∀ j, (lvlAcc cats sp c).1.testBit j = true → j < cats.length
  | [], c, h => h
  | p :: r, c, h => by
    rw [lvlAcc_cons]
    have hA := idxAt_cases p.1 cats 0
    have hB := idxAt_cases p.2 cats 0
    generalize idxAt p.1 cats 0 = A at hA ⊢
    have hb : (if p.2 ≠ [] then idxAt p.2 cats 0 else A) = -1 ∨ ∃ q : Nat, (if p.2 ≠ [] then idxAt p.2 cats 0 else A) = q ∧ q < cats.length := by
      split
      · rcases hB with h | ⟨q, h, hq, -⟩
        · exact .inl h
        · exact .inr ⟨q, by simpa using h, by omega⟩
      · rcases hA with h | ⟨q, h, hq, -⟩
        · exact .inl h
        · exact .inr ⟨q, by simpa using h, by omega⟩
    generalize (if p.2 ≠ [] then idxAt p.2 cats 0 else A) = b at hb ⊢
    split
    · intro j hj; simp at hj
    · split
      · intro j hj; simp at hj
      · refine lvlAcc_bits cats r _ fun j hj => ?_
        rcases bitsR_bits hj with hj | hj
        · exact h j hj
        · rcases hb with h | ⟨q, h, hq⟩ <;> omega

theorem levelV_ok {sens cats : List (List UInt8)} {name : List UInt8} {sp : List Sp} {s : Int} {c : Nat} (hc : c < 18446744073709551616) (h : levelV sens cats name sp = lvE s c 0) : checkV s c sens.length cats.length = true := by
  unfold levelV at h
  split at h
  · rename_i hP
    split at h
    · simp at h
    · rename_i hs
      unfold accD at h
      have hA := idxAt_cases name sens 0
      split at h
      · simp only [DVal.tup.injEq, List.cons.injEq, DVal.agg.injEq, DVal.int.injEq, true_and, and_true] at h
        obtain ⟨h1, h2⟩ := h
        have hcc : (lvlAcc cats sp 0).1 = c := by omega
        rw [← check_eq hc, decide_eq_true_eq]
        refine ⟨fun j _ _ hj => ?_, ?_, ?_⟩
        · have := lvlAcc_bits cats sp 0 (fun j hj => by simp at hj) j (by rw [hcc]; exact hj)
          omega
        · rcases hA with h | ⟨q, h, hq, -⟩ <;> omega
        · rcases hA with h | ⟨q, h, hq, -⟩ <;> omega
      · simp only [DVal.tup.injEq, List.cons.injEq, DVal.agg.injEq, DVal.int.injEq, true_and, and_true] at h
        rename_i hne
        exact absurd h.2 hne
  · simp at h

theorem rangeRV_ok {sens cats : List (List UInt8)} {n1 n2 : List UInt8} {sp1 sp2 : List Sp} {s s' : Int} {c c' : Nat} {e e' : Int} (hc : c < 18446744073709551616) (hc' : c' < 18446744073709551616) (l1 : levelV sens cats n1 sp1 = lvE s c e) (l2 : levelV sens cats n2 sp2 = lvE s' c' e')
    {no : Prop} [Decidable no] {t t' : Int} {d d' : Nat} (h : rangeRV s c e s' c' e' no = rgE t d t' d' 0) : rangeV t d t' d' sens.length cats.length = true ∧ Rok d d' := by
  unfold rangeRV at h
  split at h
  · rename_i he
    simp only [DVal.tup.injEq, List.cons.injEq, DVal.agg.injEq, DVal.int.injEq, true_and, and_true] at h
    exact absurd h.2 he
  · rename_i he
    have he : e = 0 := by simpa using he
    subst he
    have k1 := levelV_ok hc l1
    split at h
    · simp only [DVal.tup.injEq, List.cons.injEq, DVal.agg.injEq, DVal.int.injEq, true_and, and_true] at h
      obtain ⟨rfl, h2, rfl, h3⟩ := h
      obtain rfl : c = d := by omega
      obtain rfl : c = d' := by omega
      exact ⟨by simp [rangeV, k1, dom_refl], hc, hc⟩
    · split at h
      · rename_i he'
        simp only [DVal.tup.injEq, List.cons.injEq, DVal.agg.injEq, DVal.int.injEq, true_and, and_true] at h
        exact absurd h.2 he'
      · rename_i he'
        have he' : e' = 0 := by simpa using he'
        subst he'
        have k2 := levelV_ok hc' l2
        split at h
        · rename_i hd
          simp only [DVal.tup.injEq, List.cons.injEq, DVal.agg.injEq, DVal.int.injEq, true_and, and_true] at h
          obtain ⟨rfl, h2, rfl, h3⟩ := h
          obtain rfl : c = d := by omega
          obtain rfl : c' = d' := by omega
          exact ⟨by simp [rangeV, k1, k2, hd], hc, hc'⟩
        · simp at h

/-- The law of parses. -/
theorem e7 {n : Nat} (hn : 20300 ≤ n) (aw : cpJ PR n 16 [] = some (.bool true)) (s : Bs) (z z' : Bool) (sens cats : List (List UInt8)) :
    cpJ PR (n + 1) 7 [.str s, .agg [strsD z sens, strsD z' cats]] = some (.bool true) := by
  have h1 := e23 (n := n) (by omega) z z' sens cats
  rw [u7]
  cases hf : fewV sens cats with
  | false =>
    rw [hf] at h1
    simp -implicitDefEqProofs [D7, h1, aw]
  | true =>
    rw [hf] at h1
    have hF := few_iff hf
    by_cases hl : (1000 : Int) < s.length
    · simp -implicitDefEqProofs [D7, h1, hl, aw]
    · have hs : s.length ≤ 1000 := by omega
      cases hP : propV sens cats with
      | false =>
        have h2 := e26_prop (n := n) (by omega) z z' hF s hP
        have h3 := e27_prop (n := n) (by omega) z z' hF s hP
        simp -implicitDefEqProofs [D7, h1, hl, h2, h3, aw]
      | true =>
        cases hr : readP s with
        | none =>
          have h2 := e26_none (n := n) (by omega) z z' hF s hs hP hr
          have h3 := e27_none (n := n) (by omega) z z' hF s hs hP (by rw [← read_eq s (by omega)]; exact hr)
          simp -implicitDefEqProofs [D7, h1, hl, h2, h3, aw]
        | some x =>
          obtain ⟨l, h⟩ := x
          obtain ⟨f1, f2⟩ := readP_few hs hr
          obtain ⟨t, c, e, hc, l1⟩ := levelV_form sens cats l.1 l.2
          obtain ⟨t', c', e', hc', l2⟩ := levelV_form sens cats h.1 h.2
          have h6 := e31 (n := n - 1) (by omega) z z' true true hF l.1 h.1 l.2 h.2 f1 f2 t c e hc l1 t' c' e' hc' l2
          have h7 := e32 (n := n - 1) (by omega) z z' true true hF l.1 h.1 l.2 h.2 f1 f2 t c e hc l1 t' c' e' hc' l2
          obtain ⟨a, d, a', d', f, hR⟩ := rangeRV_form t c e t' c' e' (h.1 = [] ∧ h.2 = [])
          rw [hR] at h6 h7
          have h2 := e26_some (n := n) (by omega) z z' hF s hs hP hr h6
          have h3 := e27_some (n := n) (by omega) z z' hF s hs hP (by rw [← read_eq s (by omega)]; exact hr) h7
          by_cases hf0 : f = 0
          · subst hf0
            obtain ⟨k1, k2⟩ := rangeRV_ok hc hc' l1 l2 hR
            have h4 := e14 (n := n) (by omega) a d k2.lo a' d' k2.hi sens.length cats.length
            change _ = some (DVal.bool (rangeV a d a' d' sens.length cats.length)) at h4
            rw [k1] at h4
            simp -implicitDefEqProofs [D7, h1, hl, h2, h3, h4, aw]
          · have hfb : (f != 0) = true := by simp [hf0]
            simp -implicitDefEqProofs [D7, h1, hl, h2, h3, hf0, hfb, aw]

theorem args_sn {Ds : List DVal} (h : DTyArgs Tryd.prog [9, 36] Ds) : ∃ (s : Bs) (z z' : Bool) (a b : List (List UInt8)), Ds = [.str s, .agg [strsD z a, strsD z' b]] := by
  obtain ⟨d, es, rfl, h1, d2, es2, rfl, h2, rfl⟩ := h
  obtain ⟨z, z', a, b, rfl⟩ := dtyArg_nm h2
  have e : Tryd.prog.underlying 9 = some .string := Tryd.underlying9
  simp only [DTyArg, DTy, e, List.cons.injEq, and_true] at h1
  obtain ⟨s, rfl, -⟩ := h1
  exact ⟨s, z, z', a, b, rfl⟩

end Go.Proofs.YticbfdcfopilfaaDoor
