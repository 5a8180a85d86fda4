/- Texts of this proof, part 6: see the card for what is proved. -/
import Derived.Test.YthpccimmmfonjaaGreatDoorPk05
import Derived.Lib.DecodeN
import Derived.KernelRfl
namespace Go.Proofs.YthpccimmmfonjaaGreatDoor
set_option linter.unusedVariables false
set_option linter.unusedSimpArgs false
set_option maxRecDepth 20000
set_option maxHeartbeats 2000000
open Go
theorem u54 (n : Nat) (xs : List DVal) : cpJ PR (n + 1) 54 xs = cutSem xs := by
  have e : PR 54 = some (.prim cutSem) := by kernel_rfl
  simp [cpJ, evJ, e, Function.comp_def]
theorem u135 (n : Nat) (xs : List DVal) : cpJ PR (n + 1) 135 xs = genSplitSem xs := by
  have e : PR 135 = some (.prim genSplitSem) := by kernel_rfl
  simp [cpJ, evJ, e, Function.comp_def]
theorem e54 {n : Nat} (hn : 1 ≤ n) (s : Bs) (hs : s.length ≤ 100000) (c : UInt8) : cpJ PR n 54 [.str s, .str [c]] = some (.tup [.str (Lib.cut s [c]).1, .str (Lib.cut s [c]).2.1, .bool (Lib.cut s [c]).2.2]) := by
  obtain ⟨n, rfl⟩ : ∃ m, n = m + 1 := ⟨n - 1, by omega⟩
  rw [u54]
  simp only [cutSem]
  rw [if_pos (by omega)]
theorem cut_len (s : Bs) (c : UInt8) : (Lib.cut s [c]).1.length ≤ s.length ∧ (Lib.cut s [c]).2.1.length ≤ s.length := by
  unfold Lib.cut
  split <;> simp <;> omega
theorem e103 {n : Nat} (hn : 2 ≤ n) (s : Bs) (hs : s.length ≤ 100000) : cpJ PR n 103 [.str s, .str [44]] = some (.slice false 0 1 ((Lib.splitN s [44] (Lib.count s [44] + 1)).map fun x => [.str x])) := by
  obtain ⟨n, rfl⟩ : ∃ m, n = m + 1 := ⟨n - 1, by omega⟩
  have h : cpJ PR n 135 [.str s, .str [44], .int .i64 0, .int .i64 (-1)] = some (.slice false 0 1 ((Lib.splitN s [44] (Lib.count s [44] + 1)).map fun x => [.str x])) := by
    obtain ⟨n, rfl⟩ : ∃ m, n = m + 1 := ⟨n - 1, by omega⟩
    rw [u135]
    simp only [genSplitSem]
    rw [if_pos ⟨by omega, by simp⟩]
  rw [u103]
  simp -implicitDefEqProofs [D103, h]
theorem e104 {n : Nat} (u : Bs) (hu : u.length ≤ 2000) (hn : 3000 ≤ n) : cpJ PR n 104 [.str u] =
    some (.tup [.agg [.str (Lib.cut u [46]).1, .str (Lib.cut u [46]).2.1], .bool (wordV (Lib.cut u [46]).1 && (!(Lib.cut u [46]).2.2 || wordV (Lib.cut u [46]).2.1))]) := by
  obtain ⟨n, rfl⟩ : ∃ m, n = m + 1 := ⟨n - 1, by omega⟩
  have h1 := e54 (n := n) (by omega) u (by omega) 46
  have hl := cut_len u 46
  have h2 := e102 (n := n) (Lib.cut u [46]).1 (by omega) (by omega)
  have h3 := e102 (n := n) (Lib.cut u [46]).2.1 (by omega) (by omega)
  rw [u104]
  generalize (Lib.cut u [46]).1 = a at h1 h2 ⊢
  generalize (Lib.cut u [46]).2.1 = b at h1 h3 ⊢
  generalize (Lib.cut u [46]).2.2 = q at h1 ⊢
  cases hq : q <;> cases ha : wordV a <;> cases hb : wordV b <;> rw [hq] at h1 <;> rw [ha] at h2 <;> rw [hb] at h3 <;> simp -implicitDefEqProofs [D104, h1, h2, h3]
theorem spanP_eq (u : Bs) : spanP u = if (wordV (Lib.cut u [46]).1 && (!(Lib.cut u [46]).2.2 || wordV (Lib.cut u [46]).2.1)) = true then some ((Lib.cut u [46]).1, (Lib.cut u [46]).2.1) else none := by
  unfold spanP
  simp only
  generalize (Lib.cut u [46]).1 = a
  generalize (Lib.cut u [46]).2.1 = b
  generalize (Lib.cut u [46]).2.2 = q
  cases q <;> cases wordV a <;> cases wordV b <;> simp
def spRow (p : Bs × Bs) : List DVal := [.str p.1, .str p.2]
theorem l55 {n : Nat} (hn : 5000 ≤ n) (name : Bs) (ps : List Bs) (hps : ps.length ≤ 3000) (hpl : ∀ p ∈ ps, p.length ≤ 2000) (σ : Sto) : ∀ (k j m : Nat) (es : List (List DVal)) (u : DVal), j + k = ps.length → k < m → es.length ≤ j →
    (∀ sp, mapO spanP (ps.drop j) = some sp → iterJ 0 (L55_0 (cpJ PR n) (ciJ PR n) n (.slice false 0 1 (ps.map fun x => [.str x])) (.int .i64 ps.length)) m [.int .i64 j, u, .agg [.str name, (apd σ 2 es).1], .agg [.str [], .nils]] (apd σ 2 es).2 =
      some (.done (.tup [.agg [.str name, (apd σ 2 (es ++ sp.map spRow)).1], .bool true]) (apd σ 2 (es ++ sp.map spRow)).2)) ∧
    (mapO spanP (ps.drop j) = none → ∃ es', iterJ 0 (L55_0 (cpJ PR n) (ciJ PR n) n (.slice false 0 1 (ps.map fun x => [.str x])) (.int .i64 ps.length)) m [.int .i64 j, u, .agg [.str name, (apd σ 2 es).1], .agg [.str [], .nils]] (apd σ 2 es).2 =
      some (.done (.tup [.agg [.str name, (apd σ 2 es').1], .bool false]) (apd σ 2 es').2)) := by
  intro k
  induction k with
  | zero =>
    intro j m es u hj hm hes
    obtain ⟨m, rfl⟩ : ∃ q, m = q + 1 := ⟨m - 1, by omega⟩
    have hj' : ¬ ((j : Int) < ps.length) := by omega
    rw [List.drop_eq_nil_of_le (by omega)]
    refine ⟨fun sp h => ?_, fun h => by simp [mapO] at h⟩
    simp only [mapO, Option.some.injEq] at h
    subst h
    refine iterJ_done ?_
    simp -implicitDefEqProofs [L55_0, B55_0, hj']
  | succ k ih =>
    intro j m es u hj hm hes
    obtain ⟨m, rfl⟩ : ∃ q, m = q + 1 := ⟨m - 1, by omega⟩
    have hj' : ((j : Int) < ps.length) := by omega
    obtain ⟨p, hp⟩ := get_some (by omega : j < ps.length)
    have hw : IntKind.i64.wrap ((j : Int) + 1) = (j : Int) + 1 := wrap_i64 (by omega) (by omega)
    have h1 := e104 (n := n) p (hpl p (List.mem_of_getElem? hp)) (by omega)
    have h2 := spanP_eq p
    rw [drop_get hp]
    generalize (Lib.cut p [46]).1 = a at h1 h2
    generalize (Lib.cut p [46]).2.1 = b at h1 h2
    generalize (wordV a && (!(Lib.cut p [46]).2.2 || wordV b)) = ok at h1 h2
    have ha := app_apd (σ := σ) (sz := 2) (own := 1) (es := es) (r := spRow (a, b)) (by omega)
    cases ok with
    | true =>
      rw [if_pos rfl] at h2
      have step : L55_0 (cpJ PR n) (ciJ PR n) n (.slice false 0 1 (ps.map fun x => [.str x])) (.int .i64 ps.length) [.int .i64 j, u, .agg [.str name, (apd σ 2 es).1], .agg [.str [], .nils]] (apd σ 2 es).2 =
          some (.next 0 [.int .i64 ((j + 1 : Nat) : Int), u, .agg [.str name, (apd σ 2 (es ++ [spRow (a, b)])).1], .agg [.str [], .nils]] (apd σ 2 (es ++ [spRow (a, b)])).2) := by
        simp only [spRow] at ha ⊢
        simp -implicitDefEqProofs [L55_0, B55_0, hj', hp, h1, ha, hw]
      obtain ⟨i1, i2⟩ := ih (j + 1) m (es ++ [spRow (a, b)]) u (by omega) (by omega) (by simp; omega)
      simp only [mapO, h2]
      rw [iterJ_next' step]
      refine ⟨fun sp h => ?_, fun h => ?_⟩
      · split at h
        · rename_i y ys e9001 e9002
          simp only [Option.some.injEq] at h e9001
          subst h e9001
          rw [i1 _ e9002]
          simp
        · cases h
      · split at h
        · cases h
        · rename_i hno
          refine i2 ?_
          cases hd : mapO spanP (ps.drop (j + 1)) with
          | none => rfl
          | some ys => exact absurd hd (hno _ ys rfl)
    | false =>
      rw [if_neg (by decide)] at h2
      have hm : mapO spanP (p :: ps.drop (j + 1)) = none := by simp only [mapO, h2]
      rw [hm]
      refine ⟨fun sp h => (by cases h), fun _ => ⟨es, iterJ_done ?_⟩⟩
      simp -implicitDefEqProofs [L55_0, B55_0, hj', hp, h1]
theorem splitN_len (s : Bs) : (Lib.splitN s [44] (Lib.count s [44] + 1)).length ≤ s.length + 1 ∧ ∀ p ∈ Lib.splitN s [44] (Lib.count s [44] + 1), p.length ≤ s.length := by
  obtain ⟨p, r, rfl, hp, hr⟩ := split_exists 44 s
  rw [split_join hp hr]
  have h1 := joinC_len (c := 44) (r := r) (p := p)
  refine ⟨by simp; omega, fun q hq => ?_⟩
  rcases List.mem_cons.1 hq with rfl | hq
  · simp [joinC]
  · have : ∀ {r : List Bs}, q ∈ r → q.length ≤ (r.flatMap fun x => (44 : UInt8) :: x).length := by
      intro r
      induction r with
      | nil => intro h; simp at h
      | cons x r ih =>
        intro h
        rcases List.mem_cons.1 h with rfl | h
        · simp only [List.flatMap_cons, List.length_append, List.length_cons]; omega
        · have := ih h; simp only [List.flatMap_cons, List.length_append, List.length_cons]; omega
    have := this hq
    simp only [joinC, List.length_append]; omega
theorem e55 {n : Nat} (u : Bs) (hu : u.length ≤ 1500) (hn : 6000 ≤ n) :
    (∃ l, parsedP u = some l ∧ cpJ PR n 55 [.str u] = some (.tup [ltD l.1 (l.2.map spRow), .bool true])) ∨
    (parsedP u = none ∧ ∃ nm0 rows, cpJ PR n 55 [.str u] = some (.tup [ltD nm0 rows, .bool false])) := by
  obtain ⟨n, rfl⟩ : ∃ m, n = m + 1 := ⟨n - 1, by omega⟩
  have h1 := e54 (n := n) (by omega) u (by omega) 58
  have hl := cut_len u 58
  have h2 := e102 (n := n) (Lib.cut u [58]).1 (by omega) (by omega)
  have h3 := e103 (n := n) (by omega) (Lib.cut u [58]).2.1 (by omega)
  have hs := splitN_len (Lib.cut u [58]).2.1
  rw [u55]
  unfold parsedP
  simp only
  generalize (Lib.cut u [58]).1 = a at h1 h2 hl ⊢
  generalize (Lib.cut u [58]).2.1 = b at h1 h3 hl hs ⊢
  generalize (Lib.cut u [58]).2.2 = q at h1 ⊢
  cases ha : wordV a with
  | false =>
    rw [ha] at h2
    refine .inr ⟨by simp, a, [], ?_⟩
    simp -implicitDefEqProofs [D55, h1, h2, slD_nil]
  | true =>
    rw [ha] at h2
    cases q with
    | false =>
      refine .inl ⟨(a, []), by simp, ?_⟩
      simp -implicitDefEqProofs [D55, h1, h2, slD_nil]
    | true =>
      generalize Lib.splitN b [44] (Lib.count b [44] + 1) = ps at h3 hs ⊢
      obtain ⟨i1, i2⟩ := l55 (n := n) (by omega) a ps (by omega) (fun p hp => by have := hs.2 p hp; omega) emptySto ps.length 0 n [] (.bool false) (by omega) (by omega) (by simp)
      simp only [List.drop_zero, Int.natCast_zero, List.nil_append] at i1 i2
      have e : apd emptySto 2 [] = (.nils, emptySto) := rfl
      rw [e] at i1 i2
      cases hm : mapO spanP ps with
      | some sp =>
        have := i1 sp hm
        refine .inl ⟨(a, sp), by simp, ?_⟩
        simp -implicitDefEqProofs [D55, h1, h2, h3, this]
      | none =>
        obtain ⟨es', this⟩ := i2 hm
        refine .inr ⟨by simp, a, es', ?_⟩
        simp -implicitDefEqProofs [D55, h1, h2, h3, this]
end Go.Proofs.YthpccimmmfonjaaGreatDoor
namespace Go.Proofs.YthpccimmmfonjaaGreatDoor
set_option linter.unusedVariables false
set_option linter.unusedSimpArgs false
set_option maxRecDepth 20000
set_option maxHeartbeats 4000000
open Go
end Go.Proofs.YthpccimmmfonjaaGreatDoor
namespace Go.Proofs.YthpccimmmfonjaaGreatDoor
set_option linter.unusedVariables false
set_option linter.unusedSimpArgs false
set_option maxRecDepth 20000
set_option maxHeartbeats 4000000
open Go
abbrev LTp := Bs × List Sp
def readP (s : Bs) : Option (LTp × LTp) :=
  match parsedP (Lib.cut s [45]).1 with
  | none => none
  | some l => if (Lib.cut s [45]).2.2 = true then (match parsedP (Lib.cut s [45]).2.1 with | none => none | some h => some (l, h)) else some (l, ([], []))
theorem dash_part {p : Bs × Bs} (h : ValidSp p) : (45 : UInt8) ∉ partS p := by
  obtain ⟨f, t⟩ := p
  obtain ⟨h1, h2⟩ := h
  have hf : (45 : UInt8) ∉ f := not_mem_word (wordP_iff.1 h1).1 isL_sp.2.2.2
  unfold partS
  split
  · exact hf
  · rename_i ht
    rcases h2 with h2 | h2
    · exact absurd h2 ht
    · have ht' : (45 : UInt8) ∉ t := not_mem_word (wordP_iff.1 h2).1 isL_sp.2.2.2
      simp only at ht' ⊢
      simp [hf, ht']
theorem dash_sp : ∀ (sp : List Sp) (first : Bool), (∀ p ∈ sp, ValidSp p) → (45 : UInt8) ∉ renderSp first sp
  | [], first, _ => by simp [renderSp]
  | p :: r, first, h => by
    have h1 := dash_part (h p (by simp))
    have h2 := dash_sp r false fun q hq => h q (by simp [hq])
    cases first <;> simp [renderSp, sepB, h1, h2]
theorem dash_render {l : LTp} (h : ValidL l) : (45 : UInt8) ∉ renderL l := by
  rw [renderL_sp, List.mem_append]
  rintro (h1 | h1)
  · exact not_mem_word (wordP_iff.1 h.1).1 isL_sp.2.2.2 h1
  · exact dash_sp _ _ h.2 h1
theorem render_len : ∀ (sp : List Sp) (first : Bool), sp.length ≤ (renderSp first sp).length
  | [], _ => by simp
  | p :: r, first => by
    have := render_len r false
    simp only [renderSp, List.length_cons, List.length_append]; omega
theorem spans_few {l : LTp} {s rest : Bs} (h : s = renderL l ++ rest) : l.2.length ≤ s.length := by
  rw [h, renderL_sp]
  have := render_len l.2 true
  simp only [List.length_append]; omega
theorem readP_few {s : Bs} (hs : s.length ≤ 1000) {l h : LTp} (e : readP s = some (l, h)) : l.2.length ≤ 1000 ∧ h.2.length ≤ 1000 := by
  unfold readP at e
  have hl := cut_len s 45
  split at e
  · cases e
  · rename_i l' h1
    have a1 := (parsedP_sound h1).1
    have b1 : l'.2.length ≤ 1000 := by
      have := spans_few (l := l') (s := (Lib.cut s [45]).1) (rest := []) (by rw [List.append_nil]; exact a1)
      omega
    split at e
    · split at e
      · cases e
      · rename_i g h2
        simp only [Option.some.injEq, Prod.mk.injEq] at e
        obtain ⟨rfl, rfl⟩ := e
        have a2 := (parsedP_sound h2).1
        have := spans_few (l := g) (s := (Lib.cut s [45]).2.1) (rest := []) (by rw [List.append_nil]; exact a2)
        exact ⟨b1, by omega⟩
    · simp only [Option.some.injEq, Prod.mk.injEq] at e
      obtain ⟨rfl, rfl⟩ := e
      exact ⟨b1, by simp⟩
abbrev rtA (l h : LTp) : DVal := .agg [.str l.1, spD .nil l.2, .str h.1, spD .nil h.2]
section
variable {n : Nat} (hn : 20200 ≤ n) (z z' : Zs) {sens cats : List (List UInt8)} (hf : Few sens cats) (s : Bs) (hs : s.length ≤ 1000)
include hn hf hs
theorem e26_none (hP : propV sens cats = true) (hr : readP s = none) : cpJ PR n 26 [.str s, strsD z sens, strsD z' cats] = some (rgE 0 0 0 0 9) := by
  obtain ⟨n, rfl⟩ : ∃ m, n = m + 1 := ⟨n - 1, by omega⟩
  have h1 := p46 (n := n) z z' hf (by omega)
  rw [hP] at h1
  have h2 := e54 (n := n) (by omega) s (by omega) 45
  have hl := cut_len s 45
  have h3 := e55 (n := n) (Lib.cut s [45]).1 (by omega) (by omega)
  have h4 := e55 (n := n) (Lib.cut s [45]).2.1 (by omega) (by omega)
  unfold readP at hr
  rw [u26]
  generalize (Lib.cut s [45]).1 = a at h2 h3 hr
  generalize (Lib.cut s [45]).2.1 = b at h2 h4 hr
  generalize (Lib.cut s [45]).2.2 = q at h2 hr
  rcases h3 with ⟨l, p1, p2⟩ | ⟨p1, nm0, rows, p2⟩
  · rw [p1] at hr
    simp only at hr
    cases q with
    | false => simp at hr
    | true =>
      simp only [if_true] at hr
      rcases h4 with ⟨g, g1, g2⟩ | ⟨g1, nm1, rows1, g2⟩
      · rw [g1] at hr; simp at hr
      · simp -implicitDefEqProofs [D26, h1, h2, p2, g2]
  · simp -implicitDefEqProofs [D26, h1, h2, p2]
theorem e26_some (hP : propV sens cats = true) {l h : LTp} (hr : readP s = some (l, h)) {t t' : Int} {d d' : Nat} {f : Int} (h31 : cpJ PR (n - 1) 56 [rtA l h, strsD z sens, strsD z' cats] = some (rgE t d t' d' f)) :
    cpJ PR n 26 [.str s, strsD z sens, strsD z' cats] = some (rgE t d t' d' f) := by
  obtain ⟨n, rfl⟩ : ∃ m, n = m + 1 := ⟨n - 1, by omega⟩
  have h1 := p46 (n := n) z z' hf (by omega)
  rw [hP] at h1
  have h2 := e54 (n := n) (by omega) s (by omega) 45
  have hl := cut_len s 45
  have h3 := e55 (n := n) (Lib.cut s [45]).1 (by omega) (by omega)
  have h4 := e55 (n := n) (Lib.cut s [45]).2.1 (by omega) (by omega)
  unfold readP at hr
  rw [u26]
  simp only [Nat.add_sub_cancel] at h31
  generalize (Lib.cut s [45]).1 = a at h2 h3 hr
  generalize (Lib.cut s [45]).2.1 = b at h2 h4 hr
  generalize (Lib.cut s [45]).2.2 = q at h2 hr
  rcases h3 with ⟨l', p1, p2⟩ | ⟨p1, nm0, rows, p2⟩
  · rw [p1] at hr
    simp only at hr
    change _ = some (DVal.tup [.agg [.str l'.1, spD .nil l'.2], .bool true]) at p2
    cases q with
    | false =>
      simp only [Bool.false_eq_true, if_false, Option.some.injEq, Prod.mk.injEq] at hr
      obtain ⟨rfl, rfl⟩ := hr
      simp only [rtA, spD, List.map_nil, slD_nil] at h31
      simp -implicitDefEqProofs [D26, L26_0, J26_0, h1, h2, p2, h31]
    | true =>
      simp only [if_true] at hr
      rcases h4 with ⟨g, g1, g2⟩ | ⟨g1, nm1, rows1, g2⟩
      · rw [g1] at hr
        simp only [Option.some.injEq, Prod.mk.injEq] at hr
        obtain ⟨rfl, rfl⟩ := hr
        change _ = some (DVal.tup [.agg [.str g.1, spD .nil g.2], .bool true]) at g2
        simp only [rtA] at h31
        simp -implicitDefEqProofs [D26, L26_0, J26_0, h1, h2, p2, g2, h31]
      · rw [g1] at hr; simp at hr
  · rw [p1] at hr; simp at hr
end
theorem bitsR_bits : ∀ {k a c j : Nat}, (bitsR c a k).testBit j = true → c.testBit j = true ∨ (a ≤ j ∧ j < a + k)
  | 0, a, c, j, h => .inl h
  | k + 1, a, c, j, h => by
    rcases bitsR_bits (k := k) (a := a + 1) (c := c ||| 2 ^ a) h with h | h
    · rw [Nat.testBit_or, Bool.or_eq_true] at h
      rcases h with h | h
      · exact .inl h
      · rw [Nat.testBit_two_pow] at h
        simp only [decide_eq_true_eq] at h
        exact .inr (by omega)
    · exact .inr (by omega)
theorem lvlAcc_bits (cats : List (List UInt8)) : ∀ (sp : List Sp) (c : Nat), (∀ j, c.testBit j = true → j < cats.length) → ∀ j, (lvlAcc cats sp c).1.testBit j = true → j < cats.length
  | [], c, h => h
  | p :: r, c, h => by
    rw [lvlAcc_cons]
    have hA := idxAt_cases p.1 cats 0
    have hB := idxAt_cases p.2 cats 0
    generalize idxAt p.1 cats 0 = A at hA ⊢
    have hb : (if p.2 ≠ [] then idxAt p.2 cats 0 else A) = -1 ∨ ∃ q : Nat, (if p.2 ≠ [] then idxAt p.2 cats 0 else A) = q ∧ q < cats.length := by
      split
      · rcases hB with h | ⟨q, h, hq, -⟩
        · exact .inl h
        · exact .inr ⟨q, by simpa using h, by omega⟩
      · rcases hA with h | ⟨q, h, hq, -⟩
        · exact .inl h
        · exact .inr ⟨q, by simpa using h, by omega⟩
    generalize (if p.2 ≠ [] then idxAt p.2 cats 0 else A) = b at hb ⊢
    split
    · intro j hj; simp at hj
    · split
      · intro j hj; simp at hj
      · refine lvlAcc_bits cats r _ fun j hj => ?_
        rcases bitsR_bits hj with hj | hj
        · exact h j hj
        · rcases hb with h | ⟨q, h, hq⟩ <;> omega
theorem levelV_ok {sens cats : List (List UInt8)} {name : List UInt8} {sp : List Sp} {s : Int} {c : Nat} (hc : c < 18446744073709551616) (h : levelV sens cats name sp = lvE s c 0) : checkV s c sens.length cats.length = true := by
  unfold levelV at h
  split at h
  · rename_i hP
    split at h
    · simp at h
    · rename_i hs
      unfold accD at h
      have hA := idxAt_cases name sens 0
      split at h
      · simp only [DVal.tup.injEq, List.cons.injEq, DVal.agg.injEq, DVal.int.injEq, true_and, and_true] at h
        obtain ⟨h1, h2⟩ := h
        have hcc : (lvlAcc cats sp 0).1 = c := by omega
        rw [← check_eq hc, decide_eq_true_eq]
        refine ⟨fun j _ _ hj => ?_, ?_, ?_⟩
        · have := lvlAcc_bits cats sp 0 (fun j hj => by simp at hj) j (by rw [hcc]; exact hj)
          omega
        · rcases hA with h | ⟨q, h, hq, -⟩ <;> omega
        · rcases hA with h | ⟨q, h, hq, -⟩ <;> omega
      · simp only [DVal.tup.injEq, List.cons.injEq, DVal.agg.injEq, DVal.int.injEq, true_and, and_true] at h
        rename_i hne
        exact absurd h.2 hne
  · simp at h
theorem rangeRV_ok {sens cats : List (List UInt8)} {n1 n2 : List UInt8} {sp1 sp2 : List Sp} {s s' : Int} {c c' : Nat} {e e' : Int} (hc : c < 18446744073709551616) (hc' : c' < 18446744073709551616) (l9001 : levelV sens cats n1 sp1 = lvE s c e) (l9002 : levelV sens cats n2 sp2 = lvE s' c' e')
    {no : Prop} [Decidable no] {t t' : Int} {d d' : Nat} (h : rangeRV s c e s' c' e' no = rgE t d t' d' 0) : rangeV t d t' d' sens.length cats.length = true ∧ Rok d d' := by
  unfold rangeRV at h
  split at h
  · rename_i he
    simp only [DVal.tup.injEq, List.cons.injEq, DVal.agg.injEq, DVal.int.injEq, true_and, and_true] at h
    exact absurd h.2 he
  · rename_i he
    have he : e = 0 := by simpa using he
    subst he
    have k1 := levelV_ok hc l9001
    split at h
    · simp only [DVal.tup.injEq, List.cons.injEq, DVal.agg.injEq, DVal.int.injEq, true_and, and_true] at h
      obtain ⟨rfl, h2, rfl, h3⟩ := h
      obtain rfl : c = d := by omega
      obtain rfl : c = d' := by omega
      exact ⟨by simp [rangeV, k1, dom_refl], hc, hc⟩
    · split at h
      · rename_i he'
        simp only [DVal.tup.injEq, List.cons.injEq, DVal.agg.injEq, DVal.int.injEq, true_and, and_true] at h
        exact absurd h.2 he'
      · rename_i he'
        have he' : e' = 0 := by simpa using he'
        subst he'
        have k2 := levelV_ok hc' l9002
        split at h
        · rename_i hd
          simp only [DVal.tup.injEq, List.cons.injEq, DVal.agg.injEq, DVal.int.injEq, true_and, and_true] at h
          obtain ⟨rfl, h2, rfl, h3⟩ := h
          obtain rfl : c = d := by omega
          obtain rfl : c' = d' := by omega
          exact ⟨by simp [rangeV, k1, k2, hd], hc, hc'⟩
        · simp at h
end Go.Proofs.YthpccimmmfonjaaGreatDoor
namespace Go.Proofs.YthpccimmmfonjaaGreatDoor
set_option linter.unusedVariables false
set_option linter.unusedSimpArgs false
set_option maxRecDepth 20000
set_option maxHeartbeats 4000000
open Go
theorem e104g {n : Nat} (u : Bs) (hu : u.length ≤ 20000) (hn : 20100 ≤ n) : cpJ PR n 104 [.str u] =
    some (.tup [.agg [.str (Lib.cut u [46]).1, .str (Lib.cut u [46]).2.1], .bool (wordV (Lib.cut u [46]).1 && (!(Lib.cut u [46]).2.2 || wordV (Lib.cut u [46]).2.1))]) := by
  obtain ⟨n, rfl⟩ : ∃ m, n = m + 1 := ⟨n - 1, by omega⟩
  have h1 := e54 (n := n) (by omega) u (by omega) 46
  have hl := cut_len u 46
  have h2 := e102 (n := n) (Lib.cut u [46]).1 (by omega) (by omega)
  have h3 := e102 (n := n) (Lib.cut u [46]).2.1 (by omega) (by omega)
  rw [u104]
  generalize (Lib.cut u [46]).1 = a at h1 h2 ⊢
  generalize (Lib.cut u [46]).2.1 = b at h1 h3 ⊢
  generalize (Lib.cut u [46]).2.2 = q at h1 ⊢
  cases hq : q <;> cases ha : wordV a <;> cases hb : wordV b <;> rw [hq] at h1 <;> rw [ha] at h2 <;> rw [hb] at h3 <;> simp -implicitDefEqProofs [D104, h1, h2, h3]
theorem l55g {n : Nat} (hn : 21000 ≤ n) (name : Bs) (ps : List Bs) (hps : ps.length ≤ 20100) (hpl : ∀ p ∈ ps, p.length ≤ 20000) (σ : Sto) : ∀ (k j m : Nat) (es : List (List DVal)) (u : DVal), j + k = ps.length → k < m → es.length ≤ j →
    (∀ sp, mapO spanP (ps.drop j) = some sp → iterJ 0 (L55_0 (cpJ PR n) (ciJ PR n) n (.slice false 0 1 (ps.map fun x => [.str x])) (.int .i64 ps.length)) m [.int .i64 j, u, .agg [.str name, (apd σ 2 es).1], .agg [.str [], .nils]] (apd σ 2 es).2 =
      some (.done (.tup [.agg [.str name, (apd σ 2 (es ++ sp.map spRow)).1], .bool true]) (apd σ 2 (es ++ sp.map spRow)).2)) ∧
    (mapO spanP (ps.drop j) = none → ∃ es', iterJ 0 (L55_0 (cpJ PR n) (ciJ PR n) n (.slice false 0 1 (ps.map fun x => [.str x])) (.int .i64 ps.length)) m [.int .i64 j, u, .agg [.str name, (apd σ 2 es).1], .agg [.str [], .nils]] (apd σ 2 es).2 =
      some (.done (.tup [.agg [.str name, (apd σ 2 es').1], .bool false]) (apd σ 2 es').2)) := by
  intro k
  induction k with
  | zero =>
    intro j m es u hj hm hes
    obtain ⟨m, rfl⟩ : ∃ q, m = q + 1 := ⟨m - 1, by omega⟩
    have hj' : ¬ ((j : Int) < ps.length) := by omega
    rw [List.drop_eq_nil_of_le (by omega)]
    refine ⟨fun sp h => ?_, fun h => by simp [mapO] at h⟩
    simp only [mapO, Option.some.injEq] at h
    subst h
    refine iterJ_done ?_
    simp -implicitDefEqProofs [L55_0, B55_0, hj']
  | succ k ih =>
    intro j m es u hj hm hes
    obtain ⟨m, rfl⟩ : ∃ q, m = q + 1 := ⟨m - 1, by omega⟩
    have hj' : ((j : Int) < ps.length) := by omega
    obtain ⟨p, hp⟩ := get_some (by omega : j < ps.length)
    have hw : IntKind.i64.wrap ((j : Int) + 1) = (j : Int) + 1 := wrap_i64 (by omega) (by omega)
    have h1 := e104g (n := n) p (hpl p (List.mem_of_getElem? hp)) (by omega)
    have h2 := spanP_eq p
    rw [drop_get hp]
    generalize (Lib.cut p [46]).1 = a at h1 h2
    generalize (Lib.cut p [46]).2.1 = b at h1 h2
    generalize (wordV a && (!(Lib.cut p [46]).2.2 || wordV b)) = ok at h1 h2
    have ha := app_apd (σ := σ) (sz := 2) (own := 1) (es := es) (r := spRow (a, b)) (by omega)
    cases ok with
    | true =>
      rw [if_pos rfl] at h2
      have step : L55_0 (cpJ PR n) (ciJ PR n) n (.slice false 0 1 (ps.map fun x => [.str x])) (.int .i64 ps.length) [.int .i64 j, u, .agg [.str name, (apd σ 2 es).1], .agg [.str [], .nils]] (apd σ 2 es).2 =
          some (.next 0 [.int .i64 ((j + 1 : Nat) : Int), u, .agg [.str name, (apd σ 2 (es ++ [spRow (a, b)])).1], .agg [.str [], .nils]] (apd σ 2 (es ++ [spRow (a, b)])).2) := by
        simp only [spRow] at ha ⊢
        simp -implicitDefEqProofs [L55_0, B55_0, hj', hp, h1, ha, hw]
      obtain ⟨i1, i2⟩ := ih (j + 1) m (es ++ [spRow (a, b)]) u (by omega) (by omega) (by simp; omega)
      simp only [mapO, h2]
      rw [iterJ_next' step]
      refine ⟨fun sp h => ?_, fun h => ?_⟩
      · split at h
        · rename_i y ys e9001 e9002
          simp only [Option.some.injEq] at h e9001
          subst h e9001
          rw [i1 _ e9002]
          simp
        · cases h
      · split at h
        · cases h
        · rename_i hno
          refine i2 ?_
          cases hd : mapO spanP (ps.drop (j + 1)) with
          | none => rfl
          | some ys => exact absurd hd (hno _ ys rfl)
    | false =>
      rw [if_neg (by decide)] at h2
      have hm : mapO spanP (p :: ps.drop (j + 1)) = none := by simp only [mapO, h2]
      rw [hm]
      refine ⟨fun sp h => (by cases h), fun _ => ⟨es, iterJ_done ?_⟩⟩
      simp -implicitDefEqProofs [L55_0, B55_0, hj', hp, h1]
theorem e55g {n : Nat} (u : Bs) (hu : u.length ≤ 20000) (hn : 24000 ≤ n) :
    (∃ l, parsedP u = some l ∧ cpJ PR n 55 [.str u] = some (.tup [ltD l.1 (l.2.map spRow), .bool true])) ∨
    (parsedP u = none ∧ ∃ nm0 rows, cpJ PR n 55 [.str u] = some (.tup [ltD nm0 rows, .bool false])) := by
  obtain ⟨n, rfl⟩ : ∃ m, n = m + 1 := ⟨n - 1, by omega⟩
  have h1 := e54 (n := n) (by omega) u (by omega) 58
  have hl := cut_len u 58
  have h2 := e102 (n := n) (Lib.cut u [58]).1 (by omega) (by omega)
  have h3 := e103 (n := n) (by omega) (Lib.cut u [58]).2.1 (by omega)
  have hs := splitN_len (Lib.cut u [58]).2.1
  rw [u55]
  unfold parsedP
  simp only
  generalize (Lib.cut u [58]).1 = a at h1 h2 hl ⊢
  generalize (Lib.cut u [58]).2.1 = b at h1 h3 hl hs ⊢
  generalize (Lib.cut u [58]).2.2 = q at h1 ⊢
  cases ha : wordV a with
  | false =>
    rw [ha] at h2
    refine .inr ⟨by simp, a, [], ?_⟩
    simp -implicitDefEqProofs [D55, h1, h2, slD_nil]
  | true =>
    rw [ha] at h2
    cases q with
    | false =>
      refine .inl ⟨(a, []), by simp, ?_⟩
      simp -implicitDefEqProofs [D55, h1, h2, slD_nil]
    | true =>
      generalize Lib.splitN b [44] (Lib.count b [44] + 1) = ps at h3 hs ⊢
      obtain ⟨i1, i2⟩ := l55g (n := n) (by omega) a ps (by omega) (fun p hp => by have := hs.2 p hp; omega) emptySto ps.length 0 n [] (.bool false) (by omega) (by omega) (by simp)
      simp only [List.drop_zero, Int.natCast_zero, List.nil_append] at i1 i2
      have e : apd emptySto 2 [] = (.nils, emptySto) := rfl
      rw [e] at i1 i2
      cases hm : mapO spanP ps with
      | some sp =>
        have := i1 sp hm
        refine .inl ⟨(a, sp), by simp, ?_⟩
        simp -implicitDefEqProofs [D55, h1, h2, h3, this]
      | none =>
        obtain ⟨es', this⟩ := i2 hm
        refine .inr ⟨by simp, a, es', ?_⟩
        simp -implicitDefEqProofs [D55, h1, h2, h3, this]
theorem e26g {n : Nat} (hn : 24010 ≤ n) (z z' : Zs) {sens cats : List (List UInt8)} (hf : Few sens cats) (s : Bs) (hs : s.length ≤ 100000) (hs1 : (Lib.cut s [45]).1.length ≤ 20000) (hs2 : (Lib.cut s [45]).2.1.length ≤ 20000) (hP : propV sens cats = true) {l h : LTp} (hr : readP s = some (l, h)) {t t' : Int} {d d' : Nat} {f : Int} (h31 : cpJ PR (n - 1) 56 [rtA l h, strsD z sens, strsD z' cats] = some (rgE t d t' d' f)) :
    cpJ PR n 26 [.str s, strsD z sens, strsD z' cats] = some (rgE t d t' d' f) := by
  obtain ⟨n, rfl⟩ : ∃ m, n = m + 1 := ⟨n - 1, by omega⟩
  have h1 := p46 (n := n) z z' hf (by omega)
  rw [hP] at h1
  have h2 := e54 (n := n) (by omega) s (by omega) 45
  have h3 := e55g (n := n) (Lib.cut s [45]).1 (by omega) (by omega)
  have h4 := e55g (n := n) (Lib.cut s [45]).2.1 (by omega) (by omega)
  unfold readP at hr
  rw [u26]
  simp only [Nat.add_sub_cancel] at h31
  generalize (Lib.cut s [45]).1 = a at h2 h3 hr
  generalize (Lib.cut s [45]).2.1 = b at h2 h4 hr
  generalize (Lib.cut s [45]).2.2 = q at h2 hr
  rcases h3 with ⟨l', p1, p2⟩ | ⟨p1, nm0, rows, p2⟩
  · rw [p1] at hr
    simp only at hr
    change _ = some (DVal.tup [.agg [.str l'.1, spD .nil l'.2], .bool true]) at p2
    cases q with
    | false =>
      simp only [Bool.false_eq_true, if_false, Option.some.injEq, Prod.mk.injEq] at hr
      obtain ⟨rfl, rfl⟩ := hr
      simp only [rtA, spD, List.map_nil, slD_nil] at h31
      simp -implicitDefEqProofs [D26, L26_0, J26_0, h1, h2, p2, h31]
    | true =>
      simp only [if_true] at hr
      rcases h4 with ⟨g, g1, g2⟩ | ⟨g1, nm1, rows1, g2⟩
      · rw [g1] at hr
        simp only [Option.some.injEq, Prod.mk.injEq] at hr
        obtain ⟨rfl, rfl⟩ := hr
        change _ = some (DVal.tup [.agg [.str g.1, spD .nil g.2], .bool true]) at g2
        simp only [rtA] at h31
        simp -implicitDefEqProofs [D26, L26_0, J26_0, h1, h2, p2, g2, h31]
      · rw [g1] at hr; simp at hr
  · rw [p1] at hr; simp at hr
def spanOf (cats : List (List UInt8)) (p : Nat × Nat) : Sp := (nm cats p.1, if p.1 < p.2 then nm cats p.2 else [])
def lvlL (sens cats : List (List UInt8)) (s c : Nat) : LTp := (nm sens s, (runs c).map (spanOf cats))
theorem idx_nm {l : List (List UInt8)} (hd : l.Nodup) {i : Nat} (hi : i < l.length) : idxAt (nm l i) l 0 = i := by
  have h0 := (idxAt_ge (nm l i) l 0).2 (nm_mem hi)
  rcases idxAt_cases (nm l i) l 0 with h | ⟨j, h1, h2, h3⟩
  · omega
  · have hij : i = j := (List.getElem?_inj hi hd).1 (by rw [h3, get_nm hi])
    omega
theorem bitsR_test : ∀ {k a c j : Nat}, (bitsR c a k).testBit j = (c.testBit j || (decide (a ≤ j) && decide (j < a + k)))
  | 0, a, c, j => by
    have : (decide (a ≤ j) && decide (j < a + 0)) = false := by simp <;> omega
    rw [this]; simp [bitsR]
  | k + 1, a, c, j => by
    rw [bitsR, bitsR_test (k := k), Nat.testBit_or, Nat.testBit_two_pow, Bool.or_assoc]
    congr 1
    rw [Bool.eq_iff_iff]
    simp only [Bool.or_eq_true, Bool.and_eq_true, decide_eq_true_eq]
    omega
theorem endR_all {c : Nat} : ∀ {k t j : Nat}, c.testBit t = true → t ≤ j → j ≤ endR c k t → c.testBit j = true
  | 0, t, j, h, h1, h2 => by
    have : j = t := by simp only [endR] at h2; omega
    rw [this]; exact h
  | k + 1, t, j, h, h1, h2 => by
    rw [endR] at h2
    by_cases e : j = t
    · rw [e]; exact h
    · split at h2
      · rename_i hc
        exact endR_all (k := k) hc.2 (by omega) h2
      · omega
theorem lvl_back {cats : List (List UInt8)} (hd : cats.Nodup) (hne : ∀ s ∈ cats, s ≠ []) {c : Nat} (hc : c < 18446744073709551616) (hv : ∀ j, c.testBit j = true → j < cats.length) :
    ∀ (k i acc : Nat), 64 ≤ i + k → ∃ r, lvlAcc cats ((runsR c k i).map (spanOf cats)) acc = (r, 0) ∧ ∀ j, r.testBit j = (acc.testBit j || (decide (i ≤ j) && c.testBit j)) := by
  have hhigh : ∀ j, 64 ≤ j → c.testBit j = false := fun j hj => Nat.testBit_lt_two_pow (Nat.lt_of_lt_of_le hc (Nat.pow_le_pow_right (n := 2) (by decide) hj))
  have hnone : ∀ i acc : Nat, 64 ≤ i → ∃ r, lvlAcc cats [] acc = (r, 0) ∧ ∀ j, r.testBit j = (acc.testBit j || (decide (i ≤ j) && c.testBit j)) := fun i acc hi => by
    refine ⟨acc, rfl, fun j => ?_⟩
    by_cases hj : i ≤ j
    · rw [hhigh j (by omega)]; simp
    · simp [hj]
  intro k
  induction k with
  | zero =>
    intro i acc hik
    exact hnone i acc (by omega)
  | succ k ih =>
    intro i acc hik
    rw [runsR]
    by_cases hi : i < 64
    · rw [if_pos hi]
      by_cases hb : c.testBit i = true
      · rw [if_pos hb]
        have hle := endR_le (c := c) (k := 64) (t := i) (by omega)
        have hbit := endR_bit (c := c) (k := 64) (t := i) hb
        have hall := @endR_all c 64 i
        generalize endR c 64 i = e at hle hbit hall ⊢
        have h1 := hv _ hb
        have h2 := hv _ hbit
        rw [List.map_cons, lvlAcc_cons]
        have x1 : idxAt (spanOf cats (i, e)).1 cats 0 = i := idx_nm hd h1
        have x2 : (if (spanOf cats (i, e)).2 ≠ [] then idxAt (spanOf cats (i, e)).2 cats 0 else idxAt (spanOf cats (i, e)).1 cats 0) = e := by
          by_cases hlt : i < e
          · have en : (spanOf cats (i, e)).2 = nm cats e := by simp [spanOf, hlt]
            rw [en, if_pos (hne _ (nm_mem h2))]
            exact idx_nm hd h2
          · have en : (spanOf cats (i, e)).2 = [] := by simp [spanOf, hlt]
            rw [en, if_neg (by simp), x1]
            omega
        rw [x2, x1, if_neg (by omega), if_neg (by omega)]
        obtain ⟨r, r1, r2⟩ := ih (e + 1) (bitsR acc (i : Int).toNat ((e : Int).toNat + 1 - (i : Int).toNat)) (by omega)
        refine ⟨r, r1, fun j => ?_⟩
        rw [r2, bitsR_test, Bool.or_assoc]
        congr 1
        simp only [Int.toNat_natCast]
        by_cases ha : i ≤ j ∧ j ≤ e
        · have := hall hb ha.1 ha.2
          rw [this, Bool.eq_iff_iff]
          simp only [Bool.or_eq_true, Bool.and_eq_true, decide_eq_true_eq, eq_self, and_true]
          omega
        · cases c.testBit j with
          | true =>
            rw [Bool.eq_iff_iff]
            simp only [Bool.or_eq_true, Bool.and_eq_true, decide_eq_true_eq, eq_self, and_true]
            omega
          | false =>
            rw [Bool.eq_iff_iff]
            simp only [Bool.or_eq_true, Bool.and_eq_true, decide_eq_true_eq, Bool.false_eq_true, and_false, or_false, iff_false]
            omega
      · rw [if_neg hb]
        obtain ⟨r, r1, r2⟩ := ih (i + 1) acc (by omega)
        refine ⟨r, r1, fun j => ?_⟩
        rw [r2]
        congr 1
        by_cases e : j = i
        · subst e
          have hb' : c.testBit j = false := by simpa using hb
          simp [hb']
        · rw [Bool.eq_iff_iff]
          simp only [Bool.and_eq_true, decide_eq_true_eq]
          constructor
          · rintro ⟨q1, q2⟩; exact ⟨by omega, q2⟩
          · rintro ⟨q1, q2⟩; exact ⟨by omega, q2⟩
    · rw [if_neg hi]
      exact hnone i acc (by omega)
theorem prop_names {sens cats : List (List UInt8)} (hP : propV sens cats = true) : ((∀ s ∈ sens, s ≠ [] ∧ s.length ≤ 32 ∧ s.all isL = true) ∧ sens.Nodup) ∧ ((∀ s ∈ cats, s ≠ [] ∧ s.length ≤ 32 ∧ s.all isL = true) ∧ cats.Nodup) := by
  simp only [propV, Bool.and_eq_true] at hP
  exact ⟨properB_name hP.1, properB_name hP.2⟩
section
variable {sens cats : List (List UInt8)} (hP : propV sens cats = true) {i c : Nat} (hi : i < sens.length) (hc : c < 18446744073709551616) (hv : ∀ j, c.testBit j = true → j < cats.length)
include hP hi hv
include hc in
theorem levelV_back : levelV sens cats (lvlL sens cats i c).1 (lvlL sens cats i c).2 = lvE i c 0 := by
  obtain ⟨⟨a1, a2⟩, b1, b2⟩ := prop_names hP
  obtain ⟨r, r1, r2⟩ := lvl_back b2 (fun s hs => (b1 s hs).1) hc hv 64 0 0 (by omega)
  have hr : r = c := Nat.eq_of_testBit_eq fun j => by rw [r2]; simp
  subst hr
  have e9001 : idxAt (nm sens i) sens 0 = i := idx_nm a2 hi
  have e9002 : lvlAcc cats ((runs r).map (spanOf cats)) 0 = (r, 0) := r1
  unfold levelV lvlL
  rw [if_pos hP]
  simp only
  rw [e9001, if_neg (by omega), e9002]
  simp [accD]
theorem validL_back : ValidL (lvlL sens cats i c) := by
  obtain ⟨⟨a1, a2⟩, b1, b2⟩ := prop_names hP
  have hw : ∀ j, j < cats.length → wordP (nm cats j) := fun j hj => wordP_iff.2 ⟨(b1 _ (nm_mem hj)).2.2, (b1 _ (nm_mem hj)).1⟩
  refine ⟨wordP_iff.2 ⟨(a1 _ (nm_mem hi)).2.2, (a1 _ (nm_mem hi)).1⟩, fun p hp => ?_⟩
  simp only [lvlL, List.mem_map] at hp
  obtain ⟨q, hq, rfl⟩ := hp
  have hb := runsR_bits hq
  refine ⟨hw _ (hv _ hb.1), ?_⟩
  by_cases hlt : q.1 < q.2
  · right
    have : (spanOf cats q).2 = nm cats q.2 := by simp [spanOf, hlt]
    rw [this]; exact hw _ (hv _ hb.2.1)
  · left; simp [spanOf, hlt]
omit hi in
theorem render_back : renderL (lvlL sens cats i c) = lvT sens cats i c := by
  obtain ⟨⟨a1, a2⟩, b1, b2⟩ := prop_names hP
  unfold renderL lvlL lvT
  simp only [List.map_map]
  congr 1
  refine List.map_congr_left fun p hp => ?_
  have hb := runsR_bits hp
  have hne := (b1 _ (nm_mem (hv _ hb.2.1))).1
  simp only [Function.comp, partS, spanOf, partT]
  by_cases hlt : p.1 < p.2
  · simp [hlt, hne]
  · simp [hlt]
end
theorem lvlL_few (sens cats : List (List UInt8)) (i c : Nat) : (lvlL sens cats i c).2.length ≤ 1000 := by
  have := runsR_len (c := c) (k := 64) (i := 0)
  simp only [lvlL, List.length_map, runs]; omega
end Go.Proofs.YthpccimmmfonjaaGreatDoor
namespace Go.Proofs.YthpccimmmfonjaaGreatDoor
set_option linter.unusedVariables false
set_option linter.unusedSimpArgs false
set_option maxRecDepth 20000
set_option maxHeartbeats 4000000
open Go
def cutK (c : UInt8) : Nat → Bs → List Bs
  | 0, s => [s]
  | k + 1, s => if c ∈ s then s.takeWhile (· != c) :: cutK c k (s.dropWhile (· != c)).tail else [s]
theorem tw_hit {c : UInt8} {b : Bs} : ∀ {a : Bs}, c ∉ a → (a ++ c :: b).takeWhile (· != c) = a
  | [], _ => by simp
  | x :: a, h => by
    simp only [List.mem_cons, not_or] at h
    have hb : (x != c) = true := by simpa using Ne.symm h.1
    simp [List.takeWhile_cons, hb, tw_hit h.2]
theorem dw_hit {c : UInt8} {b : Bs} : ∀ {a : Bs}, c ∉ a → (a ++ c :: b).dropWhile (· != c) = c :: b
  | [], _ => by simp
  | x :: a, h => by
    simp only [List.mem_cons, not_or] at h
    have hb : (x != c) = true := by simpa using Ne.symm h.1
    simp [List.dropWhile_cons, hb, dw_hit h.2]
theorem cutK_miss {c : UInt8} {k : Nat} {s : Bs} (h : c ∉ s) : cutK c k s = [s] := by
  cases k with
  | zero => rfl
  | succ k => rw [cutK, if_neg h]
theorem cutK_hit {c : UInt8} {k : Nat} {a b : Bs} (h : c ∉ a) : cutK c (k + 1) (a ++ c :: b) = a :: cutK c k b := by
  rw [cutK, if_pos (by simp), tw_hit h, dw_hit h]; rfl
theorem drop_hit {c : UInt8} {s : Bs} {f i : Nat} (hf : f ≤ i) (hi : i < s.length) (hc : s[i]? = some c) (hn : ∀ j, f ≤ j → j < i → s[j]? ≠ some c) :
    s.drop f = (s.drop f).take (i - f) ++ c :: s.drop (i + 1) ∧ c ∉ (s.drop f).take (i - f) := by
  constructor
  · have h1 : (s.drop f).drop (i - f) = c :: s.drop (i + 1) := by
      rw [List.drop_drop, show f + (i - f) = i by omega, drop_get hc]
    rw [← h1, List.take_append_drop]
  · intro h
    obtain ⟨j, hj⟩ := List.getElem?_of_mem h
    rw [List.getElem?_take] at hj
    split at hj
    · rw [List.getElem?_drop] at hj
      exact hn (f + j) (by omega) (by omega) hj
    · cases hj
theorem drop_miss {c : UInt8} {s : Bs} {f : Nat} (hn : ∀ j, f ≤ j → j < s.length → s[j]? ≠ some c) : c ∉ s.drop f := by
  intro h
  obtain ⟨j, hj⟩ := List.getElem?_of_mem h
  rw [List.getElem?_drop] at hj
  exact hn (f + j) (by omega) (List.getElem?_eq_some_iff.1 hj).1 hj
theorem get_byte (s : Bs) (i : Nat) : ((⟨s.toArray⟩ : ByteArray).get! i).toNat = (s.getD i 0).toNat := by
  simp only [ByteArray.get!, List.getElem!_toArray, List.getElem!_eq_getElem?_getD, List.getD_eq_getElem?_getD]
  rfl
theorem dec_at (s : Bs) (i : Nat) (hi : i < s.length) (c : UInt8) (hc : c.toNat < 128) : ∃ r w, Utf8.decode ⟨s.toArray⟩ i = (r, w) ∧ 1 ≤ w ∧ i + w ≤ s.length ∧ ((r = c.toNat ∧ w = 1 ∧ s[i]? = some c) ∨ (r ≠ c.toNat ∧ ∀ j, i ≤ j → j < i + w → s[j]? ≠ some c)) := by
  have key : ∀ j, s[j]? = some c → (s.getD j 0).toNat = c.toNat := fun j h => by rw [List.getD_eq_getElem?_getD, h]; rfl
  have key0 : (s.getD i 0).toNat = c.toNat → s[i]? = some c := fun h => by
    obtain ⟨x, hx⟩ := get_some hi
    rw [List.getD_eq_getElem?_getD, hx, Option.getD_some] at h
    rw [hx, UInt8.toNat_inj.1 h]
  rw [Lib.decode_at]
  simp only [get_byte, show (⟨s.toArray⟩ : ByteArray).size = s.length from rfl]
  have k0 := key i
  have k1 := key (i + 1)
  have k2 := key (i + 2)
  have k3 := key (i + 3)
  generalize (s.getD i 0).toNat = b0 at *
  generalize (s.getD (i + 1) 0).toNat = b1 at *
  generalize (s.getD (i + 2) 0).toNat = b2 at *
  generalize (s.getD (i + 3) 0).toNat = b3 at *
  have one : b0 ≠ c.toNat → ∀ j, i ≤ j → j < i + 1 → s[j]? ≠ some c := fun h j h1 h2 e => by
    obtain rfl : j = i := by omega
    exact h (k0 e)
  unfold Lib.decodeN
  split
  · rename_i h
    refine ⟨_, _, rfl, by omega, by omega, ?_⟩
    by_cases e : b0 = c.toNat
    · exact .inl ⟨e, rfl, key0 e⟩
    · exact .inr ⟨e, one e⟩
  · rename_i h
    have hne : b0 ≠ c.toNat := by omega
    have bad : ∀ (p : Prop) [Decidable p] (r w : Nat), ((p → 1 ≤ w ∧ i + w ≤ s.length ∧ (r ≠ c.toNat ∧ ∀ j, i ≤ j → j < i + w → s[j]? ≠ some c))) → ∃ r' w', (if p then (r, w) else (65533, 1)) = (r', w') ∧ 1 ≤ w' ∧ i + w' ≤ s.length ∧ ((r' = c.toNat ∧ w' = 1 ∧ s[i]? = some c) ∨ (r' ≠ c.toNat ∧ ∀ j, i ≤ j → j < i + w' → s[j]? ≠ some c)) := by
      intro p _ r w hp
      by_cases h : p
      · rw [if_pos h]
        exact ⟨_, _, rfl, (hp h).1, (hp h).2.1, .inr (hp h).2.2⟩
      · rw [if_neg h]
        exact ⟨_, _, rfl, by omega, by omega, .inr ⟨by omega, one hne⟩⟩
    split
    · rename_i h1
      refine bad _ _ _ fun h2 => ⟨by omega, by omega, by omega, fun j j1 j2 e => ?_⟩
      obtain rfl | rfl : j = i ∨ j = i + 1 := by omega
      · exact hne (k0 e)
      · have := k1 e; omega
    · split
      · rename_i h1
        refine bad _ _ _ fun h2 => ⟨by omega, by omega, by omega, fun j j1 j2 e => ?_⟩
        obtain rfl | rfl | rfl : j = i ∨ j = i + 1 ∨ j = i + 2 := by omega
        · exact hne (k0 e)
        · have := k1 e; omega
        · have := k2 e; omega
      · split
        · rename_i h1
          refine bad _ _ _ fun h2 => ⟨by omega, by omega, by omega, fun j j1 j2 e => ?_⟩
          obtain rfl | rfl | rfl | rfl : j = i ∨ j = i + 1 ∨ j = i + 2 ∨ j = i + 3 := by omega
          · exact hne (k0 e)
          · have := k1 e; omega
          · have := k2 e; omega
          · have := k3 e; omega
        · exact ⟨_, _, rfl, by omega, by omega, .inr ⟨by omega, one hne⟩⟩
theorem slc_from {s : Bs} {f : Nat} (h : f ≤ s.length) : slcSSem true false [.str s, .int .i64 f] = some (.str (s.drop f)) := by
  have : (f : Int) ≤ s.length := by omega
  simp [slcSSem, bounds, this, List.take_of_length_le]
theorem slc_mid {s : Bs} {f i : Nat} (h : f ≤ i) (hi : i ≤ s.length) : slcSSem true true [.str s, .int .i64 f, .int .i64 i] = some (.str ((s.drop f).take (i - f))) := by
  have h1 : (f : Int) ≤ i := by omega
  have h2 : (i : Int) ≤ s.length := by omega
  simp [slcSSem, bounds, h1, h2]
def partsV (s : Bs) : List Bs := cutK 58 3 s
def PEnd (s : Bs) (f : Nat) (done : List Bs) (o : Option Out) : Prop :=
  ∃ u σ', o = some (.done (.tup [u, .bool (decide ((done ++ cutK 58 (3 - done.length) (s.drop f)).length = 4))]) σ') ∧ Own σ' 1 u (srows (done ++ cutK 58 (3 - done.length) (s.drop f)))
theorem pend_last {s : Bs} {f : Nat} {done : List Bs} (hd : done.length ≤ 3) (h : done.length < 3 → 58 ∉ s.drop f) : cutK 58 (3 - done.length) (s.drop f) = [s.drop f] := by
  by_cases h3 : done.length = 3
  · rw [h3]; rfl
  · exact cutK_miss (h (by omega))
theorem dec3 (n : Nat) : (((n : Int) == 3) : Bool) = decide (n + 1 = 4) := by
  rw [Bool.eq_iff_iff, beq_iff_eq, decide_eq_true_eq]; omega
theorem own_nils' (σ : Sto) : Own σ 1 .nils (srows []) := own_nils σ 1
theorem l46 {n : Nat} (s : Bs) (hs : s.length ≤ 1000000) : ∀ (k i f m : Nat) (done : List Bs) (v : DVal) (σ : Sto), s.length - i ≤ k → i ≤ s.length → f ≤ i → k < m → done.length ≤ 3 → Own σ 1 v (srows done) → (done.length < 3 → ∀ j, f ≤ j → j < i → s[j]? ≠ some 58) →
    PEnd s f done (iterJ 0 (L46_0 (cpJ PR n) (ciJ PR n) n (.str s)) m [.int .i64 f, v, .tup [.str s, .int .i64 i]] σ) := by
  intro k
  induction k with
  | zero =>
    intro i f m done v σ hi hil hf hm hd hv hn
    obtain ⟨m, rfl⟩ : ∃ j, m = j + 1 := ⟨m - 1, by omega⟩
    have hi' : ¬ ((i : Int) < s.length) := by omega
    have h1 := slc_from (s := s) (f := f) (by omega)
    obtain ⟨u, σ', h2, hu⟩ := own_one (own := 1) (r := [.str (s.drop f)]) hv (by simp; omega)
    have h3 := own_len hv
    rw [List.length_map] at h3
    have h4 := pend_last hd fun h => drop_miss (f := f) fun j j1 j2 => hn h j j1 (by omega)
    refine ⟨u, σ', ?_, by rw [h4]; simpa [srows] using hu⟩
    rw [h4]
    refine iterJ_done ?_
    simp -implicitDefEqProofs [L46_0, B46_0, hi', h1, h2, h3, dec3, own_okVal hu, -slcSSem.eq_1]
  | succ k ih =>
    intro i f m done v σ hi hil hf hm hd hv hn
    obtain ⟨m, rfl⟩ : ∃ j, m = j + 1 := ⟨m - 1, by omega⟩
    have h3 := own_len hv
    rw [List.length_map] at h3
    by_cases hlt : i < s.length
    · have hi' : ((i : Int) < s.length) := by omega
      have hwr := wrap_i hlt (by unfold maxLen; omega)
      obtain ⟨r, w, hdec, hw1, hw2, hcase⟩ := dec_at s i hlt 58 (by decide)
      rw [show (58 : UInt8).toNat = 58 from rfl] at hcase
      by_cases hgo : r = 58 ∧ done.length < 3
      · obtain ⟨hr, h5'⟩ := hgo
        have h5 : ((done.length : Int) < 3) := by omega
        obtain ⟨-, hw, hx⟩ : r = 58 ∧ w = 1 ∧ s[i]? = some 58 := by
          rcases hcase with h | ⟨h, -⟩
          · exact h
          · exact absurd hr h
        subst hr hw
        obtain ⟨g1, g2⟩ := drop_hit hf hlt hx (hn h5')
        have h1 := slc_mid (s := s) hf (by omega)
        obtain ⟨u, σ', h2, hu⟩ := own_one (own := 1) (r := [.str ((s.drop f).take (i - f))]) hv (by simp; omega)
        have e : cutK 58 (3 - done.length) (s.drop f) = (s.drop f).take (i - f) :: cutK 58 (3 - (done ++ [(s.drop f).take (i - f)]).length) (s.drop (i + 1)) := by
          rw [g1, show 3 - done.length = (3 - done.length - 1) + 1 by omega, cutK_hit g2, ← g1, show 3 - done.length - 1 = 3 - (done ++ [(s.drop f).take (i - f)]).length by simp; omega]
        obtain ⟨u', σ'', h6, hu'⟩ := ih (i + 1) (i + 1) m (done ++ [(s.drop f).take (i - f)]) u σ' (by omega) (by omega) (by omega) (by omega) (by simp; omega) (by simpa [srows] using hu) (fun _ j j1 j2 => by omega)
        rw [List.append_assoc, List.singleton_append, ← e] at h6 hu'
        refine ⟨u', σ'', ?_, hu'⟩
        rw [← h6]
        refine iterJ_next' ?_
        simp -implicitDefEqProofs [L46_0, B46_0, hi', hdec, hwr, h1, h2, h3, h5, -slcSSem.eq_1]
      · have h6 := ih (i + w) f m done v σ (by omega) (by omega) (by omega) (by omega) hd hv (fun h5 j j1 j2 => by
          by_cases e : j < i
          · exact hn h5 j j1 e
          · rcases hcase with ⟨h, -⟩ | ⟨-, h⟩
            · exact absurd ⟨h, h5⟩ hgo
            · exact h j (by omega) j2)
        have e : iterJ 0 (L46_0 (cpJ PR n) (ciJ PR n) n (.str s)) (m + 1) [.int .i64 f, v, .tup [.str s, .int .i64 i]] σ = iterJ 0 (L46_0 (cpJ PR n) (ciJ PR n) n (.str s)) m [.int .i64 f, v, .tup [.str s, .int .i64 ((i + w : Nat) : Int)]] σ := by
          refine iterJ_next' ?_
          by_cases hr : r = 58
          · have h5 : ¬ ((done.length : Int) < 3) := fun h => hgo ⟨hr, by omega⟩
            subst hr
            simp -implicitDefEqProofs [L46_0, B46_0, hi', hdec, h3, h5, -slcSSem.eq_1]
          · have h7 : ((r : Int) == 58) = false := beq_eq_false_iff_ne.2 (by omega)
            simp -implicitDefEqProofs [L46_0, B46_0, hi', hdec, h3, h7, -slcSSem.eq_1, -beq_eq_false_iff_ne, -beq_iff_eq]
        rw [e]; exact h6
    · have hi' : ¬ ((i : Int) < s.length) := by omega
      have h1 := slc_from (s := s) (f := f) (by omega)
      obtain ⟨u, σ', h2, hu⟩ := own_one (own := 1) (r := [.str (s.drop f)]) hv (by simp; omega)
      have h4 := pend_last hd fun h => drop_miss (f := f) fun j j1 j2 => hn h j j1 (by omega)
      refine ⟨u, σ', ?_, by rw [h4]; simpa [srows] using hu⟩
      rw [h4]
      refine iterJ_done ?_
      simp -implicitDefEqProofs [L46_0, B46_0, hi', h1, h2, h3, dec3, own_okVal hu, -slcSSem.eq_1]
theorem e46 {n : Nat} (s : Bs) (hs : s.length ≤ 1000000) (hn : s.length + 10 ≤ n) : ∃ z, cpJ PR n 46 [.str s] = some (.tup [strsD z (partsV s), .bool (decide ((partsV s).length = 4))]) := by
  obtain ⟨n, rfl⟩ : ∃ m, n = m + 1 := ⟨n - 1, by omega⟩
  obtain ⟨u, σ', h1, hu⟩ := l46 (n := n) s hs s.length 0 0 n [] .nils emptySto (by omega) (by omega) (by omega) (by omega) (by simp) (own_nils' _) (fun _ j j1 j2 => by omega)
  simp only [Int.natCast_zero, List.nil_append, List.length_nil, Nat.sub_zero, List.drop_zero] at h1 hu
  change _ = some (Out.done (DVal.tup [u, .bool (decide ((partsV s).length = 4))]) σ') at h1
  change Own σ' 1 u (srows (partsV s)) at hu
  obtain ⟨z, hz⟩ := own_seal hu
  refine ⟨z, ?_⟩
  rw [u46]
  simp -implicitDefEqProofs [D46, h1, hz, strsD]
def findI {α : Type} (f : α → Bool) : List α → Nat → Int
  | [], _ => -1
  | x :: l, i => if f x then (i : Int) else findI f l (i + 1)
theorem findI_cases {α : Type} (f : α → Bool) : ∀ (l : List α) (i : Nat), (findI f l i = -1 ∧ ∀ x ∈ l, f x = false) ∨ ∃ j x, findI f l i = ((i + j : Nat) : Int) ∧ l[j]? = some x ∧ f x = true ∧ ∀ y ∈ l.take j, f y = false
  | [], i => .inl ⟨rfl, by simp⟩
  | x :: l, i => by
    by_cases h : f x = true
    · exact .inr ⟨0, x, by simp [findI, h], rfl, h, by simp⟩
    · have h' : f x = false := by simpa using h
      rcases findI_cases f l (i + 1) with ⟨h1, h2⟩ | ⟨j, y, h1, h2, h3, h4⟩
      · exact .inl ⟨by simp [findI, h', h1], by simpa [h'] using h2⟩
      · refine .inr ⟨j + 1, y, ?_, by simpa using h2, h3, by simpa [h'] using h4⟩
        simp only [findI, h', Bool.false_eq_true, if_false, h1]
        congr 1
        omega
def userF (s : Bs) (u : UserV) : Bool := u.name == s
def roleF (s : Bs) (r : RoleV) : Bool := r.name == s
def typeF (s : Bs) (t : TypeV) : Bool := t.name == s || decide (s ∈ t.aliases.l)
section
variable {s : Bs} {a : Nat} {σ : Sto} (ho : σ.obj a = .agg [.str s]) (ha : a < σ.nobj)
include ho ha
theorem ld_name : ldOSem σ none [.obj a 0] = some (.str s, σ) := by
  rw [ld_obj none ho ha]; rfl
theorem e88 {n : Nat} (hn : 1 ≤ n) (u : UserV) : ciJ PR n 88 [u.d, .obj a 0] σ = some (.bool (userF s u), σ) := by
  obtain ⟨n, rfl⟩ : ∃ m, n = m + 1 := ⟨n - 1, by omega⟩
  have h1 := ld_name ho ha
  rw [v88]
  simp -implicitDefEqProofs [D88, h1, userF]
theorem e90 {n : Nat} (hn : 1 ≤ n) (u : RoleV) : ciJ PR n 90 [u.d, .obj a 0] σ = some (.bool (roleF s u), σ) := by
  obtain ⟨n, rfl⟩ : ∃ m, n = m + 1 := ⟨n - 1, by omega⟩
  have h1 := ld_name ho ha
  rw [v90]
  simp -implicitDefEqProofs [D90, h1, roleF]
theorem e92 {n : Nat} (t : TypeV) (hl : t.aliases.l.length ≤ 100) (hn : 200 ≤ n) : ciJ PR n 92 [t.d, .obj a 0] σ = some (.bool (typeF s t), σ) := by
  obtain ⟨n, rfl⟩ : ∃ m, n = m + 1 := ⟨n - 1, by omega⟩
  have h1 := ld_name ho ha
  have h2 : cpJ PR n 93 [strs t.aliases, .str s] = some (.bool (decide (s ∈ t.aliases.l))) := e93 (n := n) t.aliases.z t.aliases.l s (by omega) (by omega)
  rw [v92]
  cases h : (t.name == s) <;> simp -implicitDefEqProofs [D92, h1, h2, typeF, h, -beq_iff_eq, -beq_eq_false_iff_ne]
theorem l87 {n : Nat} (hn : 1 ≤ n) (us : Sl UserV) (hl : us.l.length ≤ 1000) : ∀ (k i m : Nat) (w : DVal), i + k = us.l.length → k < m →
    iterJ 0 (L87_0 (cpJ PR n) (ciJ PR n) n (slOf 11 UserV.row us) (.func 88 [.obj a 0]) (.int .i64 us.l.length)) m [.int .i64 i, w] σ = some (.done (.int .i64 (findI (userF s) (us.l.drop i) i)) σ) := by
  intro k
  induction k with
  | zero =>
    intro i m w hi hm
    obtain ⟨m, rfl⟩ : ∃ j, m = j + 1 := ⟨m - 1, by omega⟩
    have hi' : ¬ ((i : Int) < us.l.length) := by omega
    rw [List.drop_eq_nil_of_le (by omega)]
    refine iterJ_done ?_
    simp -implicitDefEqProofs [L87_0, B87_0, hi', findI]
  | succ k ih =>
    intro i m w hi hm
    obtain ⟨m, rfl⟩ : ∃ j, m = j + 1 := ⟨m - 1, by omega⟩
    have hi' : ((i : Int) < us.l.length) := by omega
    obtain ⟨x, hx⟩ := get_some (by omega : i < us.l.length)
    have hwr := wrap_i (by omega : i < us.l.length) (by unfold maxLen; omega)
    have h1 := e88 ho ha hn x
    rw [drop_get hx, findI]
    cases hf : userF s x <;> rw [hf] at h1
    · simp only [Bool.false_eq_true, if_false]
      rw [← ih (i + 1) m w (by omega) (by omega)]
      refine iterJ_next' ?_
      simp -implicitDefEqProofs [L87_0, B87_0, hi', hx, hwr, h1]
    · refine iterJ_done ?_
      simp -implicitDefEqProofs [L87_0, B87_0, hi', hx, hwr, h1]
theorem l89 {n : Nat} (hn : 1 ≤ n) (us : Sl RoleV) (hl : us.l.length ≤ 1000) : ∀ (k i m : Nat) (w : DVal), i + k = us.l.length → k < m →
    iterJ 0 (L89_0 (cpJ PR n) (ciJ PR n) n (slOf 9 RoleV.row us) (.func 90 [.obj a 0]) (.int .i64 us.l.length)) m [.int .i64 i, w] σ = some (.done (.int .i64 (findI (roleF s) (us.l.drop i) i)) σ) := by
  intro k
  induction k with
  | zero =>
    intro i m w hi hm
    obtain ⟨m, rfl⟩ : ∃ j, m = j + 1 := ⟨m - 1, by omega⟩
    have hi' : ¬ ((i : Int) < us.l.length) := by omega
    rw [List.drop_eq_nil_of_le (by omega)]
    refine iterJ_done ?_
    simp -implicitDefEqProofs [L89_0, B89_0, hi', findI]
  | succ k ih =>
    intro i m w hi hm
    obtain ⟨m, rfl⟩ : ∃ j, m = j + 1 := ⟨m - 1, by omega⟩
    have hi' : ((i : Int) < us.l.length) := by omega
    obtain ⟨x, hx⟩ := get_some (by omega : i < us.l.length)
    have hwr := wrap_i (by omega : i < us.l.length) (by unfold maxLen; omega)
    have h1 := e90 ho ha hn x
    rw [drop_get hx, findI]
    cases hf : roleF s x <;> rw [hf] at h1
    · simp only [Bool.false_eq_true, if_false]
      rw [← ih (i + 1) m w (by omega) (by omega)]
      refine iterJ_next' ?_
      simp -implicitDefEqProofs [L89_0, B89_0, hi', hx, hwr, h1]
    · refine iterJ_done ?_
      simp -implicitDefEqProofs [L89_0, B89_0, hi', hx, hwr, h1]
theorem l91 {n : Nat} (hn : 200 ≤ n) (us : Sl TypeV) (hl : us.l.length ≤ 1000) (hal : ∀ t ∈ us.l, t.aliases.l.length ≤ 4) : ∀ (k i m : Nat) (w : DVal), i + k = us.l.length → k < m →
    iterJ 0 (L91_0 (cpJ PR n) (ciJ PR n) n (slOf 3 TypeV.row us) (.func 92 [.obj a 0]) (.int .i64 us.l.length)) m [.int .i64 i, w] σ = some (.done (.int .i64 (findI (typeF s) (us.l.drop i) i)) σ) := by
  intro k
  induction k with
  | zero =>
    intro i m w hi hm
    obtain ⟨m, rfl⟩ : ∃ j, m = j + 1 := ⟨m - 1, by omega⟩
    have hi' : ¬ ((i : Int) < us.l.length) := by omega
    rw [List.drop_eq_nil_of_le (by omega)]
    refine iterJ_done ?_
    simp -implicitDefEqProofs [L91_0, B91_0, hi', findI]
  | succ k ih =>
    intro i m w hi hm
    obtain ⟨m, rfl⟩ : ∃ j, m = j + 1 := ⟨m - 1, by omega⟩
    have hi' : ((i : Int) < us.l.length) := by omega
    obtain ⟨x, hx⟩ := get_some (by omega : i < us.l.length)
    have hwr := wrap_i (by omega : i < us.l.length) (by unfold maxLen; omega)
    have h1 := e92 ho ha (n := n) x (by have := hal x (List.mem_of_getElem? hx); omega) hn
    rw [drop_get hx, findI]
    cases hf : typeF s x <;> rw [hf] at h1
    · simp only [Bool.false_eq_true, if_false]
      rw [← ih (i + 1) m w (by omega) (by omega)]
      refine iterJ_next' ?_
      simp -implicitDefEqProofs [L91_0, B91_0, hi', hx, hwr, h1]
    · refine iterJ_done ?_
      simp -implicitDefEqProofs [L91_0, B91_0, hi', hx, hwr, h1]
end
theorem box_str (σ : Sto) (s : Bs) : boxOSem σ [.str s] = some (.obj σ.nobj 0, σ.new (.agg [.str s])) := rfl
theorem e47 {n : Nat} (hn : 2000 ≤ n) (p : PolV) (hp : SmallP p) (s : Bs) : cpJ PR n 47 [p.d, .str s] = some (.int .i64 (findI (userF s) p.users.l 0)) := by
  obtain ⟨n, rfl⟩ : ∃ m, n = m + 2 := ⟨n - 2, by omega⟩
  have hl := hp.users
  have h1 := l87 (n := n) (s := s) (a := emptySto.nobj) (σ := emptySto.new (.agg [.str s])) (by simp) (by simp) (by omega) p.users (by omega) p.users.l.length 0 n (.int .i64 0) (by omega) (by omega)
  simp only [Int.natCast_zero, List.drop_zero] at h1
  have h2 : ciJ PR (n + 1) 87 [slOf 11 UserV.row p.users, .func 88 [.obj emptySto.nobj 0]] (emptySto.new (.agg [.str s])) = some (.int .i64 (findI (userF s) p.users.l 0), emptySto.new (.agg [.str s])) := by
    rw [v87]
    simp -implicitDefEqProofs [D87, h1]
  rw [u47]
  simp -implicitDefEqProofs [D47, box_str, h2]
theorem e48 {n : Nat} (hn : 2000 ≤ n) (p : PolV) (hp : SmallP p) (s : Bs) : cpJ PR n 48 [p.d, .str s] = some (.int .i64 (findI (roleF s) p.roles.l 0)) := by
  obtain ⟨n, rfl⟩ : ∃ m, n = m + 2 := ⟨n - 2, by omega⟩
  have hl := hp.roles
  have h1 := l89 (n := n) (s := s) (a := emptySto.nobj) (σ := emptySto.new (.agg [.str s])) (by simp) (by simp) (by omega) p.roles (by omega) p.roles.l.length 0 n (.int .i64 0) (by omega) (by omega)
  simp only [Int.natCast_zero, List.drop_zero] at h1
  have h2 : ciJ PR (n + 1) 89 [slOf 9 RoleV.row p.roles, .func 90 [.obj emptySto.nobj 0]] (emptySto.new (.agg [.str s])) = some (.int .i64 (findI (roleF s) p.roles.l 0), emptySto.new (.agg [.str s])) := by
    rw [v89]
    simp -implicitDefEqProofs [D89, h1]
  rw [u48]
  simp -implicitDefEqProofs [D48, box_str, h2]
theorem e49 {n : Nat} (hn : 2000 ≤ n) (p : PolV) (hp : SmallP p) (s : Bs) : cpJ PR n 49 [p.d, .str s] = some (.int .i64 (findI (typeF s) p.types.l 0)) := by
  obtain ⟨n, rfl⟩ : ∃ m, n = m + 2 := ⟨n - 2, by omega⟩
  have hl := hp.types
  have h1 := l91 (n := n) (s := s) (a := emptySto.nobj) (σ := emptySto.new (.agg [.str s])) (by simp) (by simp) (by omega) p.types (by omega) hp.aliases p.types.l.length 0 n (.int .i64 0) (by omega) (by omega)
  simp only [Int.natCast_zero, List.drop_zero] at h1
  have h2 : ciJ PR (n + 1) 91 [slOf 3 TypeV.row p.types, .func 92 [.obj emptySto.nobj 0]] (emptySto.new (.agg [.str s])) = some (.int .i64 (findI (typeF s) p.types.l 0), emptySto.new (.agg [.str s])) := by
    rw [v91]
    simp -implicitDefEqProofs [D91, h1]
  rw [u49]
  simp -implicitDefEqProofs [D49, box_str, h2]
def refI (i : Int) : DVal := if i < 0 then .tup [.int .i64 0, .bool false] else .tup [.int .i64 i, .bool true]
@[simp] theorem back_refI (σ : Sto) (i : Int) : (refI i).handBack σ = some (refI i) := by unfold refI; split <;> rfl
theorem refI_nat (i : Nat) : refI (i : Int) = .tup [.int .i64 i, .bool true] := by rw [refI, if_neg (by omega)]
theorem l94 {n : Nat} (s : Bs) (p : PolV) (hl : p.users.l.length ≤ 1000) (σ : Sto) : ∀ (k i m : Nat) (w x : DVal), i + k = p.users.l.length → k < m →
    iterJ 0 (L94_0 (cpJ PR n) (ciJ PR n) n (.str s) p.d) m [.int .i64 i, w, x] σ = some (.done (refI (findI (userF s) (p.users.l.drop i) i)) σ) := by
  intro k
  induction k with
  | zero =>
    intro i m w x hi hm
    obtain ⟨m, rfl⟩ : ∃ j, m = j + 1 := ⟨m - 1, by omega⟩
    have hi' : ¬ ((i : Int) < p.users.l.length) := by omega
    rw [List.drop_eq_nil_of_le (by omega)]
    refine iterJ_done ?_
    simp -implicitDefEqProofs [L94_0, B94_0, hi', findI, refI]
  | succ k ih =>
    intro i m w x hi hm
    obtain ⟨m, rfl⟩ : ∃ j, m = j + 1 := ⟨m - 1, by omega⟩
    have hi' : ((i : Int) < p.users.l.length) := by omega
    obtain ⟨y, hy⟩ := get_some (by omega : i < p.users.l.length)
    have hwr := wrap_i (by omega : i < p.users.l.length) (by unfold maxLen; omega)
    rw [drop_get hy, findI]
    cases hf : userF s y
    · have hf' : (y.name == s) = false := hf
      simp only [Bool.false_eq_true, if_false]
      rw [← ih (i + 1) m w x (by omega) (by omega)]
      refine iterJ_next' ?_
      simp -implicitDefEqProofs [L94_0, B94_0, hi', hy, hwr, hf', -beq_iff_eq, -beq_eq_false_iff_ne]
    · have hf' : (y.name == s) = true := hf
      rw [if_pos rfl, refI_nat]
      refine iterJ_done ?_
      simp -implicitDefEqProofs [L94_0, B94_0, hi', hy, hwr, hf', -beq_iff_eq, -beq_eq_false_iff_ne]
theorem l95 {n : Nat} (s : Bs) (p : PolV) (hl : p.roles.l.length ≤ 1000) (σ : Sto) : ∀ (k i m : Nat) (w x : DVal), i + k = p.roles.l.length → k < m →
    iterJ 0 (L95_0 (cpJ PR n) (ciJ PR n) n (.str s) p.d) m [.int .i64 i, w, x] σ = some (.done (refI (findI (roleF s) (p.roles.l.drop i) i)) σ) := by
  intro k
  induction k with
  | zero =>
    intro i m w x hi hm
    obtain ⟨m, rfl⟩ : ∃ j, m = j + 1 := ⟨m - 1, by omega⟩
    have hi' : ¬ ((i : Int) < p.roles.l.length) := by omega
    rw [List.drop_eq_nil_of_le (by omega)]
    refine iterJ_done ?_
    simp -implicitDefEqProofs [L95_0, B95_0, hi', findI, refI]
  | succ k ih =>
    intro i m w x hi hm
    obtain ⟨m, rfl⟩ : ∃ j, m = j + 1 := ⟨m - 1, by omega⟩
    have hi' : ((i : Int) < p.roles.l.length) := by omega
    obtain ⟨y, hy⟩ := get_some (by omega : i < p.roles.l.length)
    have hwr := wrap_i (by omega : i < p.roles.l.length) (by unfold maxLen; omega)
    rw [drop_get hy, findI]
    cases hf : roleF s y
    · have hf' : (y.name == s) = false := hf
      simp only [Bool.false_eq_true, if_false]
      rw [← ih (i + 1) m w x (by omega) (by omega)]
      refine iterJ_next' ?_
      simp -implicitDefEqProofs [L95_0, B95_0, hi', hy, hwr, hf', -beq_iff_eq, -beq_eq_false_iff_ne]
    · have hf' : (y.name == s) = true := hf
      rw [if_pos rfl, refI_nat]
      refine iterJ_done ?_
      simp -implicitDefEqProofs [L95_0, B95_0, hi', hy, hwr, hf', -beq_iff_eq, -beq_eq_false_iff_ne]
theorem l129 {n : Nat} (z : Sl Bs) (s : Bs) (hl : z.l.length ≤ 1000) (σ : Sto) : ∀ (k i m : Nat) (w : DVal), i + k = z.l.length → k < m →
    iterJ 0 (L129_0 (cpJ PR n) (ciJ PR n) n (strs z) (.str s)) m [.int .i64 i, w] σ = some (.done (.int .i64 (idxAt s (z.l.drop i) i)) σ) := by
  intro k
  induction k with
  | zero =>
    intro i m w hi hm
    obtain ⟨m, rfl⟩ : ∃ j, m = j + 1 := ⟨m - 1, by omega⟩
    have hi' : ¬ ((i : Int) < z.l.length) := by omega
    rw [List.drop_eq_nil_of_le (by omega)]
    refine iterJ_done ?_
    simp -implicitDefEqProofs [L129_0, B129_0, hi', idxAt]
  | succ k ih =>
    intro i m w hi hm
    obtain ⟨m, rfl⟩ : ∃ j, m = j + 1 := ⟨m - 1, by omega⟩
    have hi' : ((i : Int) < z.l.length) := by omega
    obtain ⟨y, hy⟩ := get_some (by omega : i < z.l.length)
    have hwr := wrap_i (by omega : i < z.l.length) (by unfold maxLen; omega)
    rw [drop_get hy, idxAt]
    by_cases hf : y = s
    · subst hf
      rw [if_pos rfl]
      refine iterJ_done ?_
      simp -implicitDefEqProofs [L129_0, B129_0, hi', hy, hwr]
    · rw [if_neg hf]
      rw [← ih (i + 1) m w (by omega) (by omega)]
      refine iterJ_next' ?_
      simp -implicitDefEqProofs [L129_0, B129_0, hi', hy, hwr, hf]
end Go.Proofs.YthpccimmmfonjaaGreatDoor
namespace Go.Proofs.YthpccimmmfonjaaGreatDoor
set_option linter.unusedVariables false
set_option linter.unusedSimpArgs false
set_option maxRecDepth 20000
set_option maxHeartbeats 4000000
open Go
theorem e94 {n : Nat} (hn : 2000 ≤ n) (p : PolV) (hp : SmallP p) (s : Bs) : cpJ PR n 94 [p.d, .str s] = some (refI (findI (userF s) p.users.l 0)) := by
  obtain ⟨n, rfl⟩ : ∃ m, n = m + 1 := ⟨n - 1, by omega⟩
  have hl := hp.users
  have h1 := l94 (n := n) s p (by omega) emptySto p.users.l.length 0 n (.bool false) (.int .i64 0) (by omega) (by omega)
  simp only [Int.natCast_zero, List.drop_zero] at h1
  rw [u94]
  simp -implicitDefEqProofs [D94, h1]
theorem e95 {n : Nat} (hn : 2000 ≤ n) (p : PolV) (hp : SmallP p) (s : Bs) : cpJ PR n 95 [p.d, .str s] = some (refI (findI (roleF s) p.roles.l 0)) := by
  obtain ⟨n, rfl⟩ : ∃ m, n = m + 1 := ⟨n - 1, by omega⟩
  have hl := hp.roles
  have h1 := l95 (n := n) s p (by omega) emptySto p.roles.l.length 0 n (.bool false) (.int .i64 0) (by omega) (by omega)
  simp only [Int.natCast_zero, List.drop_zero] at h1
  rw [u95]
  simp -implicitDefEqProofs [D95, h1]
theorem e129 {n : Nat} (z : Sl Bs) (s : Bs) (hl : z.l.length ≤ 1000) (hn : 1100 ≤ n) : cpJ PR n 129 [strs z, .str s] = some (.int .i64 (idxAt s z.l 0)) := by
  obtain ⟨n, rfl⟩ : ∃ m, n = m + 1 := ⟨n - 1, by omega⟩
  have h1 := l129 (n := n) z s hl emptySto z.l.length 0 n (.int .i64 0) (by omega) (by omega)
  simp only [Int.natCast_zero, List.drop_zero] at h1
  rw [u129]
  simp -implicitDefEqProofs [D129, h1]
def envD (p : PolV) : DVal := .agg [slOf 3 TypeV.row p.types, slOf 5 AttrV.row p.attrs]
theorem l96 {n : Nat} (hn : 1100 ≤ n) (s : Bs) (p : PolV) (hp : SmallP p) (σ : Sto) : ∀ (k i m : Nat) (w x : DVal), i + k = p.types.l.length → k < m →
    iterJ 0 (L96_0 (cpJ PR n) (ciJ PR n) n (.str s) (envD p)) m [.int .i64 i, w, x] σ = some (.done (refI (findI (typeF s) (p.types.l.drop i) i)) σ) := by
  have hl := hp.types
  intro k
  induction k with
  | zero =>
    intro i m w x hi hm
    obtain ⟨m, rfl⟩ : ∃ j, m = j + 1 := ⟨m - 1, by omega⟩
    have hi' : ¬ ((i : Int) < p.types.l.length) := by omega
    rw [List.drop_eq_nil_of_le (by omega)]
    refine iterJ_done ?_
    simp -implicitDefEqProofs [L96_0, B96_0, envD, hi', findI, refI]
  | succ k ih =>
    intro i m w x hi hm
    obtain ⟨m, rfl⟩ : ∃ j, m = j + 1 := ⟨m - 1, by omega⟩
    have hi' : ((i : Int) < p.types.l.length) := by omega
    obtain ⟨y, hy⟩ := get_some (by omega : i < p.types.l.length)
    have hwr := wrap_i (by omega : i < p.types.l.length) (by unfold maxLen; omega)
    have hal := hp.aliases y (List.mem_of_getElem? hy)
    have h1 := e129 (n := n) y.aliases s (by omega) hn
    have h2 := idxAt_ge s y.aliases.l 0
    rw [drop_get hy, findI]
    by_cases hf : typeF s y = true
    · rw [if_pos hf, refI_nat]
      refine iterJ_done ?_
      cases hf' : (y.name == s)
      · have h3 : s ∈ y.aliases.l := by simpa [typeF, hf'] using hf
        have h4 := h2.2 h3
        simp -implicitDefEqProofs [L96_0, B96_0, envD, hi', hy, hwr, hf', h1, h4, -beq_iff_eq, -beq_eq_false_iff_ne]
      · simp -implicitDefEqProofs [L96_0, B96_0, envD, hi', hy, hwr, hf', -beq_iff_eq, -beq_eq_false_iff_ne]
    · rw [if_neg hf, ← ih (i + 1) m w x (by omega) (by omega)]
      refine iterJ_next' ?_
      have hf' : (y.name == s) = false := by
        cases h : (y.name == s)
        · rfl
        · exact absurd (by simp [typeF, h]) hf
      have h3 : ¬ s ∈ y.aliases.l := fun h => hf (by simp [typeF, h])
      have h4 : ¬ 0 ≤ idxAt s y.aliases.l 0 := fun h => h3 (h2.1 h)
      simp -implicitDefEqProofs [L96_0, B96_0, envD, hi', hy, hwr, hf', h1, h4, -beq_iff_eq, -beq_eq_false_iff_ne]
theorem e96 {n : Nat} (hn : 2000 ≤ n) (p : PolV) (hp : SmallP p) (s : Bs) : cpJ PR n 96 [.str s, .agg [slOf 3 TypeV.row p.types, slOf 5 AttrV.row p.attrs]] = some (refI (findI (typeF s) p.types.l 0)) := by
  obtain ⟨n, rfl⟩ : ∃ m, n = m + 1 := ⟨n - 1, by omega⟩
  have hl := hp.types
  have h1 := l96 (n := n) (by omega) s p hp emptySto p.types.l.length 0 n (.bool false) (.int .i64 0) (by omega) (by omega)
  simp only [Int.natCast_zero, List.drop_zero] at h1
  unfold envD at h1
  rw [u96]
  simp -implicitDefEqProofs [D96, h1]
def numI (i : Int) : Int := if i < 0 then 0 else i
theorem numI_nn {i : Int} (h : ¬ i < 0) : numI i = i := if_neg h
theorem refI_eq (i : Int) : refI i = .tup [.int .i64 (numI i), .bool (decide (0 ≤ i))] := by
  unfold refI numI
  by_cases h : i < 0
  · rw [if_pos h, if_pos h, decide_eq_false (by omega)]
  · rw [if_neg h, if_neg h, decide_eq_true (by omega)]
def LvV.z : LvV := ⟨0, 0, by decide⟩
def CtxV.z : CtxV := ⟨0, 0, 0, LvV.z, LvV.z⟩
abbrev rngA (l h : LvV) : DVal := .agg [.int .i64 l.s, .int .u64 l.c, .int .i64 h.s, .int .u64 h.c]
abbrev ctxA (u r t : Int) (l h : LvV) : DVal := .agg [.int .i64 u, .int .i64 r, .int .i64 t, .int .i64 l.s, .int .u64 l.c, .int .i64 h.s, .int .u64 h.c]
abbrev ctx0 (u r t : Int) : DVal := .agg [.int .i64 u, .int .i64 r, .int .i64 t, .int .i64 0, .int .u64 0, .int .i64 0, .int .u64 0]
def namedI (p : PolV) (a b c : Bs) : Int × Int × Int := (findI (userF a) p.users.l 0, findI (roleF b) p.roles.l 0, findI (typeF c) p.types.l 0)
def okI (x : Int × Int × Int) : Bool := decide (0 ≤ x.1) && decide (0 ≤ x.2.1) && decide (0 ≤ x.2.2)
theorem e51 {n : Nat} (hn : 2100 ≤ n) (p : PolV) (hp : SmallP p) (a b c : Bs) : cpJ PR n 51 [p.d, .str a, .str b, .str c] =
    some (.tup [ctx0 (numI (namedI p a b c).1) (numI (namedI p a b c).2.1) (numI (namedI p a b c).2.2), .bool (okI (namedI p a b c))]) := by
  obtain ⟨n, rfl⟩ : ∃ m, n = m + 1 := ⟨n - 1, by omega⟩
  have h1 := e94 (n := n) (by omega) p hp a
  have h2 := e95 (n := n) (by omega) p hp b
  have h3 := e96 (n := n) (by omega) p hp c
  rw [refI_eq] at h1 h2 h3
  rw [u51]
  unfold namedI okI
  simp only
  generalize decide (0 ≤ findI (userF a) p.users.l 0) = q1 at *
  generalize decide (0 ≤ findI (roleF b) p.roles.l 0) = q2 at *
  generalize decide (0 ≤ findI (typeF c) p.types.l 0) = q3 at *
  cases q1 <;> cases q2 <;> cases q3 <;> simp -implicitDefEqProofs [D51, h1, h2, h3]
def LPar (sens cats : List Bs) (s : Bs) (r : LvV × LvV × Int) : Prop := ∀ n z z', 24100 ≤ n → cpJ PR n 26 [.str s, strsD z sens, strsD z' cats] = some (.tup [rngA r.1 r.2.1, .int .i64 r.2.2])
theorem LvV.ext' {a b : LvV} (h1 : a.s = b.s) (h2 : (a.c : Int) = b.c) : a = b := by
  cases a; cases b
  simp only at h1 h2
  obtain rfl := h1
  obtain rfl := Int.ofNat_inj.1 h2
  rfl
structure Lev (sens cats : List Bs) : Prop where
  few : Few sens cats
  prop : propV sens cats = true
theorem names_dist {l : List Bs} : ∀ {pre rest : List Bs}, (∀ s ∈ rest, okName s = true) → (pre ++ rest).Nodup → distB pre rest = true
  | pre, [], _, _ => rfl
  | pre, s :: rest, h1, h2 => by
    rw [distB, h1 s (by simp)]
    have h3 : s ∉ pre := fun h => by
      have := (List.nodup_append.1 h2).2.2 s h s (by simp)
      exact this rfl
    have h4 := names_dist (l := l) (pre := pre ++ [s]) (rest := rest) (fun x hx => h1 x (by simp [hx])) (by simpa using h2)
    simp [h3, h4]
theorem Good'.lev {p : PolV} (g : Good' p) : Lev p.sens.l p.cats.l := by
  have h1 := g.small.sens
  have h2 := g.small.cats
  obtain ⟨c1, c2⟩ := g.cats
  have len : ∀ {s : Bs}, okName s = true → s.length ≤ 32 := fun h => by
    unfold okName at h
    simp only [Bool.and_eq_true, decide_eq_true_eq] at h
    exact h.1
  refine ⟨⟨by omega, by omega, fun s hs => ?_, fun s hs => ?_⟩, ?_⟩
  · have := len (c1.ok s hs); omega
  · have := len (c2.ok s hs); omega
  · have d1 := names_dist (l := []) (pre := []) c1.ok (by simpa using c1.nd)
    have d2 := names_dist (l := []) (pre := []) c2.ok (by simpa using c2.nd)
    have b1 : decide ((p.sens.l.length : Int) ≤ 16) = true := decide_eq_true (by omega)
    have b2 : decide ((p.cats.l.length : Int) ≤ 64) = true := decide_eq_true (by omega)
    simp [propV, properB, d1, d2, b1, b2]
theorem lpar_ex {sens cats : List Bs} (L : Lev sens cats) (s : Bs) (hs : s.length ≤ 1000) : ∃ r, LPar sens cats s r ∧ (r.2.2 = 0 → rangeV r.1.s r.1.c r.2.1.s r.2.1.c sens.length cats.length = true) := by
  obtain ⟨hF, hP⟩ := L
  cases hr : readP s with
  | none =>
    refine ⟨(LvV.z, LvV.z, 9), fun n z z' hn => e26_none (n := n) (by omega) z z' hF s hs hP hr, fun h => ?_⟩
    simp at h
  | some x =>
    obtain ⟨l, h⟩ := x
    obtain ⟨f1, f2⟩ := readP_few hs hr
    obtain ⟨t, c, e, hc, l1⟩ := levelV_form sens cats l.1 l.2
    obtain ⟨t', c', e', hc', l2⟩ := levelV_form sens cats h.1 h.2
    obtain ⟨a, d, a', d', f, hR⟩ := rangeRV_form t c e t' c' e' (h.1 = [] ∧ h.2 = [])
    have hd : d < 18446744073709551616 ∧ d' < 18446744073709551616 := by
      unfold rangeRV at hR
      repeat' split at hR
      all_goals
        simp only [DVal.tup.injEq, List.cons.injEq, DVal.agg.injEq, DVal.int.injEq, true_and, and_true] at hR
        omega
    refine ⟨(⟨a, d, hd.1⟩, ⟨a', d', hd.2⟩, f), fun n z z' hn => ?_, fun h0 => ?_⟩
    · have h6 := e56 (n := n - 1) (by omega) z z' .nil .nil hF l.1 h.1 l.2 h.2 f1 f2 t c e hc l1 t' c' e' hc' l2
      rw [hR] at h6
      exact e26_some (n := n) (by omega) z z' hF s hs hP hr h6
    · simp only at h0 ⊢
      subst h0
      exact (rangeRV_ok hc hc' l1 l2 hR).1
theorem lpar_text {sens cats : List Bs} (L : Lev sens cats) (lo hi : LvV) (hV : rangeV lo.s lo.c hi.s hi.c sens.length cats.length = true) : LPar sens cats (textV sens cats lo.s lo.c hi.s hi.c) (lo, hi, 0) := by
  obtain ⟨hF, hP⟩ := L
  obtain ⟨s, c, hc⟩ := lo
  obtain ⟨s', c', hc'⟩ := hi
  intro n z z' hn
  simp only at hV ⊢
  have hr : Rok c c' := ⟨hc, hc'⟩
  have hdom : domV s' c' s c = true := by
    simp only [rangeV, Bool.and_eq_true] at hV; exact hV.2
  obtain ⟨⟨i, i', rfl, rfl, hi, hi'⟩, hb, hb'⟩ := range_facts hr hV
  have v1 := validL_back hP hi hb
  have v2 := validL_back hP hi' hb'
  have w1 := render_back (i := i) hP hb
  have w2 := render_back (i := i') hP hb'
  have q1 := levelV_back hP hi hr.lo hb
  have q2 := levelV_back hP hi' hr.hi hb'
  have b1 := lvT_len hF hi hb
  have b2 := lvT_len hF hi' hb'
  have p1 := parsedP_complete v1
  have p2 := parsedP_complete v2
  have d1 := dash_render v1
  rw [w1] at p1 d1
  rw [w2] at p2
  have h0 : errV (propV sens cats) (rangeV i c i' c' sens.length cats.length) = 0 := by rw [hP, hV]; rfl
  unfold textV
  rw [if_pos h0]
  by_cases e : (i : Int) = i' ∧ c = c'
  · obtain ⟨e1, rfl⟩ := e
    obtain rfl : i = i' := by omega
    simp only [if_true, and_self, Int.toNat_natCast]
    have hcut := cut_miss d1
    have hread : readP (lvT sens cats i c) = some (lvlL sens cats i c, ([], [])) := by
      unfold readP
      rw [hcut]
      simp only [p1, Bool.false_eq_true, if_false]
    obtain ⟨t', d', f', hd', q3⟩ := levelV_form sens cats [] []
    have h31 : ∀ m, 20100 ≤ m → cpJ PR m 56 [rtA (lvlL sens cats i c) ([], []), strsD z sens, strsD z' cats] = some (rgE i c i c 0) := fun m hm => by
      have := e56 (n := m) hm z z' .nil .nil hF (lvlL sens cats i c).1 [] (lvlL sens cats i c).2 [] (lvlL_few _ _ _ _) (by simp) i c 0 hr.lo q1 t' d' f' hd' q3
      simpa [rangeRV] using this
    exact e26g (n := n) (by omega) z z' hF (lvT sens cats i c) (by omega) (by rw [hcut]; exact b1) (by rw [hcut]; simp) hP hread (h31 (n - 1) (by omega))
  · rw [if_neg e]
    simp only [Int.toNat_natCast]
    have hcut := cut_hit (b := lvT sens cats i' c') d1
    have hread : readP (lvT sens cats i c ++ 45 :: lvT sens cats i' c') = some (lvlL sens cats i c, lvlL sens cats i' c') := by
      unfold readP
      rw [hcut]
      simp only [p1, p2, if_true]
    have hne : ¬ ((lvlL sens cats i' c').1 = [] ∧ (lvlL sens cats i' c').2 = []) := fun h => (wordP_iff.1 v2.1).2 h.1
    have h31 : ∀ m, 20100 ≤ m → cpJ PR m 56 [rtA (lvlL sens cats i c) (lvlL sens cats i' c'), strsD z sens, strsD z' cats] = some (rgE i c i' c' 0) := fun m hm => by
      have := e56 (n := m) hm z z' .nil .nil hF (lvlL sens cats i c).1 (lvlL sens cats i' c').1 (lvlL sens cats i c).2 (lvlL sens cats i' c').2 (lvlL_few _ _ _ _) (lvlL_few _ _ _ _) i c 0 hr.lo q1 i' c' 0 hr.hi q2
      simpa only [rangeRV, ne_eq, not_true_eq_false, if_false, if_neg hne, hdom, if_true] using this
    exact e26g (n := n) (by omega) z z' hF (lvT sens cats i c ++ 45 :: lvT sens cats i' c') (by simp; omega) (by rw [hcut]; exact b1) (by rw [hcut]; exact b2) hP hread (h31 (n - 1) (by omega))
def parseC (p : PolV) (s : Bs) (r : LvV × LvV × Int) : CtxV × Int :=
  if (partsV s).length = 4 then
    (fun x : Int × Int × Int => if okI x = true then (if r.2.2 = 0 then (if checkC p ⟨x.1, x.2.1, x.2.2, r.1, r.2.1⟩ = 0 then (⟨x.1, x.2.1, x.2.2, r.1, r.2.1⟩, 0) else (CtxV.z, checkC p ⟨x.1, x.2.1, x.2.2, r.1, r.2.1⟩)) else (CtxV.z, r.2.2)) else (CtxV.z, 11))
      (namedI p ((partsV s).getD 0 []) ((partsV s).getD 1 []) ((partsV s).getD 2 []))
  else (CtxV.z, 9)
theorem okI_iff {x : Int × Int × Int} : okI x = true ↔ ¬ x.1 < 0 ∧ ¬ x.2.1 < 0 ∧ ¬ x.2.2 < 0 := by
  simp only [okI, Bool.and_eq_true, decide_eq_true_eq]; omega
theorem get_D {l : List Bs} {i : Nat} (h : i < l.length) : l[i]? = some (l.getD i []) := by
  obtain ⟨x, hx⟩ := get_some h
  rw [List.getD_eq_getElem?_getD, hx]; rfl
section
variable {n : Nat} (hn : 1100000 ≤ n) (p : PolV) (g : Good' p) (s : Bs) (hs : s.length ≤ 1000000) (r : LvV × LvV × Int)
include hn g hs
theorem e20 (hr : (partsV s).length = 4 → LPar p.sens.l p.cats.l ((partsV s).getD 3 []) r) : cpJ PR n 20 [p.d, .str s] = some (.tup [(parseC p s r).1.d, .int .i64 (parseC p s r).2]) := by
  obtain ⟨n, rfl⟩ : ∃ m, n = m + 1 := ⟨n - 1, by omega⟩
  obtain ⟨z, h1⟩ := e46 (n := n) s hs (by omega)
  rw [u20]
  unfold parseC
  by_cases h4 : (partsV s).length = 4
  · have hR : cpJ PR n 26 [.str ((partsV s).getD 3 []), strs p.sens, strs p.cats] = some (.tup [rngA r.1 r.2.1, .int .i64 r.2.2]) := hr h4 n p.sens.z p.cats.z (by omega)
    rw [if_pos h4]
    rw [decide_eq_true h4] at h1
    have g0 := get_D (l := partsV s) (i := 0) (by omega)
    have g1 := get_D (l := partsV s) (i := 1) (by omega)
    have g2 := get_D (l := partsV s) (i := 2) (by omega)
    have g3 := get_D (l := partsV s) (i := 3) (by omega)
    generalize (partsV s).getD 0 [] = a at *
    generalize (partsV s).getD 1 [] = b at *
    generalize (partsV s).getD 2 [] = c at *
    generalize (partsV s).getD 3 [] = d at *
    have k1 := e47 (n := n) (by omega) p g.small a
    have k2 := e48 (n := n) (by omega) p g.small b
    have k3 := e49 (n := n) (by omega) p g.small c
    change _ = some (DVal.int .i64 (namedI p a b c).1) at k1
    change _ = some (DVal.int .i64 (namedI p a b c).2.1) at k2
    change _ = some (DVal.int .i64 (namedI p a b c).2.2) at k3
    generalize namedI p a b c = x at *
    obtain ⟨u, ro, t⟩ := x
    obtain ⟨lo, hi, f⟩ := r
    simp only at *
    have k4 : cpJ PR n 13 [p.d, ctxA u ro t lo hi] = some (.int .i64 (checkC p ⟨u, ro, t, lo, hi⟩)) := e13 (n := n) (by omega) p ⟨u, ro, t, lo, hi⟩
    by_cases hok : okI (u, ro, t) = true
    · rw [if_pos hok]
      obtain ⟨o1, o2, o3⟩ := okI_iff.1 hok
      simp only at o1 o2 o3
      by_cases hf : f = 0
      · subst hf
        rw [if_pos rfl]
        by_cases hc : checkC p ⟨u, ro, t, lo, hi⟩ = 0
        · rw [if_pos hc]
          rw [hc] at k4
          simp -implicitDefEqProofs [D20, h1, g0, g1, g2, g3, k1, k2, k3, k4, o1, o2, o3, hR]
          rfl
        · rw [if_neg hc]
          have hc' : (checkC p ⟨u, ro, t, lo, hi⟩ != 0) = true := by simpa using hc
          simp -implicitDefEqProofs [D20, h1, g0, g1, g2, g3, k1, k2, k3, k4, o1, o2, o3, hR, hc]
          rfl
      · rw [if_neg hf]
        simp -implicitDefEqProofs [D20, h1, g0, g1, g2, g3, k1, k2, k3, o1, o2, o3, hR, hf]
        rfl
    · rw [if_neg hok]
      have hok' : u < 0 ∨ (¬ u < 0 ∧ ro < 0) ∨ (¬ u < 0 ∧ ¬ ro < 0 ∧ t < 0) := by
        have : ¬ (¬ u < 0 ∧ ¬ ro < 0 ∧ ¬ t < 0) := fun h => hok (okI_iff.2 h)
        omega
      rcases hok' with o1 | ⟨o1, o2⟩ | ⟨o1, o2, o3⟩
      · simp -implicitDefEqProofs [D20, h1, g0, g1, g2, k1, k2, k3, o1]
        rfl
      · simp -implicitDefEqProofs [D20, h1, g0, g1, g2, k1, k2, k3, o1, o2]
        rfl
      · simp -implicitDefEqProofs [D20, h1, g0, g1, g2, k1, k2, k3, o1, o2, o3]
        rfl
  · rw [if_neg h4]
    rw [decide_eq_false h4] at h1
    simp -implicitDefEqProofs [D20, h1]
    rfl
end
def textC (p : PolV) (c : CtxV) : Bs :=
  if checkC p c = 0 then ((at' p.users.l c.user).map UserV.name).getD [] ++ 58 :: (((at' p.roles.l c.role).map RoleV.name).getD [] ++ 58 :: (((at' p.types.l c.type).map TypeV.name).getD [] ++ 58 :: textV p.sens.l p.cats.l c.lo.s c.lo.c c.hi.s c.hi.c)) else []
theorem okName_len {s : Bs} (h : okName s = true) : s.length ≤ 32 := by
  unfold okName at h
  simp only [Bool.and_eq_true, decide_eq_true_eq] at h
  exact h.1
structure CtxOk (p : PolV) (c : CtxV) where
  u : UserV
  r : RoleV
  t : TypeV
  iu : Nat
  ir : Nat
  it : Nat
  eu : c.user = iu
  er : c.role = ir
  et : c.type = it
  hu : p.users.l[iu]? = some u
  hr : p.roles.l[ir]? = some r
  ht : p.types.l[it]? = some t
  rng : rngV p c.lo c.hi = true
theorem at_get {α : Type} {l : List α} {i : Int} {x : α} (h : at' l i = some x) : ∃ j : Nat, i = j ∧ l[j]? = some x := by
  unfold at' at h
  split at h
  · exact ⟨i.toNat, by omega, h⟩
  · cases h
theorem check_ok {p : PolV} {c : CtxV} (h : checkC p c = 0) : Nonempty (CtxOk p c) := by
  unfold checkC at h
  split at h
  · rename_i u r t h1 h2 h3
    obtain ⟨i1, e1, g1⟩ := at_get h1
    obtain ⟨i2, e2, g2⟩ := at_get h2
    obtain ⟨i3, e3, g3⟩ := at_get h3
    split at h
    · rename_i hr
      exact ⟨⟨u, r, t, i1, i2, i3, e1, e2, e3, g1, g2, g3, hr⟩⟩
    · simp at h
  · simp at h
end Go.Proofs.YthpccimmmfonjaaGreatDoor
namespace Go.Proofs.YthpccimmmfonjaaGreatDoor
set_option linter.unusedVariables false
set_option linter.unusedSimpArgs false
set_option maxRecDepth 20000
set_option maxHeartbeats 4000000
open Go
theorem textV_len {sens cats : List Bs} (L : Lev sens cats) (lo hi : LvV) (hV : rangeV lo.s lo.c hi.s hi.c sens.length cats.length = true) : (textV sens cats lo.s lo.c hi.s hi.c).length ≤ 50000 := by
  obtain ⟨hF, hP⟩ := L
  obtain ⟨s, c, hc⟩ := lo
  obtain ⟨s', c', hc'⟩ := hi
  simp only at hV ⊢
  obtain ⟨⟨i, i', rfl, rfl, hi, hi'⟩, hb, hb'⟩ := range_facts (⟨hc, hc'⟩ : Rok c c') hV
  have b1 := lvT_len hF hi hb
  have b2 := lvT_len hF hi' hb'
  unfold textV
  split
  · simp only [Int.toNat_natCast]
    split
    · omega
    · simp; omega
  · simp
theorem Good'.uname {p : PolV} (g : Good' p) {u : UserV} {i : Nat} (h : p.users.l[i]? = some u) : okName u.name = true :=
  g.users.ok _ (List.mem_map.2 ⟨u, List.mem_of_getElem? h, rfl⟩)
theorem Good'.rname {p : PolV} (g : Good' p) {u : RoleV} {i : Nat} (h : p.roles.l[i]? = some u) : okName u.name = true :=
  g.roles.ok _ (List.mem_map.2 ⟨u, List.mem_of_getElem? h, rfl⟩)
theorem Good'.tname {p : PolV} (g : Good' p) {u : TypeV} {i : Nat} (h : p.types.l[i]? = some u) : okName u.name = true :=
  g.types.ok _ (List.mem_flatMap.2 ⟨u, List.mem_of_getElem? h, by simp⟩)
theorem textC_ok {p : PolV} {c : CtxV} (h : checkC p c = 0) (X : CtxOk p c) : textC p c = X.u.name ++ 58 :: (X.r.name ++ 58 :: (X.t.name ++ 58 :: textV p.sens.l p.cats.l c.lo.s c.lo.c c.hi.s c.hi.c)) := by
  have a1 : at' p.users.l c.user = some X.u := by rw [X.eu, at', if_pos (by omega), Int.toNat_natCast, X.hu]
  have a2 : at' p.roles.l c.role = some X.r := by rw [X.er, at', if_pos (by omega), Int.toNat_natCast, X.hr]
  have a3 : at' p.types.l c.type = some X.t := by rw [X.et, at', if_pos (by omega), Int.toNat_natCast, X.ht]
  unfold textC
  rw [if_pos h, a1, a2, a3]
  rfl
theorem textC_len {p : PolV} (g : Good' p) (c : CtxV) : (textC p c).length ≤ 60000 := by
  by_cases h : checkC p c = 0
  · obtain ⟨X⟩ := check_ok h
    rw [textC_ok h X]
    have h1 := okName_len (g.uname X.hu)
    have h2 := okName_len (g.rname X.hr)
    have h3 := okName_len (g.tname X.ht)
    have h4 := textV_len g.lev c.lo c.hi X.rng
    simp
    omega
  · unfold textC; rw [if_neg h]; simp
section
variable {n : Nat} (hn : 30000 ≤ n) (p : PolV) (g : Good' p) (c : CtxV)
include hn g
theorem e18 : cpJ PR n 18 [p.d, c.d] = some (.tup [.str (textC p c), .int .i64 (checkC p c)]) := by
  obtain ⟨n, rfl⟩ : ∃ m, n = m + 1 := ⟨n - 1, by omega⟩
  have h1 := e13 (n := n) (by omega) p c
  rw [u18]
  by_cases h : checkC p c = 0
  · obtain ⟨X⟩ := check_ok h
    rw [textC_ok h X]
    rw [h] at h1 ⊢
    have L := g.lev
    have hV : rangeV c.lo.s c.lo.c c.hi.s c.hi.c p.sens.l.length p.cats.l.length = true := X.rng
    have h2 : cpJ PR n 27 [rngD c.lo c.hi, strs p.sens, strs p.cats] = some (.tup [.str (textV p.sens.l p.cats.l c.lo.s c.lo.c c.hi.s c.hi.c), .int .i64 0]) := by
      have := e27 (n := n) (by omega) p.sens.z p.cats.z L.few c.lo.s c.lo.c c.hi.s c.hi.c ⟨c.lo.lt, c.hi.lt⟩
      rw [L.prop, hV] at this
      exact this
    have b1 := okName_len (g.uname X.hu)
    have b2 := okName_len (g.rname X.hr)
    have b3 := okName_len (g.tname X.ht)
    have b4 := textV_len L c.lo c.hi hV
    have x1 := X.hu
    have x2 := X.hr
    have x3 := X.ht
    have y1 := X.eu
    have y2 := X.er
    have y3 := X.et
    generalize X.u = u at *
    generalize X.r = r at *
    generalize X.t = t at *
    generalize textV p.sens.l p.cats.l c.lo.s c.lo.c c.hi.s c.hi.c = w at *
    obtain ⟨w1, hw1⟩ : ∃ x, x = u.name ++ [58] := ⟨_, rfl⟩
    obtain ⟨w2, hw2⟩ : ∃ x, x = w1 ++ r.name := ⟨_, rfl⟩
    obtain ⟨w3, hw3⟩ : ∃ x, x = w2 ++ [58] := ⟨_, rfl⟩
    obtain ⟨w4, hw4⟩ : ∃ x, x = w3 ++ t.name := ⟨_, rfl⟩
    obtain ⟨w5, hw5⟩ : ∃ x, x = w4 ++ [58] := ⟨_, rfl⟩
    have l1 : w1.length ≤ 33 := by rw [hw1]; simp; omega
    have l2 : w2.length ≤ 65 := by rw [hw2]; simp; omega
    have l3 : w3.length ≤ 66 := by rw [hw3]; simp; omega
    have l4 : w4.length ≤ 98 := by rw [hw4]; simp; omega
    have l5 : w5.length ≤ 99 := by rw [hw5]; simp; omega
    have c1 : binStr .add u.name [58] = some (.str w1) := by rw [hw1]; exact addS (by simp; omega)
    have c2 : binStr .add w1 r.name = some (.str w2) := by rw [hw2]; exact addS (by omega)
    have c3 : binStr .add w2 [58] = some (.str w3) := by rw [hw3]; exact addS (by simp; omega)
    have c4 : binStr .add w3 t.name = some (.str w4) := by rw [hw4]; exact addS (by omega)
    have c5 : binStr .add w4 [58] = some (.str w5) := by rw [hw5]; exact addS (by simp; omega)
    have c6 : binStr .add w5 w = some (.str (u.name ++ 58 :: (r.name ++ 58 :: (t.name ++ 58 :: w)))) := by
      rw [addS (by omega), hw5, hw4, hw3, hw2, hw1]; simp
    simp -implicitDefEqProofs [-binStr.eq_1, D18, h1, h2, x1, x2, x3, y1, y2, y3, c1, c2, c3, c4, c5, c6]
  · have e : textC p c = [] := by unfold textC; rw [if_neg h]
    rw [e]
    have h' : (checkC p c != 0) = true := by simpa using h
    simp -implicitDefEqProofs [D18, h1, h]
end
theorem parts_four {a b c d : Bs} (ha : 58 ∉ a) (hb : 58 ∉ b) (hc : 58 ∉ c) : partsV (a ++ 58 :: (b ++ 58 :: (c ++ 58 :: d))) = [a, b, c, d] := by
  unfold partsV
  rw [cutK_hit ha, cutK_hit hb, cutK_hit hc]
  rfl
theorem okName_colon {s : Bs} (h : okName s = true) : 58 ∉ s := by
  unfold okName at h
  simp only [Bool.and_eq_true] at h
  exact not_mem_word (wordP_iff.1 h.2).1 isL_sp.1
theorem findI_at {α : Type} (f : α → Bool) : ∀ {l : List α} {j : Nat} {x : α} {i : Nat}, l[j]? = some x → f x = true → (∀ k y, k < j → l[k]? = some y → f y = false) → findI f l i = ((i + j : Nat) : Int)
  | [], j, x, i, h, _, _ => by simp at h
  | y :: l, 0, x, i, h, hx, _ => by
    simp only [List.getElem?_cons_zero, Option.some.injEq] at h
    subst h
    simp [findI, hx]
  | y :: l, j + 1, x, i, h, hx, hn => by
    have hy := hn 0 y (by omega) rfl
    rw [findI, hy]
    simp only [Bool.false_eq_true, if_false]
    rw [findI_at f (l := l) (j := j) (x := x) (i := i + 1) (by simpa using h) hx fun k z hk hz => hn (k + 1) z (by omega) (by simpa using hz)]
    congr 1
    omega
theorem nodup_get {α : Type} {l : List α} (h : l.Nodup) {i j : Nat} {x : α} (hi : l[i]? = some x) (hj : l[j]? = some x) : i = j := by
  obtain ⟨a, ha'⟩ := List.getElem?_eq_some_iff.1 hi
  obtain ⟨b, hb'⟩ := List.getElem?_eq_some_iff.1 hj
  have key := List.pairwise_iff_getElem.1 h
  rcases Nat.lt_trichotomy i j with hlt | he | hlt
  · exact absurd (ha'.trans hb'.symm) (key i j a b hlt)
  · exact he
  · exact absurd (hb'.trans ha'.symm) (key j i b a hlt)
theorem find_user {p : PolV} (g : Good' p) {i : Nat} {u : UserV} (h : p.users.l[i]? = some u) : findI (userF u.name) p.users.l 0 = i := by
  rw [findI_at (userF u.name) h (by simp [userF]) fun k y hk hy => ?_, Nat.zero_add]
  by_cases e : y.name = u.name
  · have := nodup_get g.users.nd (i := k) (j := i) (x := u.name) (by rw [List.getElem?_map, hy, ← e]; rfl) (by rw [List.getElem?_map, h]; rfl)
    omega
  · simpa [userF] using e
theorem find_role {p : PolV} (g : Good' p) {i : Nat} {u : RoleV} (h : p.roles.l[i]? = some u) : findI (roleF u.name) p.roles.l 0 = i := by
  rw [findI_at (roleF u.name) h (by simp [roleF]) fun k y hk hy => ?_, Nat.zero_add]
  by_cases e : y.name = u.name
  · have := nodup_get g.roles.nd (i := k) (j := i) (x := u.name) (by rw [List.getElem?_map, hy, ← e]; rfl) (by rw [List.getElem?_map, h]; rfl)
    omega
  · simpa [roleF] using e
theorem types_apart {p : PolV} (g : Good' p) {i k : Nat} {t y : TypeV} (hk : k < i) (h : p.types.l[i]? = some t) (hy : p.types.l[k]? = some y) : ∀ s, s ∈ t.name :: t.aliases.l → s ∉ y.name :: y.aliases.l := by
  have h1 : (p.types.l.flatMap fun t => t.name :: t.aliases.l).Pairwise (· ≠ ·) := g.types.nd
  rw [List.pairwise_flatMap] at h1
  obtain ⟨a, ha⟩ := List.getElem?_eq_some_iff.1 h
  obtain ⟨b, hb⟩ := List.getElem?_eq_some_iff.1 hy
  have h2 := (List.pairwise_iff_getElem.1 h1.2) k i b a hk
  rw [ha, hb] at h2
  intro s h3 h4
  exact h2 s h4 s h3 rfl
theorem find_type {p : PolV} (g : Good' p) {i : Nat} {t : TypeV} (h : p.types.l[i]? = some t) : findI (typeF t.name) p.types.l 0 = i := by
  rw [findI_at (typeF t.name) h (by simp [typeF]) fun k y hk hy => ?_, Nat.zero_add]
  have := types_apart g hk h hy t.name (by simp)
  simp only [List.mem_cons, not_or] at this
  simp only [typeF, Bool.or_eq_false_iff, decide_eq_false_iff_not, beq_eq_false_iff_ne]
  exact ⟨fun e => this.1 e.symm, this.2⟩
theorem parse_ok {p : PolV} {s : Bs} {r : LvV × LvV × Int} (h : (parseC p s r).2 = 0) : checkC p (parseC p s r).1 = 0 := by
  unfold parseC at h ⊢
  split
  · rename_i h4
    rw [if_pos h4] at h
    simp only at h ⊢
    split
    · rename_i h5
      rw [if_pos h5] at h
      split
      · rename_i h6
        rw [if_pos h6] at h
        split
        · rename_i h7; exact h7
        · rename_i h7
          rw [if_neg h7] at h
          exact absurd h h7
      · rename_i h6
        rw [if_neg h6] at h
        exact absurd h h6
    · rename_i h5
      rw [if_neg h5] at h
      simp at h
  · rename_i h4
    rw [if_neg h4] at h
    simp at h
theorem parse_bad {p : PolV} {s : Bs} {r : LvV × LvV × Int} (h : (parseC p s r).2 ≠ 0) : (parseC p s r).1 = CtxV.z := by
  unfold parseC at h ⊢
  simp only at h ⊢
  repeat' split
  all_goals first | rfl | skip
  rename_i h4 h5 h6 h7
  rw [if_pos h4, if_pos h5, if_pos h6, if_pos h7] at h
  exact absurd rfl h
theorem parse_text {p : PolV} (g : Good' p) {c : CtxV} (h : checkC p c = 0) : parseC p (textC p c) (c.lo, c.hi, 0) = (c, 0) ∧ ((partsV (textC p c)).length = 4 → LPar p.sens.l p.cats.l ((partsV (textC p c)).getD 3 []) (c.lo, c.hi, 0)) := by
  obtain ⟨X⟩ := check_ok h
  have hp : partsV (textC p c) = [X.u.name, X.r.name, X.t.name, textV p.sens.l p.cats.l c.lo.s c.lo.c c.hi.s c.hi.c] := by
    rw [textC_ok h X]
    exact parts_four (okName_colon (g.uname X.hu)) (okName_colon (g.rname X.hr)) (okName_colon (g.tname X.ht))
  constructor
  · unfold parseC
    rw [hp, if_pos (by rfl)]
    have e : namedI p X.u.name X.r.name X.t.name = (c.user, c.role, c.type) := by
      unfold namedI
      rw [find_user g X.hu, find_role g X.hr, find_type g X.ht, X.eu, X.er, X.et]
    have hok : okI (c.user, c.role, c.type) = true := okI_iff.2 ⟨by rw [X.eu]; simp, by rw [X.er]; simp, by rw [X.et]; simp⟩
    simp only [List.getD_cons_zero, List.getD_cons_succ, e]
    rw [if_pos hok]
    simp only [if_true]
    rw [if_pos h]
  · intro _
    rw [hp]
    exact lpar_text g.lev c.lo c.hi X.rng
theorem cutK_mem {c : UInt8} : ∀ {k : Nat} {s q : Bs}, q ∈ cutK c k s → q.length ≤ s.length
  | 0, s, q, h => by simp only [cutK, List.mem_singleton] at h; rw [h]; omega
  | k + 1, s, q, h => by
    rcases cut_exists c s with h1 | ⟨a, b, rfl, h1⟩
    · rw [cutK_miss h1, List.mem_singleton] at h
      rw [h]; omega
    · rw [cutK_hit h1, List.mem_cons] at h
      rcases h with rfl | h
      · simp
      · have := cutK_mem h
        simp; omega
theorem range_ex {p : PolV} (g : Good' p) (s : Bs) (hs : s.length ≤ 1000) : ∃ r, (partsV s).length = 4 → LPar p.sens.l p.cats.l ((partsV s).getD 3 []) r := by
  by_cases h4 : (partsV s).length = 4
  · have hm : (partsV s).getD 3 [] ∈ partsV s := List.mem_of_getElem? (get_D (by omega))
    obtain ⟨r, h1, -⟩ := lpar_ex g.lev ((partsV s).getD 3 []) (by have := cutK_mem hm; omega)
    exact ⟨r, fun _ => h1⟩
  · exact ⟨(LvV.z, LvV.z, 0), fun h => absurd h h4⟩
theorem build_ctx (C : CallP) : POp.sem C [] (.build [.int .i64 0, .int .i64 0, .int .i64 0, .int .i64 0, .int .u64 0, .int .i64 0, .int .u64 0] []) = some CtxV.z.d := rfl
theorem ctx_eq (a : CtxV) : eqaSem false [.i .i64, .i .i64, .i .i64, .i .i64, .i .u64, .i .i64, .i .u64] [a.d, a.d] = some (.bool true) := by
  obtain ⟨q, h1, h2⟩ := ctx_beq a a
  rw [h1, h2.2 rfl]
theorem ctx_ne (a : CtxV) : eqaSem true [.i .i64, .i .i64, .i .i64, .i .i64, .i .u64, .i .i64, .i .u64] [a.d, a.d] = some (.bool false) := by
  have h := ctx_eq a
  unfold eqaSem CtxV.d at *
  simp only [Option.map_eq_some_iff] at *
  obtain ⟨b, h1, h2⟩ := h
  simp only [Bool.false_eq_true, if_false, DVal.bool.injEq] at h2
  exact ⟨b, h1, by rw [h2]; rfl⟩
section
variable {n d : Nat} (hn : maxLen + 2000 + d ≤ n) (aw : cpJ PR n 12 [] = some (.bool true)) {p : PolV} (hf : PFit d p) (c : CtxV) (s : Bs)
include hn aw hf
theorem e5 : cpJ PR (n + 1) 5 [p.d, c.d, .str s] = some (.bool true) := by
  have hml : maxLen ≥ 9000000 := by unfold maxLen; omega
  obtain ⟨q, h1, hq⟩ := e11 hn hf
  rw [u5]
  cases q with
  | false => simp -implicitDefEqProofs [D5, h1, aw]
  | true =>
    have g := hq rfl
    by_cases hl : (400 : Int) < s.length
    · simp -implicitDefEqProofs [D5, h1, hl, aw]
    · have hs : s.length ≤ 400 := by omega
      obtain ⟨r, r1⟩ := range_ex g s (by omega)
      have h2 := e13 (n := n) (by omega) p c
      have h3 := e18 (n := n) (by omega) p g c
      have h4 := e20 (n := n) (by omega) p g s (by omega) r r1
      have hJ : L5_0 (cpJ PR n) (ciJ PR n) n (.str s) p.d [.bool false] emptySto = some (.done (.bool true) emptySto) := by
        unfold L5_0
        rw [show [DVal.bool false].getD 0 .undef = .bool false from rfl]
        by_cases he : (parseC p s r).2 = 0
        · have k0 := parse_ok he
          generalize (parseC p s r).1 = x at *
          rw [he] at h4
          have k1 := e13 (n := n) (by omega) p x
          have k2 := e18 (n := n) (by omega) p g x
          obtain ⟨k3, k4⟩ := parse_text g k0
          have k5 := e20 (n := n) (by omega) p g (textC p x) (by have := textC_len g x; omega) _ k4
          rw [k3] at k5
          rw [k0] at k1 k2
          have k6 := ctx_eq x
          simp -implicitDefEqProofs [J5_0, h4, k1, k2, k5, k6, aw, -eqaSem.eq_1]
        · have k0 := parse_bad he
          rw [k0] at h4
          have k6 := ctx_eq CtxV.z
          have k7 := build_ctx (cpJ PR n)
          simp -implicitDefEqProofs [J5_0, h4, he, k6, k7, aw, -eqaSem.eq_1, -POp.sem.eq_17]
      by_cases hc : checkC p c = 0
      · obtain ⟨k3, k4⟩ := parse_text g hc
        have k5 := e20 (n := n) (by omega) p g (textC p c) (by have := textC_len g c; omega) _ k4
        rw [k3] at k5
        rw [hc] at h2 h3
        have k6 := ctx_ne c
        simp -implicitDefEqProofs [D5, h1, hl, h2, h3, k5, k6, hJ, -eqaSem.eq_1]
      · simp -implicitDefEqProofs [D5, h1, hl, h2, hc, hJ]
theorem e7 : cpJ PR (n + 1) 7 [p.d, c.d, .str s] = some (.bool true) := by
  have hml : maxLen ≥ 9000000 := by unfold maxLen; omega
  obtain ⟨q, h1, hq⟩ := e11 hn hf
  rw [u7]
  cases q with
  | false => simp -implicitDefEqProofs [D7, h1, aw]
  | true =>
  have g := hq rfl
  by_cases hl : (300 : Int) < s.length
  · simp -implicitDefEqProofs [D7, h1, hl, aw]
  by_cases hu0 : p.users.l.length = 0
  · simp -implicitDefEqProofs [D7, h1, hl, hu0, aw]
  have hu0' : ((p.users.l.length : Int) == 0) = false := beq_eq_false_iff_ne.2 (by omega)
  by_cases ht0 : p.types.l.length = 0
  · simp -implicitDefEqProofs [D7, h1, hl, hu0', ht0, aw, -beq_iff_eq, -beq_eq_false_iff_ne]
  have ht0' : ((p.types.l.length : Int) == 0) = false := beq_eq_false_iff_ne.2 (by omega)
  have hs : s.length ≤ 300 := by omega
  obtain ⟨u, hu⟩ := get_some (l := p.users.l) (i := 0) (by omega)
  obtain ⟨t, ht⟩ := get_some (l := p.types.l) (i := 0) (by omega)
  obtain ⟨ro, hro, hrn⟩ : ∃ ro, p.roles.l[0]? = some ro ∧ ro.name = objRole := by
    have := g.roles.first
    rw [List.getElem?_map, Option.map_eq_some_iff] at this
    exact this
  obtain ⟨r, r1, r3⟩ := lpar_ex g.lev s (by omega)
  obtain ⟨begin, hbeg⟩ : ∃ x, x = u.name ++ 58 :: (objRole ++ 58 :: (t.name ++ 58 :: s)) := ⟨_, rfl⟩
  have hobj : objRole = [111, 98, 106, 101, 99, 116, 95, 114] := rfl
  have hparts : partsV begin = [u.name, objRole, t.name, s] := by
    rw [hbeg]
    exact parts_four (okName_colon (g.uname hu)) (by decide) (okName_colon (g.tname ht))
  have b1 := okName_len (g.uname hu)
  have b3 := okName_len (g.tname ht)
  have hblen : begin.length ≤ 400 := by rw [hbeg, hobj]; simp; omega
  have h2 := e20 (n := n) (by omega) p g begin (by omega) r (by rw [hparts]; exact fun _ => r1)
  have hpc : parseC p begin r = if r.2.2 = 0 then (⟨0, 0, 0, r.1, r.2.1⟩, 0) else (CtxV.z, r.2.2) := by
    unfold parseC
    rw [hparts, if_pos (by rfl)]
    have e : namedI p u.name objRole t.name = (0, 0, 0) := by
      unfold namedI
      rw [find_user g hu, ← hrn, find_role g hro, find_type g ht]
      rfl
    simp only [List.getD_cons_zero, List.getD_cons_succ, e]
    rw [if_pos (by rfl)]
    split
    · rename_i h0
      have hc : checkC p ⟨0, 0, 0, r.1, r.2.1⟩ = 0 := by
        unfold checkC
        have a1 : at' p.users.l 0 = some u := hu
        have a2 : at' p.roles.l 0 = some ro := hro
        have a3 : at' p.types.l 0 = some t := ht
        have a4 : rngV p r.1 r.2.1 = true := r3 h0
        simp only
        rw [a1, a2, a3]
        simp only
        rw [if_pos a4]
        rfl
      rw [if_pos hc]
    · rfl
  rw [hpc] at h2
  have h3 : cpJ PR n 26 [.str s, strs p.sens, strs p.cats] = some (.tup [rngA r.1 r.2.1, .int .i64 r.2.2]) := r1 n p.sens.z p.cats.z (by omega)
  have h4 := e18 (n := n) (by omega) p g c
  obtain ⟨w1, hw1⟩ : ∃ x, x = u.name ++ [58] := ⟨_, rfl⟩
  obtain ⟨w2, hw2⟩ : ∃ x, x = w1 ++ [111, 98, 106, 101, 99, 116, 95, 114] := ⟨_, rfl⟩
  obtain ⟨w3, hw3⟩ : ∃ x, x = w2 ++ [58] := ⟨_, rfl⟩
  obtain ⟨w4, hw4⟩ : ∃ x, x = w3 ++ t.name := ⟨_, rfl⟩
  obtain ⟨w5, hw5⟩ : ∃ x, x = w4 ++ [58] := ⟨_, rfl⟩
  have l1 : w1.length ≤ 33 := by rw [hw1]; simp; omega
  have l2 : w2.length ≤ 65 := by rw [hw2]; simp; omega
  have l3 : w3.length ≤ 66 := by rw [hw3]; simp; omega
  have l4 : w4.length ≤ 98 := by rw [hw4]; simp; omega
  have l5 : w5.length ≤ 99 := by rw [hw5]; simp; omega
  have c1 : binStr .add u.name [58] = some (.str w1) := by rw [hw1]; exact addS (by simp; omega)
  have c2 : binStr .add w1 [111, 98, 106, 101, 99, 116, 95, 114] = some (.str w2) := by rw [hw2]; exact addS (by simp; omega)
  have c3 : binStr .add w2 [58] = some (.str w3) := by rw [hw3]; exact addS (by simp; omega)
  have c4 : binStr .add w3 t.name = some (.str w4) := by rw [hw4]; exact addS (by omega)
  have c5 : binStr .add w4 [58] = some (.str w5) := by rw [hw5]; exact addS (by simp; omega)
  have c6 : binStr .add w5 s = some (.str begin) := by
    rw [addS (by omega), hw5, hw4, hw3, hw2, hw1, hbeg, hobj]; simp
  have hsec : ∀ k : Option Out, k = some (.done (.bool true) emptySto) → k = some (.done (.bool true) emptySto) := fun _ h => h
  by_cases hc : checkC p c = 0
  · obtain ⟨X⟩ := check_ok hc
    have hV : rangeV c.lo.s c.lo.c c.hi.s c.hi.c p.sens.l.length p.cats.l.length = true := X.rng
    have h5 : cpJ PR n 27 [rngD c.lo c.hi, strs p.sens, strs p.cats] = some (.tup [.str (textV p.sens.l p.cats.l c.lo.s c.lo.c c.hi.s c.hi.c), .int .i64 0]) := by
      have := e27 (n := n) (by omega) p.sens.z p.cats.z g.lev.few c.lo.s c.lo.c c.hi.s c.hi.c ⟨c.lo.lt, c.hi.lt⟩
      rw [g.lev.prop, hV] at this
      exact this
    rw [textC_ok hc X, hc] at h4
    have d1 := okName_len (g.uname X.hu)
    have d2 := okName_len (g.rname X.hr)
    have d3 := okName_len (g.tname X.ht)
    have d4 := textV_len g.lev c.lo c.hi hV
    have x1 := X.hu
    have x2 := X.hr
    have x3 := X.ht
    have y1 := X.eu
    have y2 := X.er
    have y3 := X.et
    generalize X.u = u' at *
    generalize X.r = r' at *
    generalize X.t = t' at *
    generalize textV p.sens.l p.cats.l c.lo.s c.lo.c c.hi.s c.hi.c = w at *
    obtain ⟨v1, hv1⟩ : ∃ x, x = u'.name ++ [58] := ⟨_, rfl⟩
    obtain ⟨v2, hv2⟩ : ∃ x, x = v1 ++ r'.name := ⟨_, rfl⟩
    obtain ⟨v3, hv3⟩ : ∃ x, x = v2 ++ [58] := ⟨_, rfl⟩
    obtain ⟨v4, hv4⟩ : ∃ x, x = v3 ++ t'.name := ⟨_, rfl⟩
    obtain ⟨v5, hv5⟩ : ∃ x, x = v4 ++ [58] := ⟨_, rfl⟩
    have m1 : v1.length ≤ 33 := by rw [hv1]; simp; omega
    have m2 : v2.length ≤ 65 := by rw [hv2]; simp; omega
    have m3 : v3.length ≤ 66 := by rw [hv3]; simp; omega
    have m4 : v4.length ≤ 98 := by rw [hv4]; simp; omega
    have m5 : v5.length ≤ 99 := by rw [hv5]; simp; omega
    have n1 : binStr .add u'.name [58] = some (.str v1) := by rw [hv1]; exact addS (by simp; omega)
    have n2 : binStr .add v1 r'.name = some (.str v2) := by rw [hv2]; exact addS (by omega)
    have n3 : binStr .add v2 [58] = some (.str v3) := by rw [hv3]; exact addS (by simp; omega)
    have n4 : binStr .add v3 t'.name = some (.str v4) := by rw [hv4]; exact addS (by omega)
    have n5 : binStr .add v4 [58] = some (.str v5) := by rw [hv5]; exact addS (by simp; omega)
    have n6 : binStr .add v5 w = some (.str (u'.name ++ 58 :: (r'.name ++ 58 :: (t'.name ++ 58 :: w)))) := by
      rw [addS (by omega), hv5, hv4, hv3, hv2, hv1]; simp
    have k8 : binStr .eql (u'.name ++ 58 :: (r'.name ++ 58 :: (t'.name ++ 58 :: w))) (u'.name ++ 58 :: (r'.name ++ 58 :: (t'.name ++ 58 :: w))) = some (.bool true) := by simp [binStr]
    generalize u'.name ++ 58 :: (r'.name ++ 58 :: (t'.name ++ 58 :: w)) = W at *
    by_cases h0 : r.2.2 = 0
    · rw [if_pos h0] at h2
      rw [h0] at h3
      have k6 := ctx_ne ⟨0, 0, 0, r.1, r.2.1⟩
      have k7 : ctxA 0 0 0 r.1 r.2.1 = (⟨0, 0, 0, r.1, r.2.1⟩ : CtxV).d := rfl
      simp -implicitDefEqProofs [-binStr.eq_1, D7, h1, hl, hu0', ht0', hu, ht, c1, c2, c3, c4, c5, c6, h2, h3, k6, k7, h4, h5, x1, x2, x3, y1, y2, y3, n1, n2, n3, n4, n5, n6, k8, aw, -eqaSem.eq_1, -beq_iff_eq, -beq_eq_false_iff_ne]
    · rw [if_neg h0] at h2
      have h0' : (r.2.2 == 0) = false := beq_eq_false_iff_ne.2 h0
      simp -implicitDefEqProofs [-binStr.eq_1, D7, h1, hl, hu0', ht0', hu, ht, c1, c2, c3, c4, c5, c6, h2, h3, h0', h4, h5, x1, x2, x3, y1, y2, y3, n1, n2, n3, n4, n5, n6, k8, aw, -eqaSem.eq_1, -beq_iff_eq, -beq_eq_false_iff_ne]
  · by_cases h0 : r.2.2 = 0
    · rw [if_pos h0] at h2
      rw [h0] at h3
      have k6 := ctx_ne ⟨0, 0, 0, r.1, r.2.1⟩
      have k7 : ctxA 0 0 0 r.1 r.2.1 = (⟨0, 0, 0, r.1, r.2.1⟩ : CtxV).d := rfl
      simp -implicitDefEqProofs [-binStr.eq_1, D7, h1, hl, hu0', ht0', hu, ht, c1, c2, c3, c4, c5, c6, h2, h3, k6, k7, h4, hc, aw, -eqaSem.eq_1, -beq_iff_eq, -beq_eq_false_iff_ne]
    · rw [if_neg h0] at h2
      have h0' : (r.2.2 == 0) = false := beq_eq_false_iff_ne.2 h0
      simp -implicitDefEqProofs [-binStr.eq_1, D7, h1, hl, hu0', ht0', hu, ht, c1, c2, c3, c4, c5, c6, h2, h3, h0', h4, hc, aw, -eqaSem.eq_1, -beq_iff_eq, -beq_eq_false_iff_ne]
end
end Go.Proofs.YthpccimmmfonjaaGreatDoor
namespace Go.Proofs.YthpccimmmfonjaaGreatDoor
set_option linter.unusedVariables false
set_option linter.unusedSimpArgs false
set_option maxRecDepth 20000
set_option maxHeartbeats 4000000
open Go
def ctxAt (u r t : Nat) (d : LvV) : CtxV := ⟨u, r, t, d, d⟩
def allT (p : PolV) (u r : Nat) (d : LvV) : Nat → Nat → List CtxV
  | _, 0 => []
  | t, k + 1 => (if checkC p (ctxAt u r t d) = 0 then [ctxAt u r t d] else []) ++ allT p u r d (t + 1) k
def allR (p : PolV) (u : Nat) (d : LvV) : Nat → Nat → List CtxV
  | _, 0 => []
  | r, k + 1 => allT p u r d 0 p.types.l.length ++ allR p u d (r + 1) k
def allU (p : PolV) : Nat → List UserV → List CtxV
  | _, [] => []
  | u, x :: l => allR p u x.dflt 0 p.roles.l.length ++ allU p (u + 1) l
def allC (p : PolV) : List CtxV := allU p 0 p.users.l
theorem allT_len {p : PolV} {u r : Nat} {d : LvV} : ∀ {k t : Nat}, (allT p u r d t k).length ≤ k
  | 0, t => by simp [allT]
  | k + 1, t => by
    have := allT_len (p := p) (u := u) (r := r) (d := d) (k := k) (t := t + 1)
    rw [allT, List.length_append]
    split <;> simp <;> omega
theorem allR_len {p : PolV} (hp : SmallP p) {u : Nat} {d : LvV} : ∀ {k r : Nat}, (allR p u d r k).length ≤ 12 * k
  | 0, r => by simp [allR]
  | k + 1, r => by
    have h1 := allR_len hp (u := u) (d := d) (k := k) (r := r + 1)
    have h2 := allT_len (p := p) (u := u) (r := r) (d := d) (k := p.types.l.length) (t := 0)
    have h3 := hp.types
    rw [allR, List.length_append]
    omega
abbrev crows (l : List CtxV) : List (List DVal) := l.map CtxV.row
theorem own_ctx {σ : Sto} {v : DVal} {L : List CtxV} (c : CtxV) (h : Own σ 7 v (crows L)) (hl : L.length ≤ 100000) : ∃ v' σ', app2Sem false 7 σ [v, .slice false 1 7 [c.row]] = some (v', σ') ∧ Own σ' 7 v' (crows (L ++ [c])) := by
  obtain ⟨v', σ', h1, h2⟩ := own_one (own := 1) (r := c.row) h (by simp; omega)
  exact ⟨v', σ', h1, by simpa [crows] using h2⟩
theorem bslice_ctx (C : CallP) (c : CtxV) : POp.sem C [c.d] (.bslice false 7) = some (.slice false 1 7 [c.row]) := by
  have h : sealCells c.d.cells = some c.row := rfl
  have h2 : c.d.cells.length = 7 := rfl
  simp [POp.sem, sealElems, h, h2]
section
variable {n : Nat} (hn : 2000 ≤ n) {p : PolV} (hp : SmallP p)
include hn hp
theorem l22_0 (u r : Nat) (d : LvV) (x : DVal) (hx : x = .int .i64 p.types.l.length) : ∀ (k i m : Nat) (L : List CtxV) (v : DVal) (σ : Sto), i + k = p.types.l.length → k < m → Own σ 7 v (crows L) → L.length + k ≤ 10000 → r + 1 ≤ 100 →
    ∃ v' σ', iterJ 2 (L22_0 (cpJ PR n) (ciJ PR n) n p.d (.int .i64 u) d.d (.int .i64 r) x) m [.int .i64 i, v] σ = some (.next 1 [.int .i64 ((r + 1 : Nat) : Int), v'] σ') ∧ Own σ' 7 v' (crows (L ++ allT p u r d i k)) := by
  subst hx
  intro k
  induction k with
  | zero =>
    intro i m L v σ hi hm hv hL hr
    obtain ⟨m, rfl⟩ : ∃ j, m = j + 1 := ⟨m - 1, by omega⟩
    have hi' : ¬ ((i : Int) < p.types.l.length) := by omega
    have hwr := wrap_succ (i := r) (by omega)
    refine ⟨v, σ, ?_, by simpa [allT] using hv⟩
    refine iterJ_out ?_ (by decide)
    simp -implicitDefEqProofs [L22_0, B22_0, hi']
    exact hwr
  | succ k ih =>
    intro i m L v σ hi hm hv hL hr
    obtain ⟨m, rfl⟩ : ∃ j, m = j + 1 := ⟨m - 1, by omega⟩
    have hlen := hp.types
    have hi' : ((i : Int) < p.types.l.length) := by omega
    have hwr := wrap_i (by omega : i < p.types.l.length) (by unfold maxLen; omega)
    have h1 : cpJ PR n 13 [p.d, ctxA u r i d d] = some (.int .i64 (checkC p (ctxAt u r i d))) := e13 (n := n) (by omega) p (ctxAt u r i d)
    rw [allT]
    by_cases hc : checkC p (ctxAt u r i d) = 0
    · rw [if_pos hc]
      rw [hc] at h1
      obtain ⟨v1, σ1, h2, h3⟩ := own_ctx (ctxAt u r i d) hv (by omega)
      have h4 : POp.sem (cpJ PR n) [ctxA u r i d d] (.bslice false 7) = some (.slice false 1 7 [(ctxAt u r i d).row]) := bslice_ctx _ (ctxAt u r i d)
      obtain ⟨v', σ', h5, h6⟩ := ih (i + 1) m (L ++ [ctxAt u r i d]) v1 σ1 (by omega) (by omega) h3 (by simp; omega) hr
      refine ⟨v', σ', ?_, by simpa using h6⟩
      rw [← h5]
      refine iterJ_next' ?_
      simp -implicitDefEqProofs [L22_0, B22_0, hi', hwr, h1, h2, h4, LvV.d, LvV.row, -POp.sem.eq_18]
    · rw [if_neg hc]
      obtain ⟨v', σ', h5, h6⟩ := ih (i + 1) m L v σ (by omega) (by omega) hv (by omega) hr
      refine ⟨v', σ', ?_, by simpa using h6⟩
      rw [← h5]
      refine iterJ_next' ?_
      simp -implicitDefEqProofs [L22_0, B22_0, hi', hwr, h1, hc, LvV.d, LvV.row]
theorem l22_1 (u : Nat) (d : LvV) (x : DVal) (hx : x = .int .i64 p.roles.l.length) (hu : u + 1 ≤ 100) (hm0 : 1000 ≤ n) : ∀ (k i m : Nat) (L : List CtxV) (v : DVal) (σ : Sto), i + k = p.roles.l.length → k < m → Own σ 7 v (crows L) → L.length + 12 * k ≤ 5000 →
    ∃ v' σ', iterJ 1 (L22_1 (cpJ PR n) (ciJ PR n) n p.d (.int .i64 u) d.d x) m [.int .i64 i, v] σ = some (.next 0 [.int .i64 ((u + 1 : Nat) : Int), v'] σ') ∧ Own σ' 7 v' (crows (L ++ allR p u d i k)) := by
  subst hx
  intro k
  induction k with
  | zero =>
    intro i m L v σ hi hm hv hL
    obtain ⟨m, rfl⟩ : ∃ j, m = j + 1 := ⟨m - 1, by omega⟩
    have hi' : ¬ ((i : Int) < p.roles.l.length) := by omega
    have hwr := wrap_succ (i := u) (by omega)
    refine ⟨v, σ, ?_, by simpa [allR] using hv⟩
    refine iterJ_out ?_ (by decide)
    simp -implicitDefEqProofs [L22_1, B22_1, hi']
    exact hwr
  | succ k ih =>
    intro i m L v σ hi hm hv hL
    obtain ⟨m, rfl⟩ : ∃ j, m = j + 1 := ⟨m - 1, by omega⟩
    have hlen := hp.roles
    have hlen2 := hp.types
    have hi' : ((i : Int) < p.roles.l.length) := by omega
    obtain ⟨v1, σ1, h1, h2⟩ := l22_0 hn hp u i d (.int .i64 p.types.l.length) rfl p.types.l.length 0 n L v σ (by omega) (by omega) hv (by omega) (by omega)
    have hla := allT_len (p := p) (u := u) (r := i) (d := d) (k := p.types.l.length) (t := 0)
    obtain ⟨v', σ', h5, h6⟩ := ih (i + 1) m (L ++ allT p u i d 0 p.types.l.length) v1 σ1 (by omega) (by omega) h2 (by rw [List.length_append]; omega)
    refine ⟨v', σ', ?_, by rw [allR]; simpa using h6⟩
    rw [← h5]
    refine iterJ_next' ?_
    simp only [Int.natCast_zero] at h1
    simp -implicitDefEqProofs [L22_1, B22_1, hi', h1]
theorem l22_2 (x : DVal) (hx : x = .int .i64 p.users.l.length) : ∀ (k i m : Nat) (L : List CtxV) (v : DVal) (σ : Sto), i + k = p.users.l.length → k < m → Own σ 7 v (crows L) → L.length + 96 * k ≤ 1000 →
    ∃ v' σ', iterJ 0 (L22_2 (cpJ PR n) (ciJ PR n) n p.d x) m [.int .i64 i, v] σ = some (.done v' σ') ∧ Own σ' 7 v' (crows (L ++ allU p i (p.users.l.drop i))) := by
  subst hx
  intro k
  induction k with
  | zero =>
    intro i m L v σ hi hm hv hL
    obtain ⟨m, rfl⟩ : ∃ j, m = j + 1 := ⟨m - 1, by omega⟩
    have hi' : ¬ ((i : Int) < p.users.l.length) := by omega
    refine ⟨v, σ, ?_, by rw [List.drop_eq_nil_of_le (by omega)]; simpa [allU] using hv⟩
    refine iterJ_done ?_
    simp -implicitDefEqProofs [L22_2, B22_2, hi', own_okVal hv]
  | succ k ih =>
    intro i m L v σ hi hm hv hL
    obtain ⟨m, rfl⟩ : ∃ j, m = j + 1 := ⟨m - 1, by omega⟩
    have hlen := hp.users
    have hlen2 := hp.roles
    have hi' : ((i : Int) < p.users.l.length) := by omega
    obtain ⟨y, hy⟩ := get_some (by omega : i < p.users.l.length)
    obtain ⟨v1, σ1, h1, h2⟩ := l22_1 hn hp i y.dflt (.int .i64 p.roles.l.length) rfl (by omega) (by omega) p.roles.l.length 0 n L v σ (by omega) (by omega) hv (by omega)
    have hla := allR_len hp (u := i) (d := y.dflt) (k := p.roles.l.length) (r := 0)
    obtain ⟨v', σ', h5, h6⟩ := ih (i + 1) m (L ++ allR p i y.dflt 0 p.roles.l.length) v1 σ1 (by omega) (by omega) h2 (by rw [List.length_append]; omega)
    refine ⟨v', σ', ?_, by rw [drop_get hy, allU]; simpa using h6⟩
    rw [← h5]
    refine iterJ_next' ?_
    simp only [Int.natCast_zero] at h1
    have h7 : jwrSem 0 2 [.agg [.int .i64 0, .int .u64 0], y.dflt.d] = some y.dflt.d := LvV_wr y.dflt _ _
    simp -implicitDefEqProofs [L22_2, B22_2, hi', hy, h1]
theorem l23_0 (u r : Nat) (y : UserV) (hy : p.users.l[u]? = some y) : ∀ (k i m : Nat) (L : List CtxV) (v : DVal) (σ : Sto), i + k = p.types.l.length → k < m → Own σ 7 v (crows L) → L.length + k ≤ 10000 → r + 1 ≤ 100 →
    ∃ v' σ', iterJ 2 (L23_0 (cpJ PR n) (ciJ PR n) n p.d (.int .i64 u) (.int .i64 r)) m [.int .i64 i, v] σ = some (.next 1 [.int .i64 ((r + 1 : Nat) : Int), v'] σ') ∧ Own σ' 7 v' (crows (L ++ allT p u r y.dflt i k)) := by
  intro k
  induction k with
  | zero =>
    intro i m L v σ hi hm hv hL hr
    obtain ⟨m, rfl⟩ : ∃ j, m = j + 1 := ⟨m - 1, by omega⟩
    have hi' : ¬ ((i : Int) < p.types.l.length) := by omega
    have hwr := wrap_succ (i := r) (by omega)
    refine ⟨v, σ, ?_, by simpa [allT] using hv⟩
    refine iterJ_out ?_ (by decide)
    simp -implicitDefEqProofs [L23_0, B23_0, hi']
    exact hwr
  | succ k ih =>
    intro i m L v σ hi hm hv hL hr
    obtain ⟨m, rfl⟩ : ∃ j, m = j + 1 := ⟨m - 1, by omega⟩
    have hlen := hp.types
    have hi' : ((i : Int) < p.types.l.length) := by omega
    have hwr := wrap_i (by omega : i < p.types.l.length) (by unfold maxLen; omega)
    have h1 : cpJ PR n 14 [p.d, ctxA u r i y.dflt y.dflt] = some (.int .i64 (checkC p (ctxAt u r i y.dflt))) := e14 (n := n) (by omega) p (ctxAt u r i y.dflt)
    have h8 : (UserV.d y) = .agg y.row := rfl
    rw [allT]
    by_cases hc : checkC p (ctxAt u r i y.dflt) = 0
    · rw [if_pos hc]
      rw [hc] at h1
      obtain ⟨v1, σ1, h2, h3⟩ := own_ctx (ctxAt u r i y.dflt) hv (by omega)
      have h4 : POp.sem (cpJ PR n) [ctxA u r i y.dflt y.dflt] (.bslice false 7) = some (.slice false 1 7 [(ctxAt u r i y.dflt).row]) := bslice_ctx _ (ctxAt u r i y.dflt)
      obtain ⟨v', σ', h5, h6⟩ := ih (i + 1) m (L ++ [ctxAt u r i y.dflt]) v1 σ1 (by omega) (by omega) h3 (by simp; omega) hr
      refine ⟨v', σ', ?_, by simpa using h6⟩
      rw [← h5]
      refine iterJ_next' ?_
      simp -implicitDefEqProofs [L23_0, B23_0, hi', hy, hwr, h1, h2, h4, LvV.d, LvV.row, -POp.sem.eq_18]
    · rw [if_neg hc]
      obtain ⟨v', σ', h5, h6⟩ := ih (i + 1) m L v σ (by omega) (by omega) hv (by omega) hr
      refine ⟨v', σ', ?_, by simpa using h6⟩
      rw [← h5]
      refine iterJ_next' ?_
      simp -implicitDefEqProofs [L23_0, B23_0, hi', hy, hwr, h1, hc, LvV.d, LvV.row]
theorem l23_1 (u : Nat) (y : UserV) (hy : p.users.l[u]? = some y) (hu : u + 1 ≤ 100) : ∀ (k i m : Nat) (L : List CtxV) (v : DVal) (σ : Sto), i + k = p.roles.l.length → k < m → Own σ 7 v (crows L) → L.length + 12 * k ≤ 5000 →
    ∃ v' σ', iterJ 1 (L23_1 (cpJ PR n) (ciJ PR n) n p.d (.int .i64 u)) m [.int .i64 i, v] σ = some (.next 0 [.int .i64 ((u + 1 : Nat) : Int), v'] σ') ∧ Own σ' 7 v' (crows (L ++ allR p u y.dflt i k)) := by
  intro k
  induction k with
  | zero =>
    intro i m L v σ hi hm hv hL
    obtain ⟨m, rfl⟩ : ∃ j, m = j + 1 := ⟨m - 1, by omega⟩
    have hi' : ¬ ((i : Int) < p.roles.l.length) := by omega
    have hwr := wrap_succ (i := u) (by omega)
    refine ⟨v, σ, ?_, by simpa [allR] using hv⟩
    refine iterJ_out ?_ (by decide)
    simp -implicitDefEqProofs [L23_1, B23_1, hi']
    exact hwr
  | succ k ih =>
    intro i m L v σ hi hm hv hL
    obtain ⟨m, rfl⟩ : ∃ j, m = j + 1 := ⟨m - 1, by omega⟩
    have hlen := hp.roles
    have hlen2 := hp.types
    have hi' : ((i : Int) < p.roles.l.length) := by omega
    obtain ⟨v1, σ1, h1, h2⟩ := l23_0 hn hp u i y hy p.types.l.length 0 n L v σ (by omega) (by omega) hv (by omega) (by omega)
    have hla := allT_len (p := p) (u := u) (r := i) (d := y.dflt) (k := p.types.l.length) (t := 0)
    obtain ⟨v', σ', h5, h6⟩ := ih (i + 1) m (L ++ allT p u i y.dflt 0 p.types.l.length) v1 σ1 (by omega) (by omega) h2 (by rw [List.length_append]; omega)
    refine ⟨v', σ', ?_, by rw [allR]; simpa using h6⟩
    rw [← h5]
    refine iterJ_next' ?_
    simp only [Int.natCast_zero] at h1
    simp -implicitDefEqProofs [L23_1, B23_1, hi', h1]
theorem l23_2 : ∀ (k i m : Nat) (L : List CtxV) (v : DVal) (σ : Sto), i + k = p.users.l.length → k < m → Own σ 7 v (crows L) → L.length + 96 * k ≤ 1000 →
    ∃ v' σ', iterJ 0 (L23_2 (cpJ PR n) (ciJ PR n) n p.d) m [.int .i64 i, v] σ = some (.done v' σ') ∧ Own σ' 7 v' (crows (L ++ allU p i (p.users.l.drop i))) := by
  intro k
  induction k with
  | zero =>
    intro i m L v σ hi hm hv hL
    obtain ⟨m, rfl⟩ : ∃ j, m = j + 1 := ⟨m - 1, by omega⟩
    have hi' : ¬ ((i : Int) < p.users.l.length) := by omega
    refine ⟨v, σ, ?_, by rw [List.drop_eq_nil_of_le (by omega)]; simpa [allU] using hv⟩
    refine iterJ_done ?_
    simp -implicitDefEqProofs [L23_2, B23_2, hi', own_okVal hv]
  | succ k ih =>
    intro i m L v σ hi hm hv hL
    obtain ⟨m, rfl⟩ : ∃ j, m = j + 1 := ⟨m - 1, by omega⟩
    have hlen := hp.users
    have hlen2 := hp.roles
    have hi' : ((i : Int) < p.users.l.length) := by omega
    obtain ⟨y, hy⟩ := get_some (by omega : i < p.users.l.length)
    obtain ⟨v1, σ1, h1, h2⟩ := l23_1 hn hp i y hy (by omega) p.roles.l.length 0 n L v σ (by omega) (by omega) hv (by omega)
    have hla := allR_len hp (u := i) (d := y.dflt) (k := p.roles.l.length) (r := 0)
    obtain ⟨v', σ', h5, h6⟩ := ih (i + 1) m (L ++ allR p i y.dflt 0 p.roles.l.length) v1 σ1 (by omega) (by omega) h2 (by rw [List.length_append]; omega)
    refine ⟨v', σ', ?_, by rw [drop_get hy, allU]; simpa using h6⟩
    rw [← h5]
    refine iterJ_next' ?_
    simp only [Int.natCast_zero] at h1
    simp -implicitDefEqProofs [L23_2, B23_2, hi', h1]
end
theorem e22 {n : Nat} (hn : 2100 ≤ n) {p : PolV} (hp : SmallP p) : ∃ v, cpJ PR n 22 [p.d] = some v ∧ Fresh 7 v (crows (allC p)) := by
  obtain ⟨n, rfl⟩ : ∃ m, n = m + 1 := ⟨n - 1, by omega⟩
  have hlen := hp.users
  obtain ⟨v, σ, h1, h2⟩ := l22_2 (n := n) (by omega) hp (.int .i64 p.users.l.length) rfl p.users.l.length 0 n [] .nils emptySto (by omega) (by omega) (own_nils _ _) (by simp; omega)
  simp only [Int.natCast_zero, List.nil_append, List.drop_zero] at h1 h2
  obtain ⟨u, h3, h4⟩ := own_back h2
  refine ⟨u, ?_, h4⟩
  rw [u22]
  simp -implicitDefEqProofs [D22, h1, h3]
theorem e23 {n : Nat} (hn : 2100 ≤ n) {p : PolV} (hp : SmallP p) : ∃ v, cpJ PR n 23 [p.d] = some v ∧ Fresh 7 v (crows (allC p)) := by
  obtain ⟨n, rfl⟩ : ∃ m, n = m + 1 := ⟨n - 1, by omega⟩
  have hlen := hp.users
  obtain ⟨v, σ, h1, h2⟩ := l23_2 (n := n) (by omega) hp p.users.l.length 0 n [] .nils emptySto (by omega) (by omega) (own_nils _ _) (by simp; omega)
  simp only [Int.natCast_zero, List.nil_append, List.drop_zero] at h1 h2
  obtain ⟨u, h3, h4⟩ := own_back h2
  refine ⟨u, ?_, h4⟩
  rw [u23]
  simp -implicitDefEqProofs [D23, h1, h3]
def initL (s : Bs) : List SidV → CtxV × Bool
  | [] => (CtxV.z, false)
  | x :: l => if x.name = s then (x.ctx, true) else initL s l
def initD (x : CtxV × Bool) : DVal := .tup [x.1.d, .bool x.2]
theorem l24 {n : Nat} (p : PolV) (s : Bs) (hl : p.sids.l.length ≤ 1000) (σ : Sto) (x : DVal) (hx : x = .int .i64 p.sids.l.length) : ∀ (k i m : Nat) (b : DVal), i + k = p.sids.l.length → k < m →
    iterJ 0 (L24_0 (cpJ PR n) (ciJ PR n) n (.str s) (slOf 8 SidV.row p.sids) x) m [.int .i64 i, b, CtxV.z.d] σ = some (.done (initD (initL s (p.sids.l.drop i))) σ) := by
  subst hx
  intro k
  induction k with
  | zero =>
    intro i m b hi hm
    obtain ⟨m, rfl⟩ : ∃ j, m = j + 1 := ⟨m - 1, by omega⟩
    have hi' : ¬ ((i : Int) < p.sids.l.length) := by omega
    rw [List.drop_eq_nil_of_le (by omega)]
    have h1 := build_ctx (cpJ PR n)
    refine iterJ_done ?_
    simp -implicitDefEqProofs [L24_0, B24_0, hi', initL, initD, h1, -POp.sem.eq_17]
  | succ k ih =>
    intro i m b hi hm
    obtain ⟨m, rfl⟩ : ∃ j, m = j + 1 := ⟨m - 1, by omega⟩
    have hi' : ((i : Int) < p.sids.l.length) := by omega
    obtain ⟨y, hy⟩ := get_some (by omega : i < p.sids.l.length)
    have hwr := wrap_i (by omega : i < p.sids.l.length) (by unfold maxLen; omega)
    rw [drop_get hy, initL]
    by_cases hf : y.name = s
    · rw [if_pos hf]
      refine iterJ_done ?_
      simp -implicitDefEqProofs [L24_0, B24_0, hi', hy, hwr, hf, initD]
    · rw [if_neg hf, ← ih (i + 1) m b (by omega) (by omega)]
      refine iterJ_next' ?_
      simp -implicitDefEqProofs [L24_0, B24_0, hi', hy, hwr, hf]
theorem l25 {n : Nat} (p : PolV) (s : Bs) (hl : p.sids.l.length ≤ 1000) (σ : Sto) : ∀ (k i m : Nat) (b : DVal), i + k = p.sids.l.length → k < m →
    iterJ 0 (L25_0 (cpJ PR n) (ciJ PR n) n (.str s) p.d) m [.int .i64 i, b, CtxV.z.d] σ = some (.done (initD (initL s (p.sids.l.drop i))) σ) := by
  intro k
  induction k with
  | zero =>
    intro i m b hi hm
    obtain ⟨m, rfl⟩ : ∃ j, m = j + 1 := ⟨m - 1, by omega⟩
    have hi' : ¬ ((i : Int) < p.sids.l.length) := by omega
    rw [List.drop_eq_nil_of_le (by omega)]
    have h1 := build_ctx (cpJ PR n)
    refine iterJ_done ?_
    simp -implicitDefEqProofs [L25_0, B25_0, hi', initL, initD, h1, -POp.sem.eq_17]
  | succ k ih =>
    intro i m b hi hm
    obtain ⟨m, rfl⟩ : ∃ j, m = j + 1 := ⟨m - 1, by omega⟩
    have hi' : ((i : Int) < p.sids.l.length) := by omega
    obtain ⟨y, hy⟩ := get_some (by omega : i < p.sids.l.length)
    have hwr := wrap_i (by omega : i < p.sids.l.length) (by unfold maxLen; omega)
    rw [drop_get hy, initL]
    by_cases hf : y.name = s
    · rw [if_pos hf]
      refine iterJ_done ?_
      simp -implicitDefEqProofs [L25_0, B25_0, hi', hy, hwr, hf, initD]
    · rw [if_neg hf, ← ih (i + 1) m b (by omega) (by omega)]
      refine iterJ_next' ?_
      simp -implicitDefEqProofs [L25_0, B25_0, hi', hy, hwr, hf]
theorem zctx : DVal.agg [.int .i64 0, .int .i64 0, .int .i64 0, .int .i64 0, .int .u64 0, .int .i64 0, .int .u64 0] = CtxV.z.d := rfl
theorem e24 {n : Nat} (hn : 1100 ≤ n) {p : PolV} (hp : SmallP p) (s : Bs) : cpJ PR n 24 [p.d, .str s] = some (initD (initL s p.sids.l)) := by
  obtain ⟨n, rfl⟩ : ∃ m, n = m + 1 := ⟨n - 1, by omega⟩
  have hlen := hp.sids
  have h1 := l24 (n := n) p s (by omega) emptySto (.int .i64 p.sids.l.length) rfl p.sids.l.length 0 n (.bool false) (by omega) (by omega)
  simp only [Int.natCast_zero, List.drop_zero] at h1
  rw [u24]
  simp -implicitDefEqProofs [D24, zctx, h1, initD]
theorem e25 {n : Nat} (hn : 1100 ≤ n) {p : PolV} (hp : SmallP p) (s : Bs) : cpJ PR n 25 [p.d, .str s] = some (initD (initL s p.sids.l)) := by
  obtain ⟨n, rfl⟩ : ∃ m, n = m + 1 := ⟨n - 1, by omega⟩
  have hlen := hp.sids
  have h1 := l25 (n := n) p s (by omega) emptySto p.sids.l.length 0 n (.bool false) (by omega) (by omega)
  simp only [Int.natCast_zero, List.drop_zero] at h1
  rw [u25]
  simp -implicitDefEqProofs [D25, zctx, h1, initD]
section
variable {n d : Nat} (hn : maxLen + 2000 + d ≤ n) (aw : cpJ PR n 12 [] = some (.bool true)) {p : PolV} (hf : PFit d p) (s : Bs)
include hn aw hf
omit hf in
theorem l6 (hp : SmallP p) (z z' : Zs) (l : List CtxV) (hl : l.length ≤ 100000) (σ : Sto) : ∀ (k i m : Nat) (b : DVal), i + k = l.length → k < m →
    iterJ 0 (L6_0 (cpJ PR n) (ciJ PR n) n (.str s) p.d (slD z 7 (crows l)) (slD z' 7 (crows l))) m [.int .i64 i, b] σ = some (.done (.bool true) σ) := by
  intro k
  induction k with
  | zero =>
    intro i m b hi hm
    obtain ⟨m, rfl⟩ : ∃ j, m = j + 1 := ⟨m - 1, by omega⟩
    have hi' : ¬ ((i : Int) < l.length) := by omega
    have h1 := e24 (n := n) (by omega) hp s
    have h2 := e25 (n := n) (by omega) hp s
    have h3 := ctx_eq (initL s p.sids.l).1
    generalize initL s p.sids.l = x at *
    obtain ⟨c, q⟩ := x
    refine iterJ_done ?_
    cases q <;> simp -implicitDefEqProofs [L6_0, B6_0, hi', h1, h2, h3, initD, aw, -eqaSem.eq_1]
  | succ k ih =>
    intro i m b hi hm
    obtain ⟨m, rfl⟩ : ∃ j, m = j + 1 := ⟨m - 1, by omega⟩
    have hi' : ((i : Int) < l.length) := by omega
    obtain ⟨y, hy⟩ := get_some (by omega : i < l.length)
    have hwr := wrap_i (by omega : i < l.length) (by unfold maxLen; omega)
    have h3 := ctx_ne y
    rw [← ih (i + 1) m b (by omega) (by omega)]
    refine iterJ_next' ?_
    simp -implicitDefEqProofs [L6_0, B6_0, hi', hy, hwr, h3, crows, -eqaSem.eq_1]
theorem e6 : cpJ PR (n + 1) 6 [p.d, .str s] = some (.bool true) := by
  have hml : maxLen ≥ 9000000 := by unfold maxLen; omega
  obtain ⟨q, h1, hq⟩ := e11 hn hf
  rw [u6]
  cases q with
  | false => simp -implicitDefEqProofs [D6, h1, aw]
  | true =>
    have g := hq rfl
    obtain ⟨v, h2, hv⟩ := e22 (n := n) (by omega) g.small
    obtain ⟨v', h3, hv'⟩ := e23 (n := n) (by omega) g.small
    obtain ⟨z, hz⟩ := fresh_stale hv
    obtain ⟨z', hz'⟩ := fresh_stale hv'
    have hlen : (allC p).length ≤ 10000 := by
      have key : ∀ (l : List UserV) (i : Nat), (allU p i l).length ≤ 96 * l.length := by
        intro l
        induction l with
        | nil => intro i; simp [allU]
        | cons x l ih =>
          intro i
          have h1 := ih (i + 1)
          have h2 := allR_len g.small (u := i) (d := x.dflt) (k := p.roles.l.length) (r := 0)
          have h3 := g.small.roles
          rw [allU, List.length_append, List.length_cons]
          omega
      have h1 := key p.users.l 0
      have h2 := g.small.users
      unfold allC
      omega
    have h4 := l6 hn aw s g.small z z' (allC p) (by omega) emptySto (allC p).length 0 n (.bool false) (by omega) (by omega)
    simp only [Int.natCast_zero] at h4
    have h5 : lenSlSem [slD z 7 (crows (allC p))] = some (.int .i64 (allC p).length) := by simp
    have h6 : lenSlSem [slD z' 7 (crows (allC p))] = some (.int .i64 (allC p).length) := by simp
    simp -implicitDefEqProofs [D6, h1, h2, h3, hz, hz', h4]
end
end Go.Proofs.YthpccimmmfonjaaGreatDoor
namespace Go.Proofs.YthpccimmmfonjaaGreatDoor
set_option linter.unusedVariables false
set_option linter.unusedSimpArgs false
set_option maxRecDepth 20000
set_option maxHeartbeats 8000000
open Go
def setL : List Nat → SetV → SetV
  | [], s => s
  | k :: l, s => setL l (withS s k)
abbrev irows (l : List Nat) : List (List DVal) := l.map fun (k : Nat) => [DVal.int .i64 (k : Int)]
theorem l80 {n : Nat} (l : List Nat) (hl : l.length ≤ 1000) (hk : ∀ k ∈ l, k < 256) : ∀ (j i m : Nat) (s : SetV) (σ : Sto), i + j = l.length → j < m → σ.obj 0 = s.d → 0 < σ.nobj →
    ∃ σ', iterJ 0 (L80_0 (cpJ PR n) (ciJ PR n) n (.slice false 1 1 (irows l)) (.obj 0 0)) m [.int .i64 i] σ = some (.done (setL (l.drop i) s).d σ') := by
  intro j
  induction j with
  | zero =>
    intro i m s σ hi hm hs h0
    obtain ⟨m, rfl⟩ : ∃ q, m = q + 1 := ⟨m - 1, by omega⟩
    have hi' : ¬ ((i : Int) < l.length) := by omega
    have h1 : ldOSem σ (some 4) [.obj 0 0] = some (s.d, σ) := by
      rw [ld_obj (some 4) hs h0]; rfl
    refine ⟨σ, iterJ_done ?_⟩
    rw [List.drop_eq_nil_of_le (by omega)]
    simp -implicitDefEqProofs [L80_0, B80_0, hi', h1, setL]
  | succ j ih =>
    intro i m s σ hi hm hs h0
    obtain ⟨m, rfl⟩ : ∃ q, m = q + 1 := ⟨m - 1, by omega⟩
    have hi' : ((i : Int) < l.length) := by omega
    obtain ⟨k, hk0⟩ := get_some (by omega : i < l.length)
    have hkl := hk k (List.mem_of_getElem? hk0)
    have hwr : IntKind.i64.wrap ((i : Int) + 1) = (i : Int) + 1 := wrap_i64 (by omega) (by omega)
    have h1 := ld_arr (σ := σ) (id := 0) (n := 4) (i := k / 64) (f := fun i => .int .u64 (s.w i)) hs h0 (by omega)
    have h2 := idx_arr (id := 0) (j := k / 64) (by omega)
    have h3 := wrap_pow (k := k % 64) (by omega)
    have h4 : ¬ (((k % 64 : Nat) : Int) < 0) := by omega
    have h5 : min (k % 64) 64 = k % 64 := by omega
    have h6 := or_nat (s.w (k / 64)) (2 ^ (k % 64)) (s.lt _) (pow_lt' (Nat.mod_lt _ (by decide)))
    have h7 := st_arr (σ := σ) (id := 0) (n := 4) (i := k / 64) (f := fun i => .int .u64 (s.w i)) (v := .int .u64 ((s.w (k / 64) ||| 2 ^ (k % 64) : Nat) : Int)) hs h0 (by omega) rfl rfl
    have e : arrD 4 (upd (fun i => DVal.int .u64 (s.w i)) (k / 64) (.int .u64 ((s.w (k / 64) ||| 2 ^ (k % 64) : Nat) : Int))) = (withS s k).d := by
      rw [SetV.d_arr]
      congr 1
      funext i
      simp only [upd, withS]
      split <;> rfl
    rw [e] at h7
    obtain ⟨σ', h8⟩ := ih (i + 1) m (withS s k) (σ.put 0 (withS s k).d) (by omega) (by omega) (by simp) (by simpa using h0)
    refine ⟨σ', ?_⟩
    rw [drop_get hk0, setL, ← h8]
    refine iterJ_next' ?_
    have hq : idxSSem 1 [.slice false 1 1 (irows l), .int .i64 (i : Int)] = some (.elem [.int .i64 (k : Int)] 0) := by
      simp [idxSSem, hk0]
    have hlen : lenSlSem [.slice false 1 1 (irows l)] = some (.int .i64 (l.length : Int)) := by simp [lenSlSem, goI]
    have hd := wrap_div k hkl
    have hd' : (k : Int).tdiv 64 = (k : Int) / 64 := Int.tdiv_eq_ediv_of_nonneg (by omega)
    simp -implicitDefEqProofs [L80_0, B80_0, hi', hq, hlen, hwr, hd, hd', h1, h2, h3, h4, h5, h6, h7, tmod_nat, IntKind.bits, -Int.natCast_emod, -Int.natCast_ediv, -Int.natCast_pow, -idxASem.eq_1, -idxSSem.eq_1, -lenSlSem.eq_2]
theorem e80 {n : Nat} (hn : 2000 ≤ n) (l : List Nat) (hl : l.length ≤ 1000) (hk : ∀ k ∈ l, k < 256) : cpJ PR n 80 [.slice false 1 1 (irows l)] = some (setL l SetV.zero).d := by
  obtain ⟨n, rfl⟩ : ∃ m, n = m + 1 := ⟨n - 1, by omega⟩
  obtain ⟨σ', h1⟩ := l80 (n := n) l hl hk l.length 0 n SetV.zero (emptySto.new SetV.zero.d) (by omega) (by omega) rfl (by simp [emptySto])
  simp only [Int.natCast_zero, List.drop_zero] at h1
  have h2 : allocOSem emptySto [.int .u64 0, .int .u64 0, .int .u64 0, .int .u64 0] [] = some (.obj 0 0, emptySto.new SetV.zero.d) := rfl
  rw [u80]
  simp -implicitDefEqProofs [D80, h1, h2]
def initC : CtxV := ⟨0, 1, 0, ⟨0, 0, by decide⟩, ⟨0, 0, by decide⟩⟩
def fileC : CtxV := ⟨0, 0, 2, ⟨0, 0, by decide⟩, ⟨0, 0, by decide⟩⟩
theorem e37 {n : Nat} (hn : 1 ≤ n) : cpJ PR n 37 [] = some initC.d := by
  obtain ⟨n, rfl⟩ : ∃ m, n = m + 1 := ⟨n - 1, by omega⟩
  rw [u37]
  simp -implicitDefEqProofs [D37]
  rfl
theorem e81 {n : Nat} (hn : 1 ≤ n) : cpJ PR n 81 [] = some fileC.d := by
  obtain ⟨n, rfl⟩ : ∃ m, n = m + 1 := ⟨n - 1, by omega⟩
  rw [u81]
  simp -implicitDefEqProofs [D81]
  rfl
def set1 (w : Nat) (h : w < 18446744073709551616 := by decide) : SetV := ⟨fun i => if i = 0 then w else 0, fun i => by split <;> first | exact h | decide⟩
abbrev seA (w : Nat) : DVal := .agg [.int .u64 (w : Int), .int .u64 0, .int .u64 0, .int .u64 0]
def lv0 : LvV := ⟨0, 0, by decide⟩
def sampleP : PolV where
  classes := ⟨.lit, [⟨[112, 114, 111, 99, 101, 115, 115], ⟨.lit, [[102, 111, 114, 107], [116, 114, 97, 110, 115, 105, 116, 105, 111, 110], [100, 121, 110, 116, 114, 97, 110, 115, 105, 116, 105, 111, 110], [115, 101, 110, 100]]⟩⟩,
    ⟨[102, 105, 108, 101], ⟨.lit, [[114, 101, 97, 100], [119, 114, 105, 116, 101], [99, 114, 101, 97, 116, 101], [117, 110, 108, 105, 110, 107], [101, 120, 101, 99, 117, 116, 101], [101, 110, 116, 114, 121, 112, 111, 105, 110, 116], [114, 101, 108, 97, 98, 101, 108, 102, 114, 111, 109], [114, 101, 108, 97, 98, 101, 108, 116, 111]]⟩⟩, ⟨[100, 105, 114], ⟨.lit, [[114, 101, 97, 100], [119, 114, 105, 116, 101], [99, 114, 101, 97, 116, 101], [117, 110, 108, 105, 110, 107], [97, 100, 100], [114, 101, 109, 111, 118, 101], [114, 101, 108, 97, 98, 101, 108, 102, 114, 111, 109], [114, 101, 108, 97, 98, 101, 108, 116, 111]]⟩⟩]⟩
  types := ⟨.lit, [⟨[105, 110, 105, 116, 95, 116], ⟨.nil, []⟩, false⟩, ⟨[117, 115, 101, 114, 95, 116], ⟨.nil, []⟩, false⟩, ⟨[102, 105, 108, 101, 95, 116], ⟨.nil, []⟩, false⟩, ⟨[115, 104, 101, 108, 108, 95, 116], ⟨.nil, []⟩, false⟩]⟩
  attrs := ⟨.lit, [⟨[100, 111, 109, 97, 105, 110], set1 3⟩]⟩
  roles := ⟨.lit, [⟨[111, 98, 106, 101, 99, 116, 95, 114], set1 0, set1 0⟩, ⟨[115, 121, 115, 116, 101, 109], set1 3, set1 0⟩]⟩
  users := ⟨.lit, [⟨[114, 111, 111, 116], set1 2, lv0, lv0, lv0⟩]⟩
  bools := ⟨.lit, [⟨[115, 104, 97, 114, 101], false⟩]⟩
  sens := ⟨.lit, [[115, 48]]⟩
  cats := ⟨.nil, []⟩
  conds := ⟨.lit, [.mk 1 0 0 0 ⟨.nil, []⟩ (set1 0) .nil []]⟩
  rules := ⟨.lit, [⟨1, set1 3, set1 0, true, 0, 9, 0, by decide⟩, ⟨1, set1 1, set1 12, false, 1, 17, 0, by decide⟩, ⟨1, set1 1, set1 2, false, 0, 2, 0, by decide⟩, ⟨1, set1 2, set1 8, false, 1, 32, 0, by decide⟩, ⟨1, set1 2, set1 4, false, 1, 1, 1, by decide⟩]⟩
  trans := ⟨.lit, [⟨1, set1 1, set1 8, 0, [], 1, 0⟩]⟩
  roleTrans := ⟨.nil, []⟩
  ranges := ⟨.nil, []⟩
  constrs := ⟨.nil, []⟩
  sids := ⟨.lit, [⟨[107, 101, 114, 110, 101, 108], initC⟩, ⟨[114, 111, 111, 116], fileC⟩, ⟨[117, 110, 108, 97, 98, 101, 108, 101, 100], fileC⟩]⟩
  files := ⟨.nil, []⟩
  asserts := ⟨.nil, []⟩
theorem e36 {n : Nat} (hn : 2001 ≤ n) : cpJ PR n 36 [] = some sampleP.d := by
  obtain ⟨n, rfl⟩ : ∃ m, n = m + 1 := ⟨n - 1, by omega⟩
  have a0 : cpJ PR n 80 [.slice false 1 1 [[.int .i64 0]]] = some (seA 1) := e80 (n := n) (by omega) [0] (by decide) (by decide)
  have a1 : cpJ PR n 80 [.slice false 1 1 [[.int .i64 1]]] = some (seA 2) := e80 (n := n) (by omega) [1] (by decide) (by decide)
  have a2 : cpJ PR n 80 [.slice false 1 1 [[.int .i64 2]]] = some (seA 4) := e80 (n := n) (by omega) [2] (by decide) (by decide)
  have a3 : cpJ PR n 80 [.slice false 1 1 [[.int .i64 3]]] = some (seA 8) := e80 (n := n) (by omega) [3] (by decide) (by decide)
  have a4 : cpJ PR n 80 [.slice false 1 1 [[.int .i64 0], [.int .i64 1]]] = some (seA 3) := e80 (n := n) (by omega) [0, 1] (by decide) (by decide)
  have a5 : cpJ PR n 80 [.slice false 1 1 [[.int .i64 2], [.int .i64 3]]] = some (seA 12) := e80 (n := n) (by omega) [2, 3] (by decide) (by decide)
  have b1 : cpJ PR n 37 [] = some (.agg [.int .i64 0, .int .i64 1, .int .i64 0, .int .i64 0, .int .u64 0, .int .i64 0, .int .u64 0]) := e37 (by omega)
  have b2 : cpJ PR n 81 [] = some (.agg [.int .i64 0, .int .i64 0, .int .i64 2, .int .i64 0, .int .u64 0, .int .i64 0, .int .u64 0]) := e81 (by omega)
  rw [u36]
  simp -implicitDefEqProofs [D36, a0, a1, a2, a3, a4, a5, b1, b2]
  rfl
end Go.Proofs.YthpccimmmfonjaaGreatDoor
namespace Go.Proofs.YthpccimmmfonjaaGreatDoor
set_option linter.unusedVariables false
set_option linter.unusedSimpArgs false
set_option maxRecDepth 100000
set_option maxHeartbeats 8000000
open Go
theorem sample_good : Good' sampleP where
  types := ⟨by decide, by decide, by simp⟩
  roles := ⟨rfl, by decide, by decide⟩
  users := ⟨by decide, by decide, by simp⟩
  cats := ⟨⟨by decide, by decide, by simp⟩, ⟨by decide, by decide, by simp⟩⟩
  small := ⟨by decide, by decide, by decide, by decide, by decide, by decide, by decide, by decide, by decide, by decide, by decide, by decide, by decide, by decide, by decide, by decide, by decide, by decide⟩
theorem s0_range : LPar sampleP.sens.l sampleP.cats.l [115, 48] (lv0, lv0, 0) := by
  have h := lpar_text sample_good.lev lv0 lv0 (by decide)
  have e : textV sampleP.sens.l sampleP.cats.l lv0.s lv0.c lv0.s lv0.c = [115, 48] := by kernel_rfl
  rwa [e] at h
section
variable {n : Nat} (hn : 1200000 ≤ n)
include hn
theorem al_parse (s : Bs) (hs : s.length ≤ 1000) (h4 : (partsV s).length = 4 → (partsV s).getD 3 [] = [115, 48]) {c : CtxV} {e : Int} (h : parseC sampleP s (lv0, lv0, 0) = (c, e)) :
    cpJ PR n 20 [sampleP.d, .str s] = some (.tup [c.d, .int .i64 e]) := by
  have := e20 (n := n) (by omega) sampleP sample_good s (by omega) (lv0, lv0, 0) fun h => by rw [h4 h]; exact s0_range
  rwa [h] at this
theorem e12 : cpJ PR (n + 1) 12 [] = some (.bool true) := by
  have h1 := e36 (n := n) (by omega)
  have h2 := e37 (n := n) (by omega)
  have h3 := e18 (n := n) (by omega) sampleP sample_good initC
  have t3 : textC sampleP initC = [114, 111, 111, 116, 58, 115, 121, 115, 116, 101, 109, 58, 105, 110, 105, 116, 95, 116, 58, 115, 48] := by kernel_rfl
  have c3 : checkC sampleP initC = 0 := by kernel_rfl
  rw [t3, c3] at h3
  have h4 := al_parse hn [114, 111, 111, 116, 58, 111, 98, 106, 101, 99, 116, 95, 114, 58, 115, 104, 101, 108, 108, 95, 116, 58, 115, 48] (by decide) (fun _ => by kernel_rfl) (c := ⟨0, 0, 3, lv0, lv0⟩) (e := 0) (by kernel_rfl)
  have h5 := al_parse hn [114, 111, 111, 116, 58, 115, 121, 115, 116, 101, 109, 58, 102, 105, 108, 101, 95, 116, 58, 115, 48] (by decide) (fun _ => by kernel_rfl) (c := CtxV.z) (e := 19) (by kernel_rfl)
  have h6 := al_parse hn [114, 111, 111, 116, 58, 115, 121, 115, 116, 101, 109, 58, 120, 58, 115, 48] (by decide) (fun _ => by kernel_rfl) (c := CtxV.z) (e := 11) (by kernel_rfl)
  have h7 := al_parse hn [114, 111, 111, 116, 58, 115, 121, 115, 116, 101, 109] (by decide) (fun h => absurd h (by decide)) (c := CtxV.z) (e := 9) (by kernel_rfl)
  have h8 := e24 (n := n) (by omega) sample_good.small [107, 101, 114, 110, 101, 108]
  have i8 : initL [107, 101, 114, 110, 101, 108] sampleP.sids.l = (initC, true) := by kernel_rfl
  rw [i8] at h8
  unfold initD at h8
  simp only at h8
  have h9 := e15 (n := n) (by omega) ⟨0, 0, 3, lv0, lv0⟩
  have o9 : (((⟨0, 0, 3, lv0, lv0⟩ : CtxV).role == 0) : Bool) = true := rfl
  rw [o9] at h9
  obtain ⟨v, h10, hv⟩ := e22 (n := n) (by omega) sample_good.small
  obtain ⟨z, hz⟩ := fresh_stale hv
  have h11 : lenSlSem [slD z 7 (crows (allC sampleP))] = some (.int .i64 6) := by
    have : (allC sampleP).length = 6 := by kernel_rfl
    simp [this]
  generalize slD z 7 (crows (allC sampleP)) = w at *
  obtain ⟨q, h12, h12'⟩ := ctx_beq initC initC
  have h13 := e17 (n := n) (by omega) initC initC h12
  rw [h12'.2 rfl] at h13
  have j1 : jwrSem 0 17 [.agg [.nils, .nils, .nils, .nils, .nils, .nils, .nils, .nils, .nils, .nils, .nils, .nils, .nils, .nils, .nils, .nils, .nils], sampleP.d] = some sampleP.d := by kernel_rfl
  have j2 : ∀ c : CtxV, jwrSem 0 7 [.agg [.int .i64 0, .int .i64 0, .int .i64 0, .int .i64 0, .int .u64 0, .int .i64 0, .int .u64 0], c.d] = some c.d := fun c => by simp
  generalize hc4 : (⟨0, 0, 3, lv0, lv0⟩ : CtxV) = c4 at *
  generalize CtxV.z = c0 at *
  generalize initC = ci at *
  generalize sampleP = P at *
  rw [u12]
  simp -implicitDefEqProofs [D12, h1, h2, h3, h4, h5, h6, h7, h8, h9, h10, h11, h13, hz, j1]
end
theorem alive_true {n : Nat} (hn : 1200001 ≤ n) : cpJ PR n 12 [] = some (.bool true) := by
  obtain ⟨n, rfl⟩ : ∃ m, n = m + 1 := ⟨n - 1, by omega⟩
  exact e12 (by omega)
end Go.Proofs.YthpccimmmfonjaaGreatDoor
namespace Go.Proofs.YthpccimmmfonjaaGreatDoor
set_option linter.unusedVariables false
set_option linter.unusedSimpArgs false
set_option maxRecDepth 20000
set_option maxHeartbeats 4000000
open Go
def mvP (B : List Bs) (c : Nat) : List Bs → Nat → Bool × Nat → Bool × Nat
  | [], _, x => x
  | s :: l, i, x => mvP B c l (i + 1) (if c.testBit i = true then (x.1 && decide (0 ≤ idxAt s B 0), if 0 ≤ idxAt s B 0 then x.2 ||| 2 ^ (idxAt s B 0).toNat else x.2) else x)
def mvR (B : List Bs) (c : Nat) : List Bs → Nat → Bool × Nat → Bool × Nat
  | [], _, x => x
  | s :: l, i, x => mvR B c l (i + 1) (if c.testBit i = true then (x.1 && decide (0 ≤ idxAt s B 0), x.2 ||| 2 ^ (numI (idxAt s B 0)).toNat) else x)
theorem numI_toNat {i : Int} (h : 0 ≤ i) : (numI i).toNat = i.toNat := by rw [numI_nn (by omega)]
theorem mv_eq (B : List Bs) (c : Nat) : ∀ (l : List Bs) (i : Nat) (b : Bool) (w w' : Nat), (b = true → w = w') → (mvP B c l i (b, w)).1 = (mvR B c l i (b, w')).1 ∧ ((mvP B c l i (b, w)).1 = true → (mvP B c l i (b, w)).2 = (mvR B c l i (b, w')).2)
  | [], i, b, w, w', h => ⟨rfl, h⟩
  | s :: l, i, b, w, w', h => by
    rw [mvP, mvR]
    by_cases hc : c.testBit i = true
    · rw [if_pos hc, if_pos hc]
      refine mv_eq B c l (i + 1) _ _ _ fun hb => ?_
      simp only [Bool.and_eq_true, decide_eq_true_eq] at hb
      rw [if_pos hb.2, numI_toNat hb.2, h hb.1]
    · rw [if_neg hc, if_neg hc]
      exact mv_eq B c l (i + 1) b w w' h
theorem idx_bound {s : Bs} {B : List Bs} (h : 0 ≤ idxAt s B 0) : ∃ k : Nat, idxAt s B 0 = k ∧ k < B.length ∧ B[k]? = some s := by
  rcases idxAt_cases s B 0 with h1 | ⟨j, h1, h2, h3⟩
  · omega
  · exact ⟨j, by omega, h2, h3⟩
theorem mvP_lt {B : List Bs} (hB : B.length ≤ 64) (c : Nat) : ∀ (l : List Bs) (i : Nat) (x : Bool × Nat), x.2 < 18446744073709551616 → (mvP B c l i x).2 < 18446744073709551616
  | [], i, x, h => h
  | s :: l, i, x, h => by
    rw [mvP]
    refine mvP_lt hB c l (i + 1) _ ?_
    split
    · simp only
      split
      · rename_i h0
        obtain ⟨k, h1, h2, -⟩ := idx_bound h0
        rw [h1, Int.toNat_natCast]
        exact or_lt h (pow_lt (by omega))
      · exact h
    · exact h
theorem mvR_lt {B : List Bs} (hB : B.length ≤ 64) (c : Nat) : ∀ (l : List Bs) (i : Nat) (x : Bool × Nat), x.2 < 18446744073709551616 → (mvR B c l i x).2 < 18446744073709551616
  | [], i, x, h => h
  | s :: l, i, x, h => by
    rw [mvR]
    refine mvR_lt hB c l (i + 1) _ ?_
    split
    · simp only
      refine or_lt h (pow_lt ?_)
      by_cases h0 : 0 ≤ idxAt s B 0
      · obtain ⟨k, h1, h2, -⟩ := idx_bound h0
        rw [numI_toNat h0, h1, Int.toNat_natCast]; omega
      · rw [numI, if_pos (by omega)]; decide
    · exact h
theorem mvP_ok (B : List Bs) (c : Nat) : ∀ (l : List Bs) (i : Nat) (x : Bool × Nat), (mvP B c l i x).1 = true ↔ x.1 = true ∧ ∀ j s, l[j]? = some s → c.testBit (i + j) = true → 0 ≤ idxAt s B 0
  | [], i, x => by simp [mvP]
  | s :: l, i, x => by
    rw [mvP, mvP_ok B c l (i + 1)]
    constructor
    · rintro ⟨h1, h2⟩
      have h3 : x.1 = true ∧ (c.testBit i = true → 0 ≤ idxAt s B 0) := by
        by_cases hc : c.testBit i = true
        · rw [if_pos hc] at h1
          simp only [Bool.and_eq_true, decide_eq_true_eq] at h1
          exact ⟨h1.1, fun _ => h1.2⟩
        · rw [if_neg hc] at h1
          exact ⟨h1, fun h => absurd h hc⟩
      refine ⟨h3.1, fun j y hy hj => ?_⟩
      cases j with
      | zero =>
        simp only [List.getElem?_cons_zero, Option.some.injEq] at hy
        subst hy
        exact h3.2 hj
      | succ j => exact h2 j y (by simpa using hy) (by rw [show i + 1 + j = i + (j + 1) by omega]; exact hj)
    · rintro ⟨h1, h2⟩
      refine ⟨?_, fun j y hy hj => h2 (j + 1) y (by simpa using hy) (by rw [show i + (j + 1) = i + 1 + j by omega]; exact hj)⟩
      by_cases hc : c.testBit i = true
      · rw [if_pos hc]
        simp only [Bool.and_eq_true, decide_eq_true_eq]
        exact ⟨h1, h2 0 s rfl hc⟩
      · rw [if_neg hc]; exact h1
theorem mvP_bit (B : List Bs) (c : Nat) : ∀ (l : List Bs) (i : Nat) (x : Bool × Nat) (k : Nat), (mvP B c l i x).2.testBit k = true ↔ x.2.testBit k = true ∨ ∃ j s, l[j]? = some s ∧ c.testBit (i + j) = true ∧ idxAt s B 0 = (k : Int)
  | [], i, x, k => by simp [mvP]
  | s :: l, i, x, k => by
    rw [mvP, mvP_bit B c l (i + 1)]
    have hstep : (if c.testBit i = true then (x.1 && decide (0 ≤ idxAt s B 0), if 0 ≤ idxAt s B 0 then x.2 ||| 2 ^ (idxAt s B 0).toNat else x.2) else x).2.testBit k = true ↔ x.2.testBit k = true ∨ (c.testBit i = true ∧ idxAt s B 0 = (k : Int)) := by
      by_cases hc : c.testBit i = true
      · rw [if_pos hc]
        simp only [hc, true_and]
        by_cases h0 : 0 ≤ idxAt s B 0
        · rw [if_pos h0, Nat.testBit_or, Bool.or_eq_true, Nat.testBit_two_pow, decide_eq_true_eq]
          constructor
          · rintro (h | h)
            · exact .inl h
            · exact .inr (by omega)
          · rintro (h | h)
            · exact .inl h
            · exact .inr (by omega)
        · rw [if_neg h0]
          constructor
          · exact .inl
          · rintro (h | h)
            · exact h
            · omega
      · rw [if_neg hc]
        simp [hc]
    rw [hstep]
    constructor
    · rintro ((h | ⟨h1, h2⟩) | ⟨j, y, h1, h2, h3⟩)
      · exact .inl h
      · exact .inr ⟨0, s, rfl, h1, h2⟩
      · exact .inr ⟨j + 1, y, by simpa using h1, by rw [show i + (j + 1) = i + 1 + j by omega]; exact h2, h3⟩
    · rintro (h | ⟨j, y, h1, h2, h3⟩)
      · exact .inl (.inl h)
      · cases j with
        | zero =>
          simp only [List.getElem?_cons_zero, Option.some.injEq] at h1
          subst h1
          exact .inl (.inr ⟨h2, h3⟩)
        | succ j => exact .inr ⟨j, y, by simpa using h1, by rw [show i + 1 + j = i + (j + 1) by omega]; exact h2, h3⟩
theorem e109 {n : Nat} (z : Sl Bs) (s : Bs) (hl : z.l.length ≤ 1000) (hn : 1100 ≤ n) : cpJ PR n 109 [strs z, .str s] = some (refI (idxAt s z.l 0)) := by
  obtain ⟨n, rfl⟩ : ∃ m, n = m + 1 := ⟨n - 1, by omega⟩
  have key : ∀ (k i m : Nat) (b c : DVal), i + k = z.l.length → k < m → iterJ 0 (L109_0 (cpJ PR n) (ciJ PR n) n (strs z) (.str s)) m [.int .i64 i, b, c] emptySto = some (.done (refI (idxAt s (z.l.drop i) i)) emptySto) := by
    intro k
    induction k with
    | zero =>
      intro i m b c hi hm
      obtain ⟨m, rfl⟩ : ∃ j, m = j + 1 := ⟨m - 1, by omega⟩
      have hi' : ¬ ((i : Int) < z.l.length) := by omega
      rw [List.drop_eq_nil_of_le (by omega)]
      refine iterJ_done ?_
      simp -implicitDefEqProofs [L109_0, B109_0, hi', idxAt, refI]
    | succ k ih =>
      intro i m b c hi hm
      obtain ⟨m, rfl⟩ : ∃ j, m = j + 1 := ⟨m - 1, by omega⟩
      have hi' : ((i : Int) < z.l.length) := by omega
      obtain ⟨y, hy⟩ := get_some (by omega : i < z.l.length)
      have hwr := wrap_i (by omega : i < z.l.length) (by unfold maxLen; omega)
      rw [drop_get hy, idxAt]
      by_cases hf : y = s
      · subst hf
        rw [if_pos rfl, refI_nat]
        refine iterJ_done ?_
        simp -implicitDefEqProofs [L109_0, B109_0, hi', hy, hwr]
      · rw [if_neg hf, ← ih (i + 1) m b c (by omega) (by omega)]
        refine iterJ_next' ?_
        simp -implicitDefEqProofs [L109_0, B109_0, hi', hy, hwr, hf]
  have h1 := key z.l.length 0 n (.bool false) (.int .i64 0) (by omega) (by omega)
  simp only [Int.natCast_zero, List.drop_zero] at h1
  rw [u109]
  simp -implicitDefEqProofs [D109, h1]
theorem e108' {n : Nat} (z : Sl Bs) (s : Bs) (hl : z.l.length ≤ 1000) (hn : 1100 ≤ n) : cpJ PR n 108 [strs z, .str s] = some (.int .i64 (idxAt s z.l 0)) := e108 (n := n) z.z z.l s (by omega) (by omega)
section
variable {n : Nat} (hn : 2000 ≤ n) (a b : PolV) (ha : a.cats.l.length ≤ 10) (hb : b.cats.l.length ≤ 10) (l : LvV) (s : Int) (σ : Sto)
include hn ha hb
theorem l65 : ∀ (k i m : Nat) (ok : Bool) (w : Nat), i + k = a.cats.l.length → k < m → w < 18446744073709551616 →
    iterJ 0 (L65_0 (cpJ PR n) (ciJ PR n) n b.d l.d (strs a.cats) (.int .i64 a.cats.l.length)) m [.int .i64 i, .bool ok, .agg [.int .i64 s, .int .u64 w]] σ =
      some (.done (.tup [.agg [.int .i64 s, .int .u64 (mvP b.cats.l l.c (a.cats.l.drop i) i (ok, w)).2], .bool (mvP b.cats.l l.c (a.cats.l.drop i) i (ok, w)).1]) σ) := by
  intro k
  induction k with
  | zero =>
    intro i m ok w hi hm hw
    obtain ⟨m, rfl⟩ : ∃ j, m = j + 1 := ⟨m - 1, by omega⟩
    have hi' : ¬ ((i : Int) < a.cats.l.length) := by omega
    rw [List.drop_eq_nil_of_le (by omega)]
    refine iterJ_done ?_
    simp -implicitDefEqProofs [L65_0, B65_0, hi', mvP]
  | succ k ih =>
    intro i m ok w hi hm hw
    obtain ⟨m, rfl⟩ : ∃ j, m = j + 1 := ⟨m - 1, by omega⟩
    have hi' : ((i : Int) < a.cats.l.length) := by omega
    obtain ⟨y, hy⟩ := get_some (by omega : i < a.cats.l.length)
    have hwr := wrap_i (by omega : i < a.cats.l.length) (by unfold maxLen; omega)
    have hneg : ¬ ((i : Int) < 0) := by omega
    have hmin : min i 64 = i := by omega
    have hbit := bit_eq l.c l.lt i
    have h1 := e108' (n := n) b.cats y (by omega) (by omega)
    rw [drop_get hy, mvP]
    by_cases hc : l.c.testBit i = true
    · rw [if_pos hc]
      rw [if_pos hc] at hbit
      by_cases h0 : 0 ≤ idxAt y b.cats.l 0
      · rw [if_pos h0]
        obtain ⟨j, e1, e2, -⟩ := idx_bound h0
        rw [e1, Int.toNat_natCast]
        rw [e1] at h1
        have hs := shl_one (by omega : j < 64)
        have ho := or_nat w (2 ^ j) hw (pow_lt (by omega))
        have hneg2 : ¬ ((j : Int) < 0) := by omega
        simp only [Int.one_mul] at hs
        rw [decide_eq_true (by omega : (0 : Int) ≤ (j : Int)), Bool.and_true, ← ih (i + 1) m ok _ (by omega) (by omega) (or_lt hw (pow_lt (by omega)))]
        refine iterJ_next' ?_
        cases ok <;> simp -implicitDefEqProofs [L65_0, B65_0, hi', hy, hwr, hneg, hmin, hbit, h1, hs, ho, IntKind.bits, -Int.natCast_pow]
      · rw [if_neg h0, decide_eq_false h0, Bool.and_false, ← ih (i + 1) m false _ (by omega) (by omega) hw]
        refine iterJ_next' ?_
        cases ok <;> simp -implicitDefEqProofs [L65_0, B65_0, hi', hy, hwr, hneg, hmin, hbit, h1, h0, IntKind.bits]
    · rw [if_neg hc]
      rw [if_neg hc] at hbit
      rw [← ih (i + 1) m ok w (by omega) (by omega) hw]
      refine iterJ_next' ?_
      simp -implicitDefEqProofs [L65_0, B65_0, hi', hy, hwr, hneg, hmin, hbit, IntKind.bits]
theorem l66 : ∀ (k i m : Nat) (ok : Bool) (w : Nat), i + k = a.cats.l.length → k < m → w < 18446744073709551616 →
    iterJ 0 (L66_0 (cpJ PR n) (ciJ PR n) n a.d b.d l.d) m [.int .i64 i, .bool ok, .agg [.int .i64 s, .int .u64 w]] σ =
      some (.done (.tup [.agg [.int .i64 s, .int .u64 (mvR b.cats.l l.c (a.cats.l.drop i) i (ok, w)).2], .bool (mvR b.cats.l l.c (a.cats.l.drop i) i (ok, w)).1]) σ) := by
  intro k
  induction k with
  | zero =>
    intro i m ok w hi hm hw
    obtain ⟨m, rfl⟩ : ∃ j, m = j + 1 := ⟨m - 1, by omega⟩
    have hi' : ¬ ((i : Int) < a.cats.l.length) := by omega
    rw [List.drop_eq_nil_of_le (by omega)]
    refine iterJ_done ?_
    simp -implicitDefEqProofs [L66_0, B66_0, hi', mvR]
  | succ k ih =>
    intro i m ok w hi hm hw
    obtain ⟨m, rfl⟩ : ∃ j, m = j + 1 := ⟨m - 1, by omega⟩
    have hi' : ((i : Int) < a.cats.l.length) := by omega
    have hi64 : ((i : Int) < 64) := by omega
    obtain ⟨y, hy⟩ := get_some (by omega : i < a.cats.l.length)
    have hwr := wrap_i (by omega : i < a.cats.l.length) (by unfold maxLen; omega)
    have hneg : ¬ ((i : Int) < 0) := by omega
    have hmin : min i 64 = i := by omega
    have hbit := bit_eq l.c l.lt i
    have h1 := e109 (n := n) b.cats y (by omega) (by omega)
    rw [refI_eq] at h1
    rw [drop_get hy, mvR]
    by_cases hc : l.c.testBit i = true
    · rw [if_pos hc]
      rw [if_pos hc] at hbit
      obtain ⟨j, e1, e2⟩ : ∃ j : Nat, numI (idxAt y b.cats.l 0) = j ∧ j < 64 := by
        by_cases h0 : 0 ≤ idxAt y b.cats.l 0
        · obtain ⟨j, e1, e2, -⟩ := idx_bound h0
          exact ⟨j, by rw [e1, numI_nn (by omega)], by omega⟩
        · exact ⟨0, by rw [numI, if_pos (by omega)]; rfl, by omega⟩
      rw [e1, Int.toNat_natCast]
      rw [e1] at h1
      have hs := shl_one e2
      have ho := or_nat w (2 ^ j) hw (pow_lt e2)
      have hneg2 : ¬ ((j : Int) < 0) := by omega
      have hmin2 : min j 64 = j := by omega
      simp only [Int.one_mul] at hs
      rw [← ih (i + 1) m _ _ (by omega) (by omega) (or_lt hw (pow_lt e2))]
      refine iterJ_next' ?_
      generalize decide (0 ≤ idxAt y b.cats.l 0) = q at *
      cases ok <;> simp -implicitDefEqProofs [L66_0, B66_0, hi', hi64, hy, hwr, hneg, hmin, hbit, h1, hs, ho, IntKind.bits, -Int.natCast_pow]
    · rw [if_neg hc]
      rw [if_neg hc] at hbit
      rw [← ih (i + 1) m ok w (by omega) (by omega) hw]
      refine iterJ_next' ?_
      simp -implicitDefEqProofs [L66_0, B66_0, hi', hi64, hy, hwr, hneg, hmin, hbit, IntKind.bits]
end
def lvOf (s : Int) (w : Nat) : LvV := ⟨s, w % 18446744073709551616, Nat.mod_lt _ (by decide)⟩
theorem lvOf_c {s : Int} {w : Nat} (h : w < 18446744073709551616) : (lvOf s w).c = w := Nat.mod_eq_of_lt h
def sensI (a b : PolV) (l : LvV) : Int := idxAt (nm a.sens.l l.s.toNat) b.sens.l 0
def mvL (a b : PolV) (l : LvV) : LvV × Bool := (lvOf (sensI a b l) (mvP b.cats.l l.c a.cats.l 0 (decide (0 ≤ sensI a b l), 0)).2, (mvP b.cats.l l.c a.cats.l 0 (decide (0 ≤ sensI a b l), 0)).1)
abbrev lvA (l : LvV) : DVal := .agg [.int .i64 l.s, .int .u64 l.c]
section
variable {n : Nat} (hn : 2100 ≤ n) (a b : PolV) (ha : SmallP a) (hb : SmallP b) (l : LvV) {i : Nat} (hi : l.s = i) (hil : i < a.sens.l.length)
include hn ha hb hi hil
theorem e65 : cpJ PR n 65 [a.d, b.d, l.d] = some (.tup [lvA (mvL a b l).1, .bool (mvL a b l).2]) := by
  obtain ⟨n, rfl⟩ : ∃ m, n = m + 1 := ⟨n - 1, by omega⟩
  have hac := ha.cats
  have hbc := hb.cats
  have hbs := hb.sens
  have h1 := e108' (n := n) b.sens (nm a.sens.l i) (by omega) (by omega)
  have h2 := l65 (n := n) (by omega) a b (by omega) (by omega) l (sensI a b l) emptySto a.cats.l.length 0 n (decide (0 ≤ sensI a b l)) 0 (by omega) (by omega) (by decide)
  have h3 := mvP_lt (B := b.cats.l) (by omega) l.c a.cats.l 0 (decide (0 ≤ sensI a b l), 0) (by show 0 < 18446744073709551616; decide)
  have h4 : idxAt (nm a.sens.l i) b.sens.l 0 = sensI a b l := by unfold sensI; rw [hi, Int.toNat_natCast]
  rw [h4] at h1
  have h5 := get_nm hil
  unfold mvL lvA
  simp only
  rw [lvOf_c h3]
  simp only [Int.natCast_zero, List.drop_zero] at h2
  rw [u65]
  have e : (lvOf (sensI a b l) (mvP b.cats.l l.c a.cats.l 0 (decide (0 ≤ sensI a b l), 0)).2).s = sensI a b l := rfl
  rw [e]
  generalize mvP b.cats.l l.c a.cats.l 0 (decide (0 ≤ sensI a b l), 0) = x at *
  simp -implicitDefEqProofs [D65, hi, h5, h1, h2]
theorem e66 : ∃ l', cpJ PR n 66 [a.d, b.d, l.d] = some (.tup [lvA l', .bool (mvL a b l).2]) ∧ ((mvL a b l).2 = true → l' = (mvL a b l).1) := by
  obtain ⟨n, rfl⟩ : ∃ m, n = m + 1 := ⟨n - 1, by omega⟩
  have hac := ha.cats
  have hbc := hb.cats
  have hbs := hb.sens
  have h1 := e109 (n := n) b.sens (nm a.sens.l i) (by omega) (by omega)
  rw [refI_eq] at h1
  have h2 := l66 (n := n) (by omega) a b (by omega) (by omega) l (numI (sensI a b l)) emptySto a.cats.l.length 0 n (decide (0 ≤ sensI a b l)) 0 (by omega) (by omega) (by decide)
  have h3 := mvR_lt (B := b.cats.l) (by omega) l.c a.cats.l 0 (decide (0 ≤ sensI a b l), 0) (by show 0 < 18446744073709551616; decide)
  have h4 : idxAt (nm a.sens.l i) b.sens.l 0 = sensI a b l := by unfold sensI; rw [hi, Int.toNat_natCast]
  rw [h4] at h1
  have h5 := get_nm hil
  obtain ⟨h6, h7⟩ := mv_eq b.cats.l l.c a.cats.l 0 (decide (0 ≤ sensI a b l)) 0 0 (fun _ => rfl)
  have h8 := mvP_ok b.cats.l l.c a.cats.l 0 (decide (0 ≤ sensI a b l), 0)
  simp only [Int.natCast_zero, List.drop_zero] at h2
  refine ⟨lvOf (numI (sensI a b l)) (mvR b.cats.l l.c a.cats.l 0 (decide (0 ≤ sensI a b l), 0)).2, ?_, fun h => ?_⟩
  · unfold mvL lvA
    simp only
    rw [lvOf_c h3, h6]
    have e : (lvOf (numI (sensI a b l)) (mvR b.cats.l l.c a.cats.l 0 (decide (0 ≤ sensI a b l), 0)).2).s = numI (sensI a b l) := rfl
    rw [e, u66]
    clear h3 h6 h7 h8
    generalize mvR b.cats.l l.c a.cats.l 0 (decide (0 ≤ sensI a b l), 0) = x at *
    simp -implicitDefEqProofs [D66, hi, h5, h1, h2]
  · unfold mvL at h ⊢
    simp only at h ⊢
    have h9 := (h8.1 h).1
    simp only [decide_eq_true_eq] at h9
    rw [numI_nn (by omega), h7 h]
end
def moveO (a b : PolV) (c : CtxV) : CtxV :=
  (fun x : Int × Int × Int => ⟨x.1, x.2.1, x.2.2, (mvL a b c.lo).1, (mvL a b c.hi).1⟩)
    (namedI b (((at' a.users.l c.user).map UserV.name).getD []) (((at' a.roles.l c.role).map RoleV.name).getD []) (((at' a.types.l c.type).map TypeV.name).getD []))
def moveC (a b : PolV) (c : CtxV) : CtxV × Int :=
  if checkC a c = 0 then (if (mvL a b c.lo).2 = true ∧ (mvL a b c.hi).2 = true ∧ checkC b (moveO a b c) = 0 then (moveO a b c, 0) else (CtxV.z, 19)) else (CtxV.z, checkC a c)
theorem moveO_ok {a b : PolV} {c : CtxV} (X : CtxOk a c) : moveO a b c = ⟨(namedI b X.u.name X.r.name X.t.name).1, (namedI b X.u.name X.r.name X.t.name).2.1, (namedI b X.u.name X.r.name X.t.name).2.2, (mvL a b c.lo).1, (mvL a b c.hi).1⟩ := by
  have a1 : at' a.users.l c.user = some X.u := by rw [X.eu, at', if_pos (by omega), Int.toNat_natCast, X.hu]
  have a2 : at' a.roles.l c.role = some X.r := by rw [X.er, at', if_pos (by omega), Int.toNat_natCast, X.hr]
  have a3 : at' a.types.l c.type = some X.t := by rw [X.et, at', if_pos (by omega), Int.toNat_natCast, X.ht]
  unfold moveO
  rw [a1, a2, a3]
  rfl
theorem rng_facts {p : PolV} {lo hi : LvV} (h : rngV p lo hi = true) : (∃ i : Nat, lo.s = i ∧ i < p.sens.l.length) ∧ (∃ i : Nat, hi.s = i ∧ i < p.sens.l.length) ∧ (∀ j, lo.c.testBit j = true → j < p.cats.l.length) ∧ (∀ j, hi.c.testBit j = true → j < p.cats.l.length) := by
  obtain ⟨⟨i, i', e1, e2, h1, h2⟩, h3, h4⟩ := range_facts (⟨lo.lt, hi.lt⟩ : Rok lo.c hi.c) h
  exact ⟨⟨i, e1, h1⟩, ⟨i', e2, h2⟩, h3, h4⟩
theorem checkC_bad {p : PolV} {c : CtxV} (h : c.user < 0 ∨ c.role < 0 ∨ c.type < 0) : checkC p c = 3 := by
  unfold checkC
  have key : ∀ {α : Type} (l : List α) (i : Int), i < 0 → at' l i = none := fun l i h => by unfold at'; rw [if_neg (by omega)]
  rcases h with h | h | h
  · rw [key _ _ h]
  · rw [key _ _ h]; cases at' p.users.l c.user <;> rfl
  · rw [key _ _ h]; cases at' p.users.l c.user <;> cases at' p.roles.l c.role <;> rfl
section
variable {n : Nat} (hn : 2300 ≤ n) (a b : PolV) (ga : Good' a) (gb : Good' b) (c : CtxV)
include hn ga gb
theorem e32 : cpJ PR n 32 [a.d, b.d, c.d] = some (.tup [(moveC a b c).1.d, .int .i64 (moveC a b c).2]) := by
  obtain ⟨n, rfl⟩ : ∃ m, n = m + 1 := ⟨n - 1, by omega⟩
  have h1 := e13 (n := n) (by omega) a c
  rw [u32]
  unfold moveC
  by_cases h : checkC a c = 0
  · obtain ⟨X⟩ := check_ok h
    rw [if_pos h]
    rw [h] at h1
    obtain ⟨⟨i, hi, hil⟩, ⟨i', hi', hil'⟩, -, -⟩ := rng_facts X.rng
    have h2 := e65 (n := n) (by omega) a b ga.small gb.small c.lo hi hil
    have h3 := e65 (n := n) (by omega) a b ga.small gb.small c.hi hi' hil'
    rw [moveO_ok X]
    have x1 := X.hu
    have x2 := X.hr
    have x3 := X.ht
    have y1 := X.eu
    have y2 := X.er
    have y3 := X.et
    generalize X.u = u at *
    generalize X.r = r at *
    generalize X.t = t at *
    have k1 := e47 (n := n) (by omega) b gb.small u.name
    have k2 := e48 (n := n) (by omega) b gb.small r.name
    have k3 := e49 (n := n) (by omega) b gb.small t.name
    change _ = some (DVal.int .i64 (namedI b u.name r.name t.name).1) at k1
    change _ = some (DVal.int .i64 (namedI b u.name r.name t.name).2.1) at k2
    change _ = some (DVal.int .i64 (namedI b u.name r.name t.name).2.2) at k3
    generalize namedI b u.name r.name t.name = x at *
    generalize mvL a b c.lo = m1 at *
    generalize mvL a b c.hi = m2 at *
    obtain ⟨xu, xr, xt⟩ := x
    obtain ⟨lo, q1⟩ := m1
    obtain ⟨hi2, q2⟩ := m2
    simp only at *
    have k4 : cpJ PR n 13 [b.d, ctxA xu xr xt lo hi2] = some (.int .i64 (checkC b ⟨xu, xr, xt, lo, hi2⟩)) := e13 (n := n) (by omega) b ⟨xu, xr, xt, lo, hi2⟩
    cases q1
    · simp -implicitDefEqProofs [D32, h1, x1, x2, x3, y1, y2, y3, k1, k2, k3, h2, h3]
      rfl
    · cases q2
      · simp -implicitDefEqProofs [D32, h1, x1, x2, x3, y1, y2, y3, k1, k2, k3, h2, h3]
        rfl
      · by_cases hc : checkC b ⟨xu, xr, xt, lo, hi2⟩ = 0
        · rw [if_pos ⟨rfl, rfl, hc⟩]
          rw [hc] at k4
          simp -implicitDefEqProofs [D32, h1, x1, x2, x3, y1, y2, y3, k1, k2, k3, h2, h3, k4]
          rfl
        · rw [if_neg (fun h => hc h.2.2)]
          simp -implicitDefEqProofs [D32, h1, x1, x2, x3, y1, y2, y3, k1, k2, k3, h2, h3, k4, hc]
          rfl
  · rw [if_neg h]
    simp -implicitDefEqProofs [D32, h1, h]
    rfl
theorem e33 : cpJ PR n 33 [a.d, b.d, c.d] = some (.tup [(moveC a b c).1.d, .int .i64 (moveC a b c).2]) := by
  obtain ⟨n, rfl⟩ : ∃ m, n = m + 1 := ⟨n - 1, by omega⟩
  have h1 := e14 (n := n) (by omega) a c
  rw [u33]
  unfold moveC
  by_cases h : checkC a c = 0
  · obtain ⟨X⟩ := check_ok h
    rw [if_pos h]
    rw [h] at h1
    obtain ⟨⟨i, hi, hil⟩, ⟨i', hi', hil'⟩, -, -⟩ := rng_facts X.rng
    obtain ⟨l1, h2, h2'⟩ := e66 (n := n) (by omega) a b ga.small gb.small c.lo hi hil
    obtain ⟨l2, h3, h3'⟩ := e66 (n := n) (by omega) a b ga.small gb.small c.hi hi' hil'
    rw [moveO_ok X]
    have x1 := X.hu
    have x2 := X.hr
    have x3 := X.ht
    have y1 := X.eu
    have y2 := X.er
    have y3 := X.et
    generalize X.u = u at *
    generalize X.r = r at *
    generalize X.t = t at *
    have k1 := e51 (n := n) (by omega) b gb.small u.name r.name t.name
    generalize namedI b u.name r.name t.name = x at *
    generalize mvL a b c.lo = m1 at *
    generalize mvL a b c.hi = m2 at *
    obtain ⟨xu, xr, xt⟩ := x
    obtain ⟨lo, q1⟩ := m1
    obtain ⟨hi2, q2⟩ := m2
    simp only at *
    by_cases hok : okI (xu, xr, xt) = true
    · obtain ⟨o1, o2, o3⟩ := okI_iff.1 hok
      simp only at o1 o2 o3
      rw [hok, numI_nn o1, numI_nn o2, numI_nn o3] at k1
      cases q1
      · simp -implicitDefEqProofs [D33, h1, x1, x2, x3, y1, y2, y3, k1, h2, h3]
        rfl
      · cases q2
        · simp -implicitDefEqProofs [D33, h1, x1, x2, x3, y1, y2, y3, k1, h2, h3]
          rfl
        · obtain rfl := h2' rfl
          obtain rfl := h3' rfl
          have k4 : cpJ PR n 14 [b.d, ctxA xu xr xt l1 l2] = some (.int .i64 (checkC b ⟨xu, xr, xt, l1, l2⟩)) := e14 (n := n) (by omega) b ⟨xu, xr, xt, l1, l2⟩
          by_cases hc : checkC b ⟨xu, xr, xt, l1, l2⟩ = 0
          · rw [if_pos ⟨rfl, rfl, hc⟩]
            rw [hc] at k4
            simp -implicitDefEqProofs [D33, h1, x1, x2, x3, y1, y2, y3, k1, h2, h3, k4]
            rfl
          · rw [if_neg (fun h => hc h.2.2)]
            simp -implicitDefEqProofs [D33, h1, x1, x2, x3, y1, y2, y3, k1, h2, h3, k4, hc]
            rfl
    · have hok' : okI (xu, xr, xt) = false := by simpa using hok
      rw [hok'] at k1
      have hbad : checkC b ⟨xu, xr, xt, lo, hi2⟩ = 3 := checkC_bad (by
        have : ¬ (¬ xu < 0 ∧ ¬ xr < 0 ∧ ¬ xt < 0) := fun h => hok (okI_iff.2 h)
        simp only
        omega)
      rw [if_neg (fun h => by rw [hbad] at h; have := h.2.2; omega)]
      simp -implicitDefEqProofs [D33, h1, x1, x2, x3, y1, y2, y3, k1, h2, h3]
      rfl
  · rw [if_neg h]
    simp -implicitDefEqProofs [D33, h1, h]
    rfl
end
theorem nm_get {l : List Bs} {i : Nat} {s : Bs} (h : l[i]? = some s) : nm l i = s := by rw [nm, List.getD_eq_getElem?_getD, h]; rfl
theorem idx_get {l : List Bs} (hd : l.Nodup) {i : Nat} {s : Bs} (h : l[i]? = some s) : idxAt s l 0 = i := by
  have h1 := (List.getElem?_eq_some_iff.1 h).1
  rw [← nm_get h]; exact idx_nm hd h1
theorem mvL_self {a : PolV} (g : Good' a) (l : LvV) {i : Nat} (hi : l.s = i) (hil : i < a.sens.l.length) (hv : ∀ j, l.c.testBit j = true → j < a.cats.l.length) : mvL a a l = (l, true) := by
  have hs : sensI a a l = i := by unfold sensI; rw [hi, Int.toNat_natCast]; exact idx_nm g.cats.1.nd hil
  have h1 : (mvP a.cats.l l.c a.cats.l 0 (decide (0 ≤ sensI a a l), 0)).1 = true := by
    rw [mvP_ok]
    refine ⟨by rw [hs]; simp, fun j s hj _ => ?_⟩
    rw [idx_get g.cats.2.nd hj]; omega
  have h2 : (mvP a.cats.l l.c a.cats.l 0 (decide (0 ≤ sensI a a l), 0)).2 = l.c := by
    refine Nat.eq_of_testBit_eq fun k => ?_
    rw [Bool.eq_iff_iff, mvP_bit]
    simp only [Nat.zero_testBit, Bool.false_eq_true, false_or, Nat.zero_add]
    constructor
    · rintro ⟨j, s, hj, hb, he⟩
      rw [idx_get g.cats.2.nd hj] at he
      obtain rfl : j = k := by omega
      exact hb
    · intro hb
      have hk := get_nm (hv k hb)
      exact ⟨k, _, hk, hb, idx_get g.cats.2.nd hk⟩
  unfold mvL
  rw [h1, h2, hs]
  obtain ⟨s, c, hc⟩ := l
  simp only at hi ⊢
  subst hi
  simp only [lvOf, Nat.mod_eq_of_lt hc]
theorem mvL_back {a b : PolV} (ga : Good' a) (gb : Good' b) (l : LvV) {i : Nat} (hi : l.s = i) (hil : i < a.sens.l.length) (hv : ∀ j, l.c.testBit j = true → j < a.cats.l.length) (h : (mvL a b l).2 = true) : mvL b a (mvL a b l).1 = (l, true) := by
  have hbc := gb.small.cats
  have h3 := mvP_lt (B := b.cats.l) (by omega) l.c a.cats.l 0 (decide (0 ≤ sensI a b l), 0) (by show 0 < 18446744073709551616; decide)
  have hok := (mvP_ok b.cats.l l.c a.cats.l 0 (decide (0 ≤ sensI a b l), 0)).1 h
  have hbit := mvP_bit b.cats.l l.c a.cats.l 0 (decide (0 ≤ sensI a b l), 0)
  obtain ⟨o1, o2⟩ := hok
  simp only [decide_eq_true_eq] at o1
  have hsn : idxAt (nm a.sens.l i) b.sens.l 0 = sensI a b l := by unfold sensI; rw [hi, Int.toNat_natCast]
  obtain ⟨k, e1, e2, e3⟩ := idx_bound (hsn ▸ o1)
  rw [hsn] at e1
  have hl' : (mvL a b l).1 = lvOf (sensI a b l) (mvP b.cats.l l.c a.cats.l 0 (decide (0 ≤ sensI a b l), 0)).2 := rfl
  rw [hl']
  simp only [Nat.zero_testBit, Bool.false_eq_true, false_or, Nat.zero_add] at hbit o2
  generalize (mvP b.cats.l l.c a.cats.l 0 (decide (0 ≤ sensI a b l), 0)).2 = w at *
  rw [e1]
  have hs : sensI b a (lvOf k w) = i := by
    unfold sensI
    rw [show (lvOf (k : Int) w).s = k from rfl, Int.toNat_natCast, nm_get e3]
    exact idx_nm ga.cats.1.nd hil
  have hc : (lvOf (k : Int) w).c = w := lvOf_c h3
  have h1 : (mvP a.cats.l (lvOf (k : Int) w).c b.cats.l 0 (decide (0 ≤ sensI b a (lvOf k w)), 0)).1 = true := by
    rw [mvP_ok]
    refine ⟨by rw [hs]; simp, fun j s hj hb => ?_⟩
    rw [hc, Nat.zero_add] at hb
    obtain ⟨j', s', g1, g2, g3⟩ := (hbit j).1 hb
    obtain ⟨k', f1, f2, f3⟩ := idx_bound (s := s') (B := b.cats.l) (by omega)
    obtain rfl : k' = j := by omega
    rw [hj] at f3
    obtain rfl := Option.some.inj f3
    rw [idx_get ga.cats.2.nd g1]; omega
  have h2 : (mvP a.cats.l (lvOf (k : Int) w).c b.cats.l 0 (decide (0 ≤ sensI b a (lvOf k w)), 0)).2 = l.c := by
    refine Nat.eq_of_testBit_eq fun m => ?_
    rw [Bool.eq_iff_iff, mvP_bit, hc]
    simp only [Nat.zero_testBit, Bool.false_eq_true, false_or, Nat.zero_add]
    constructor
    · rintro ⟨j, s, hj, hb, he⟩
      obtain ⟨j', s', g1, g2, g3⟩ := (hbit j).1 hb
      obtain ⟨k', f1, f2, f3⟩ := idx_bound (s := s') (B := b.cats.l) (by omega)
      obtain rfl : k' = j := by omega
      rw [hj] at f3
      obtain rfl := Option.some.inj f3
      rw [idx_get ga.cats.2.nd g1] at he
      obtain rfl : j' = m := by omega
      exact g2
    · intro hb
      have hm := get_nm (hv m hb)
      obtain ⟨k', f1, f2, f3⟩ := idx_bound (o2 m _ hm hb)
      exact ⟨k', _, f3, (hbit k').2 ⟨m, _, hm, hb, f1⟩, idx_get ga.cats.2.nd hm⟩
  unfold mvL
  rw [h1, h2, hs]
  obtain ⟨s, c, hcl⟩ := l
  simp only at hi ⊢
  subst hi
  simp only [lvOf, Nat.mod_eq_of_lt hcl]
theorem CtxV.ext' {a b : CtxV} (h1 : a.user = b.user) (h2 : a.role = b.role) (h3 : a.type = b.type) (h4 : a.lo = b.lo) (h5 : a.hi = b.hi) : a = b := by
  cases a; cases b
  simp only at h1 h2 h3 h4 h5
  subst h1 h2 h3 h4 h5
  rfl
theorem move_self {a : PolV} (g : Good' a) {c : CtxV} (h : checkC a c = 0) : moveC a a c = (c, 0) := by
  obtain ⟨X⟩ := check_ok h
  obtain ⟨⟨i, hi, hil⟩, ⟨i', hi', hil'⟩, hb, hb'⟩ := rng_facts X.rng
  have m1 := mvL_self g c.lo hi hil hb
  have m2 := mvL_self g c.hi hi' hil' hb'
  have e : moveO a a c = c := by
    rw [moveO_ok X]
    have hn : namedI a X.u.name X.r.name X.t.name = (c.user, c.role, c.type) := by
      unfold namedI
      rw [find_user g X.hu, find_role g X.hr, find_type g X.ht, X.eu, X.er, X.et]
    rw [hn, m1, m2]
  unfold moveC
  rw [if_pos h, e, m1, m2, if_pos ⟨rfl, rfl, h⟩]
theorem findI_name {α : Type} {f : α → Bool} {l : List α} {j : Nat} {x : α} (h : findI f l 0 = (j : Int)) (hx : l[j]? = some x) : f x = true := by
  rcases findI_cases f l 0 with ⟨h1, -⟩ | ⟨k, y, h1, h2, h3, -⟩
  · omega
  · obtain rfl : k = j := by omega
    rw [hx] at h2
    rw [Option.some.inj h2]; exact h3
theorem move_back {a b : PolV} (ga : Good' a) (gb : Good' b) (hal : ∀ t ∈ b.types.l, t.aliases.l = []) {c : CtxV} (h : checkC a c = 0) (hm : (moveC a b c).2 = 0) : moveC b a (moveC a b c).1 = (c, 0) := by
  obtain ⟨X⟩ := check_ok h
  obtain ⟨⟨i, hi, hil⟩, ⟨i', hi', hil'⟩, hb, hb'⟩ := rng_facts X.rng
  have hM : (mvL a b c.lo).2 = true ∧ (mvL a b c.hi).2 = true ∧ checkC b (moveO a b c) = 0 := by
    unfold moveC at hm
    rw [if_pos h] at hm
    by_cases hq : (mvL a b c.lo).2 = true ∧ (mvL a b c.hi).2 = true ∧ checkC b (moveO a b c) = 0
    · exact hq
    · rw [if_neg hq] at hm; simp at hm
  have e1 : (moveC a b c).1 = moveO a b c := by
    unfold moveC
    rw [if_pos h, if_pos hM]
  rw [e1]
  obtain ⟨Y⟩ := check_ok hM.2.2
  have m1 := mvL_back ga gb c.lo hi hil hb hM.1
  have m2 := mvL_back ga gb c.hi hi' hil' hb' hM.2.1
  have hO := moveO_ok (b := b) X
  have n1 : Y.u.name = X.u.name := by
    have h1 := (congrArg CtxV.user hO).symm.trans Y.eu
    simpa [userF] using findI_name h1 Y.hu
  have n2 : Y.r.name = X.r.name := by
    have h1 := (congrArg CtxV.role hO).symm.trans Y.er
    simpa [roleF] using findI_name h1 Y.hr
  have n3 : Y.t.name = X.t.name := by
    have h1 := (congrArg CtxV.type hO).symm.trans Y.et
    have h2 := findI_name h1 Y.ht
    have h3 := hal Y.t (List.mem_of_getElem? Y.ht)
    simpa [typeF, h3] using h2
  have e : moveO b a (moveO a b c) = c := by
    rw [moveO_ok Y, n1, n2, n3]
    have hn : namedI a X.u.name X.r.name X.t.name = (c.user, c.role, c.type) := by
      unfold namedI
      rw [find_user ga X.hu, find_role ga X.hr, find_type ga X.ht, X.eu, X.er, X.et]
    have l1 : (moveO a b c).lo = (mvL a b c.lo).1 := by rw [hO]
    have l2 : (moveO a b c).hi = (mvL a b c.hi).1 := by rw [hO]
    rw [hn, l1, l2, m1, m2]
  have l1 : (moveO a b c).lo = (mvL a b c.lo).1 := by rw [hO]
  have l2 : (moveO a b c).hi = (mvL a b c.hi).1 := by rw [hO]
  unfold moveC
  rw [if_pos hM.2.2, e, l1, l2, m1, m2, if_pos ⟨rfl, rfl, h⟩]
section
variable {n d d' : Nat} (hn : maxLen + 2000 + d + d' ≤ n) (aw : cpJ PR n 12 [] = some (.bool true)) {a b : PolV} (hf : PFit d a) (hf' : PFit d' b) (c : CtxV)
include hn aw hf hf'
theorem e9 : cpJ PR (n + 1) 9 [a.d, b.d, c.d] = some (.bool true) := by
  have hml : maxLen ≥ 9000000 := by unfold maxLen; omega
  obtain ⟨q, h1, hq⟩ := e11 (n := n) (d := d) (by omega) hf
  obtain ⟨q', h1', hq'⟩ := e11 (n := n) (d := d') (by omega) hf'
  rw [u9]
  cases q with
  | false => simp -implicitDefEqProofs [D9, h1, aw]
  | true =>
    cases q' with
    | false => simp -implicitDefEqProofs [D9, h1, h1', aw]
    | true =>
      have h2 := e32 (n := n) (by omega) a b (hq rfl) (hq' rfl) c
      have h3 := e33 (n := n) (by omega) a b (hq rfl) (hq' rfl) c
      have h4 := ctx_eq (moveC a b c).1
      simp -implicitDefEqProofs [D9, h1, h1', h2, h3, h4, aw, -eqaSem.eq_1]
omit hf hf' in
theorem l10 (ga : Good' a) (gb : Good' b) (hc : checkC a c = 0) (σ : Sto) : ∀ (k i m : Nat) (u : DVal), i + k = b.types.l.length → k < m → (∀ t ∈ b.types.l.take i, t.aliases.l = []) →
    iterJ 0 (L10_0 (cpJ PR n) (ciJ PR n) n a.d b.d c.d) m [.int .i64 i, u] σ = some (.done (.bool true) σ) := by
  have hml : maxLen ≥ 9000000 := by unfold maxLen; omega
  have hlen := gb.small.types
  intro k
  induction k with
  | zero =>
    intro i m u hi hm hal
    obtain ⟨m, rfl⟩ : ∃ j, m = j + 1 := ⟨m - 1, by omega⟩
    have hi' : ¬ ((i : Int) < b.types.l.length) := by omega
    rw [List.take_of_length_le (by omega)] at hal
    have h1 := e32 (n := n) (by omega) a b ga gb c
    refine iterJ_done ?_
    by_cases he : (moveC a b c).2 = 0
    · have h2 := e32 (n := n) (by omega) b a gb ga (moveC a b c).1
      rw [move_back ga gb hal hc he] at h2
      rw [he] at h1
      have h3 := ctx_eq c
      generalize (moveC a b c).1 = y at *
      simp -implicitDefEqProofs [L10_0, B10_0, hi', h1, h2, h3, aw, -eqaSem.eq_1]
    · have hz : (moveC a b c).1 = CtxV.z := by
        unfold moveC at he ⊢
        rw [if_pos hc] at he ⊢
        split
        · rename_i hq; rw [if_pos hq] at he; exact absurd rfl he
        · rfl
      rw [hz] at h1
      have h3 := ctx_eq CtxV.z
      have h4 := build_ctx (cpJ PR n)
      generalize (moveC a b c).2 = e at *
      simp -implicitDefEqProofs [L10_0, B10_0, hi', h1, he, h3, h4, aw, -eqaSem.eq_1, -POp.sem.eq_17]
  | succ k ih =>
    intro i m u hi hm hal
    obtain ⟨m, rfl⟩ : ∃ j, m = j + 1 := ⟨m - 1, by omega⟩
    have hi' : ((i : Int) < b.types.l.length) := by omega
    obtain ⟨y, hy⟩ := get_some (by omega : i < b.types.l.length)
    have hwr := wrap_i (by omega : i < b.types.l.length) (by unfold maxLen; omega)
    by_cases h0 : y.aliases.l = []
    · rw [← ih (i + 1) m u (by omega) (by omega) (by
        rw [take_get hy]
        intro t ht
        rcases List.mem_append.1 ht with ht | ht
        · exact hal t ht
        · rw [List.mem_singleton.1 ht]; exact h0)]
      refine iterJ_next' ?_
      simp -implicitDefEqProofs [L10_0, B10_0, hi', hy, hwr, h0]
    · have h1 : 0 < y.aliases.l.length := List.length_pos_iff.2 h0
      refine iterJ_done ?_
      simp -implicitDefEqProofs [L10_0, B10_0, hi', hy, hwr, h1, aw]
theorem e10 : cpJ PR (n + 1) 10 [a.d, b.d, c.d] = some (.bool true) := by
  have hml : maxLen ≥ 9000000 := by unfold maxLen; omega
  obtain ⟨q, h1, hq⟩ := e11 (n := n) (d := d) (by omega) hf
  obtain ⟨q', h1', hq'⟩ := e11 (n := n) (d := d') (by omega) hf'
  rw [u10]
  cases q with
  | false => simp -implicitDefEqProofs [D10, h1, aw]
  | true =>
    cases q' with
    | false => simp -implicitDefEqProofs [D10, h1, h1', aw]
    | true =>
      have h2 := e13 (n := n) (by omega) a c
      by_cases hc : checkC a c = 0
      · have h3 := e32 (n := n) (by omega) a a (hq rfl) (hq rfl) c
        rw [move_self (hq rfl) hc] at h3
        rw [hc] at h2
        have h4 := ctx_ne c
        have hlen := (hq' rfl).small.types
        have h5 := l10 hn aw c (hq rfl) (hq' rfl) hc emptySto b.types.l.length 0 n (.bool false) (by omega) (by omega) (by simp)
        simp only [Int.natCast_zero] at h5
        simp -implicitDefEqProofs [D10, h1, h1', h2, h3, h4, h5, -eqaSem.eq_1]
      · simp -implicitDefEqProofs [D10, h1, h1', h2, hc, aw]
end
end Go.Proofs.YthpccimmmfonjaaGreatDoor
