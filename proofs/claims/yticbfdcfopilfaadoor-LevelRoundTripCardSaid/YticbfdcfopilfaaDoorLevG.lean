/- Parse of long texts; what is written reads back. -/
import Derived.Test.YticbfdcfopilfaaDoorLevP4
set_option linter.unusedVariables false
set_option linter.unusedSimpArgs false
set_option maxRecDepth 20000
set_option maxHeartbeats 4000000
namespace Go.Proofs.YticbfdcfopilfaaDoor
open Go

theorem e62g {n : Nat} (u : Bs) (hu : u.length ≤ 20000) (hn : 20100 ≤ n) : cpJ PR n 62 [.str u] =
    some (.tup [.agg [.str (Lib.cut u [46]).1, .str (Lib.cut u [46]).2.1], .bool (wordV (Lib.cut u [46]).1 && (!(Lib.cut u [46]).2.2 || wordV (Lib.cut u [46]).2.1))]) := by
  obtain ⟨n, rfl⟩ : ∃ m, n = m + 1 := ⟨n - 1, by omega⟩
  have h1 := e47 (n := n) (by omega) u (by omega) 46
  have hl := cut_len u 46
  have h2 := e60 (n := n) (Lib.cut u [46]).1 (by omega) (by omega)
  have h3 := e60 (n := n) (Lib.cut u [46]).2.1 (by omega) (by omega)
  rw [u62]
  generalize (Lib.cut u [46]).1 = a at h1 h2 ⊢
  generalize (Lib.cut u [46]).2.1 = b at h1 h3 ⊢
  generalize (Lib.cut u [46]).2.2 = q at h1 ⊢
  cases hq : q <;> cases ha : wordV a <;> cases hb : wordV b <;> rw [hq] at h1 <;> rw [ha] at h2 <;> rw [hb] at h3 <;> simp -implicitDefEqProofs [D62, h1, h2, h3]

theorem l48g {n : Nat} (hn : 21000 ≤ n) (name : Bs) (ps : List Bs) (hps : ps.length ≤ 20100) (hpl : ∀ p ∈ ps, p.length ≤ 20000) (σ : Sto) : ∀ (k j m : Nat) (es : List (List DVal)) (u : DVal), j + k = ps.length → k < m → es.length ≤ j →
    (∀ sp, mapO spanP (ps.drop j) = some sp → iterJ 0 (L48_0 (cpJ PR n) (ciJ PR n) n (.slice false 0 1 (ps.map fun x => [.str x])) (.int .i64 ps.length)) m [.int .i64 j, u, .agg [.str name, (apd σ 2 es).1], .agg [.str [], .nils]] (apd σ 2 es).2 =
      some (.done (.tup [.agg [.str name, (apd σ 2 (es ++ sp.map spRow)).1], .bool true]) (apd σ 2 (es ++ sp.map spRow)).2)) ∧
    (mapO spanP (ps.drop j) = none → ∃ es', iterJ 0 (L48_0 (cpJ PR n) (ciJ PR n) n (.slice false 0 1 (ps.map fun x => [.str x])) (.int .i64 ps.length)) m [.int .i64 j, u, .agg [.str name, (apd σ 2 es).1], .agg [.str [], .nils]] (apd σ 2 es).2 =
      some (.done (.tup [.agg [.str name, (apd σ 2 es').1], .bool false]) (apd σ 2 es').2)) := by
  intro k
  induction k with
  | zero =>
    intro j m es u hj hm hes
    obtain ⟨m, rfl⟩ : ∃ q, m = q + 1 := ⟨m - 1, by omega⟩
    have hj' : ¬ ((j : Int) < ps.length) := by omega
    rw [List.drop_eq_nil_of_le (by omega)]
    refine ⟨fun sp h => ?_, fun h => by simp [mapO] at h⟩
    simp only [mapO, Option.some.injEq] at h
    subst h
    refine iterJ_done ?_
    simp -implicitDefEqProofs [L48_0, B48_0, hj']
  | succ k ih =>
    intro j m es u hj hm hes
    obtain ⟨m, rfl⟩ : ∃ q, m = q + 1 := ⟨m - 1, by omega⟩
    have hj' : ((j : Int) < ps.length) := by omega
    obtain ⟨p, hp⟩ := get_some (by omega : j < ps.length)
    have hw : IntKind.i64.wrap ((j : Int) + 1) = (j : Int) + 1 := wrap_i64 (by omega) (by omega)
    have h1 := e62g (n := n) p (hpl p (List.mem_of_getElem? hp)) (by omega)
    have h2 := spanP_eq p
    rw [drop_get hp]
    generalize (Lib.cut p [46]).1 = a at h1 h2
    generalize (Lib.cut p [46]).2.1 = b at h1 h2
    generalize (wordV a && (!(Lib.cut p [46]).2.2 || wordV b)) = ok at h1 h2
    have ha := app_apd (σ := σ) (sz := 2) (own := 1) (es := es) (r := spRow (a, b)) (by omega)
    cases ok with
    | true =>
      rw [if_pos rfl] at h2
      have step : L48_0 (cpJ PR n) (ciJ PR n) n (.slice false 0 1 (ps.map fun x => [.str x])) (.int .i64 ps.length) [.int .i64 j, u, .agg [.str name, (apd σ 2 es).1], .agg [.str [], .nils]] (apd σ 2 es).2 =
          some (.next 0 [.int .i64 ((j + 1 : Nat) : Int), u, .agg [.str name, (apd σ 2 (es ++ [spRow (a, b)])).1], .agg [.str [], .nils]] (apd σ 2 (es ++ [spRow (a, b)])).2) := by
        simp only [spRow] at ha ⊢
        simp -implicitDefEqProofs [L48_0, B48_0, hj', hp, h1, ha, hw]
      obtain ⟨i1, i2⟩ := ih (j + 1) m (es ++ [spRow (a, b)]) u (by omega) (by omega) (by simp; omega)
      simp only [mapO, h2]
      rw [iterJ_next' step]
      refine ⟨fun sp h => ?_, fun h => ?_⟩
      · split at h
        · rename_i y ys e1 e2
          simp only [Option.some.injEq] at h e1
          subst h e1
          rw [i1 _ e2]
          simp
        · cases h
      · split at h
        · cases h
        · rename_i hno
          refine i2 ?_
          cases hd : mapO spanP (ps.drop (j + 1)) with
          | none => rfl
          | some ys => exact absurd hd (hno _ ys rfl)
    | false =>
      rw [if_neg (by decide)] at h2
      have hm : mapO spanP (p :: ps.drop (j + 1)) = none := by simp only [mapO, h2]
      rw [hm]
      refine ⟨fun sp h => (by cases h), fun _ => ⟨es, iterJ_done ?_⟩⟩
      simp -implicitDefEqProofs [L48_0, B48_0, hj', hp, h1]

/-- level.parsed of long texts. -/
theorem e48g {n : Nat} (u : Bs) (hu : u.length ≤ 20000) (hn : 24000 ≤ n) :
    (∃ l, parsedP u = some l ∧ cpJ PR n 48 [.str u] = some (.tup [ltD l.1 (l.2.map spRow), .bool true])) ∨
    (parsedP u = none ∧ ∃ nm0 rows, cpJ PR n 48 [.str u] = some (.tup [ltD nm0 rows, .bool false])) := by
  obtain ⟨n, rfl⟩ : ∃ m, n = m + 1 := ⟨n - 1, by omega⟩
  have h1 := e47 (n := n) (by omega) u (by omega) 58
  have hl := cut_len u 58
  have h2 := e60 (n := n) (Lib.cut u [58]).1 (by omega) (by omega)
  have h3 := e61 (n := n) (by omega) (Lib.cut u [58]).2.1 (by omega)
  have hs := splitN_len (Lib.cut u [58]).2.1
  rw [u48]
  unfold parsedP
  simp only
  generalize (Lib.cut u [58]).1 = a at h1 h2 hl ⊢
  generalize (Lib.cut u [58]).2.1 = b at h1 h3 hl hs ⊢
  generalize (Lib.cut u [58]).2.2 = q at h1 ⊢
  cases ha : wordV a with
  | false =>
    rw [ha] at h2
    refine .inr ⟨by simp, a, [], ?_⟩
    simp -implicitDefEqProofs [D48, h1, h2, slD_nil]
  | true =>
    rw [ha] at h2
    cases q with
    | false =>
      refine .inl ⟨(a, []), by simp, ?_⟩
      simp -implicitDefEqProofs [D48, h1, h2, slD_nil]
    | true =>
      generalize Lib.splitN b [44] (Lib.count b [44] + 1) = ps at h3 hs ⊢
      obtain ⟨i1, i2⟩ := l48g (n := n) (by omega) a ps (by omega) (fun p hp => by have := hs.2 p hp; omega) emptySto ps.length 0 n [] (.bool false) (by omega) (by omega) (by simp)
      simp only [List.drop_zero, Int.natCast_zero, List.nil_append] at i1 i2
      have e : apd emptySto 2 [] = (.nils, emptySto) := rfl
      rw [e] at i1 i2
      cases hm : mapO spanP ps with
      | some sp =>
        have := i1 sp hm
        refine .inl ⟨(a, sp), by simp, ?_⟩
        simp -implicitDefEqProofs [D48, h1, h2, h3, this]
      | none =>
        obtain ⟨es', this⟩ := i2 hm
        refine .inr ⟨by simp, a, es', ?_⟩
        simp -implicitDefEqProofs [D48, h1, h2, h3, this]

theorem e26g {n : Nat} (hn : 24010 ≤ n) (z z' : Bool) {sens cats : List (List UInt8)} (hf : Few sens cats) (s : Bs) (hs : s.length ≤ 100000) (hs1 : (Lib.cut s [45]).1.length ≤ 20000) (hs2 : (Lib.cut s [45]).2.1.length ≤ 20000) (hP : propV sens cats = true) {l h : LTp} (hr : readP s = some (l, h)) {t t' : Int} {d d' : Nat} {f : Int} (h31 : cpJ PR (n - 1) 31 [rtA l h, strsD z sens, strsD z' cats] = some (rgE t d t' d' f)) :
    cpJ PR n 26 [.str s, strsD z sens, strsD z' cats] = some (rgE t d t' d' f) := by
  obtain ⟨n, rfl⟩ : ∃ m, n = m + 1 := ⟨n - 1, by omega⟩
  have h1 := p46 (n := n) z z' hf (by omega)
  rw [hP] at h1
  have h2 := e47 (n := n) (by omega) s (by omega) 45
  have h3 := e48g (n := n) (Lib.cut s [45]).1 (by omega) (by omega)
  have h4 := e48g (n := n) (Lib.cut s [45]).2.1 (by omega) (by omega)
  unfold readP at hr
  rw [u26]
  simp only [Nat.add_sub_cancel] at h31
  generalize (Lib.cut s [45]).1 = a at h2 h3 hr
  generalize (Lib.cut s [45]).2.1 = b at h2 h4 hr
  generalize (Lib.cut s [45]).2.2 = q at h2 hr
  rcases h3 with ⟨l', p1, p2⟩ | ⟨p1, nm0, rows, p2⟩
  · rw [p1] at hr
    simp only at hr
    change _ = some (DVal.tup [.agg [.str l'.1, spD true l'.2], .bool true]) at p2
    cases q with
    | false =>
      simp only [Bool.false_eq_true, if_false, Option.some.injEq, Prod.mk.injEq] at hr
      obtain ⟨rfl, rfl⟩ := hr
      simp only [rtA, spD, List.map_nil, slD_nil] at h31
      simp -implicitDefEqProofs [D26, L26_0, J26_0, h1, h2, p2, h31]
    | true =>
      simp only [if_true] at hr
      rcases h4 with ⟨g, g1, g2⟩ | ⟨g1, nm1, rows1, g2⟩
      · rw [g1] at hr
        simp only [Option.some.injEq, Prod.mk.injEq] at hr
        obtain ⟨rfl, rfl⟩ := hr
        change _ = some (DVal.tup [.agg [.str g.1, spD true g.2], .bool true]) at g2
        simp only [rtA] at h31
        simp -implicitDefEqProofs [D26, L26_0, J26_0, h1, h2, p2, g2, h31]
      · rw [g1] at hr; simp at hr
  · rw [p1] at hr; simp at hr

/-! What is written reads back -/

/-- A run as a span of names. -/
def spanOf (cats : List (List UInt8)) (p : Nat × Nat) : Sp := (nm cats p.1, if p.1 < p.2 then nm cats p.2 else [])
/-- A level as it is written. -/
def lvlL (sens cats : List (List UInt8)) (s c : Nat) : LTp := (nm sens s, (runs c).map (spanOf cats))

theorem idx_nm {l : List (List UInt8)} (hd : l.Nodup) {i : Nat} (hi : i < l.length) : idxAt (nm l i) l 0 = i := by
  have h0 := (idxAt_ge (nm l i) l 0).2 (nm_mem hi)
  rcases idxAt_cases (nm l i) l 0 with h | ⟨j, h1, h2, h3⟩
  · omega
  · have hij : i = j := (List.getElem?_inj hi hd).1 (by rw [h3, get_nm hi])
    omega

theorem bitsR_test : ∀ {k a c j : Nat}, (bitsR c a k).testBit j = (c.testBit j || (decide (a ≤ j) && decide (j < a + k)))
  | 0, a, c, j => by
    have : (decide (a ≤ j) && decide (j < a + 0)) = false := by simp <;> omega
    rw [this]; simp [bitsR]
  | k + 1, a, c, j => by
    rw [bitsR, bitsR_test (k := k), Nat.testBit_or, Nat.testBit_two_pow, Bool.or_assoc]
    congr 1
    rw [Bool.eq_iff_iff]
    simp only [Bool.or_eq_true, Bool.and_eq_true, decide_eq_true_eq]
    omega

theorem endR_all {c : Nat} : ∀ {k t j : Nat}, c.testBit t = true → t ≤ j → j ≤ endR c k t → c.testBit j = true
  | 0, t, j, h, h1, h2 => by
    have : j = t := by simp only [endR] at h2; omega
    rw [this]; exact h
  | k + 1, t, j, h, h1, h2 => by
    rw [endR] at h2
    by_cases e : j = t
    · rw [e]; exact h
    · split at h2
      · rename_i hc
        exact endR_all (k := k) hc.2 (by omega) h2
      · omega

theorem lvl_back {cats : List (List UInt8)} (hd : cats.Nodup) (hne : ∀ s ∈ cats, s ≠ []) {c : Nat} (hc : c < 18446744073709551616) (hv : ∀ j, c.testBit j = true → j < cats.length) :
    ∀ (k i acc : Nat), 64 ≤ i + k → ∃ r, lvlAcc cats ((runsR c k i).map (spanOf cats)) acc = (r, 0) ∧ ∀ j, r.testBit j = (acc.testBit j || (decide (i ≤ j) && c.testBit j)) := by
  have hhigh : ∀ j, 64 ≤ j → c.testBit j = false := fun j hj => Nat.testBit_lt_two_pow (Nat.lt_of_lt_of_le hc (Nat.pow_le_pow_right (n := 2) (by decide) hj))
  have hnone : ∀ i acc : Nat, 64 ≤ i → ∃ r, lvlAcc cats [] acc = (r, 0) ∧ ∀ j, r.testBit j = (acc.testBit j || (decide (i ≤ j) && c.testBit j)) := fun i acc hi => by
    refine ⟨acc, rfl, fun j => ?_⟩
    by_cases hj : i ≤ j
    · rw [hhigh j (by omega)]; simp
    · simp [hj]
  intro k
  induction k with
  | zero =>
    intro i acc hik
    exact hnone i acc (by omega)
  | succ k ih =>
    intro i acc hik
    rw [runsR]
    by_cases hi : i < 64
    · rw [if_pos hi]
      by_cases hb : c.testBit i = true
      · rw [if_pos hb]
        have hle := endR_le (c := c) (k := 64) (t := i) (by omega)
        have hbit := endR_bit (c := c) (k := 64) (t := i) hb
        have hall := @endR_all c 64 i
        generalize endR c 64 i = e at hle hbit hall ⊢
        have h1 := hv _ hb
        have h2 := hv _ hbit
        rw [List.map_cons, lvlAcc_cons]
        have x1 : idxAt (spanOf cats (i, e)).1 cats 0 = i := idx_nm hd h1
        have x2 : (if (spanOf cats (i, e)).2 ≠ [] then idxAt (spanOf cats (i, e)).2 cats 0 else idxAt (spanOf cats (i, e)).1 cats 0) = e := by
          by_cases hlt : i < e
          · have en : (spanOf cats (i, e)).2 = nm cats e := by simp [spanOf, hlt]
            rw [en, if_pos (hne _ (nm_mem h2))]
            exact idx_nm hd h2
          · have en : (spanOf cats (i, e)).2 = [] := by simp [spanOf, hlt]
            rw [en, if_neg (by simp), x1]
            omega
        rw [x2, x1, if_neg (by omega), if_neg (by omega)]
        obtain ⟨r, r1, r2⟩ := ih (e + 1) (bitsR acc (i : Int).toNat ((e : Int).toNat + 1 - (i : Int).toNat)) (by omega)
        refine ⟨r, r1, fun j => ?_⟩
        rw [r2, bitsR_test, Bool.or_assoc]
        congr 1
        simp only [Int.toNat_natCast]
        by_cases ha : i ≤ j ∧ j ≤ e
        · have := hall hb ha.1 ha.2
          rw [this, Bool.eq_iff_iff]
          simp only [Bool.or_eq_true, Bool.and_eq_true, decide_eq_true_eq, eq_self, and_true]
          omega
        · cases c.testBit j with
          | true =>
            rw [Bool.eq_iff_iff]
            simp only [Bool.or_eq_true, Bool.and_eq_true, decide_eq_true_eq, eq_self, and_true]
            omega
          | false =>
            rw [Bool.eq_iff_iff]
            simp only [Bool.or_eq_true, Bool.and_eq_true, decide_eq_true_eq, Bool.false_eq_true, and_false, or_false, iff_false]
            omega
      · rw [if_neg hb]
        obtain ⟨r, r1, r2⟩ := ih (i + 1) acc (by omega)
        refine ⟨r, r1, fun j => ?_⟩
        rw [r2]
        congr 1
        by_cases e : j = i
        · subst e
          have hb' : c.testBit j = false := by simpa using hb
          simp [hb']
        · rw [Bool.eq_iff_iff]
          simp only [Bool.and_eq_true, decide_eq_true_eq]
          constructor
          · rintro ⟨q1, q2⟩; exact ⟨by omega, q2⟩
          · rintro ⟨q1, q2⟩; exact ⟨by omega, q2⟩
    · rw [if_neg hi]
      exact hnone i acc (by omega)

theorem prop_names {sens cats : List (List UInt8)} (hP : propV sens cats = true) : ((∀ s ∈ sens, s ≠ [] ∧ s.length ≤ 32 ∧ s.all isL = true) ∧ sens.Nodup) ∧ ((∀ s ∈ cats, s ≠ [] ∧ s.length ≤ 32 ∧ s.all isL = true) ∧ cats.Nodup) := by
  simp only [propV, Bool.and_eq_true] at hP
  exact ⟨properB_name hP.1, properB_name hP.2⟩

section
variable {sens cats : List (List UInt8)} (hP : propV sens cats = true) {i c : Nat} (hi : i < sens.length) (hc : c < 18446744073709551616) (hv : ∀ j, c.testBit j = true → j < cats.length)
include hP hi hv

include hc in
theorem levelV_back : levelV sens cats (lvlL sens cats i c).1 (lvlL sens cats i c).2 = lvE i c 0 := by
  obtain ⟨⟨a1, a2⟩, b1, b2⟩ := prop_names hP
  obtain ⟨r, r1, r2⟩ := lvl_back b2 (fun s hs => (b1 s hs).1) hc hv 64 0 0 (by omega)
  have hr : r = c := Nat.eq_of_testBit_eq fun j => by rw [r2]; simp
  subst hr
  have e1 : idxAt (nm sens i) sens 0 = i := idx_nm a2 hi
  have e2 : lvlAcc cats ((runs r).map (spanOf cats)) 0 = (r, 0) := r1
  unfold levelV lvlL
  rw [if_pos hP]
  simp only
  rw [e1, if_neg (by omega), e2]
  simp [accD]

theorem validL_back : ValidL (lvlL sens cats i c) := by
  obtain ⟨⟨a1, a2⟩, b1, b2⟩ := prop_names hP
  have hw : ∀ j, j < cats.length → wordP (nm cats j) := fun j hj => wordP_iff.2 ⟨(b1 _ (nm_mem hj)).2.2, (b1 _ (nm_mem hj)).1⟩
  refine ⟨wordP_iff.2 ⟨(a1 _ (nm_mem hi)).2.2, (a1 _ (nm_mem hi)).1⟩, fun p hp => ?_⟩
  simp only [lvlL, List.mem_map] at hp
  obtain ⟨q, hq, rfl⟩ := hp
  have hb := runsR_bits hq
  refine ⟨hw _ (hv _ hb.1), ?_⟩
  by_cases hlt : q.1 < q.2
  · right
    have : (spanOf cats q).2 = nm cats q.2 := by simp [spanOf, hlt]
    rw [this]; exact hw _ (hv _ hb.2.1)
  · left; simp [spanOf, hlt]

omit hi in
theorem render_back : renderL (lvlL sens cats i c) = lvT sens cats i c := by
  obtain ⟨⟨a1, a2⟩, b1, b2⟩ := prop_names hP
  unfold renderL lvlL lvT
  simp only [List.map_map]
  congr 1
  refine List.map_congr_left fun p hp => ?_
  have hb := runsR_bits hp
  have hne := (b1 _ (nm_mem (hv _ hb.2.1))).1
  simp only [Function.comp, partS, spanOf, partT]
  by_cases hlt : p.1 < p.2
  · simp [hlt, hne]
  · simp [hlt]
end

theorem rows_back (cats : List (List UInt8)) (c : Nat) : rowsV cats c = ((runs c).map (spanOf cats)).map spRow := by
  unfold rowsV
  rw [List.map_map]
  rfl

theorem lvlL_few (sens cats : List (List UInt8)) (i c : Nat) : (lvlL sens cats i c).2.length ≤ 1000 := by
  have := runsR_len (c := c) (k := 64) (i := 0)
  simp only [lvlL, List.length_map, runs]; omega

/-- The law of round trips. -/
theorem e11 {n : Nat} (hn : 24020 ≤ n) (aw : cpJ PR n 16 [] = some (.bool true)) (z z' : Bool) (sens cats : List (List UInt8)) (s : Int) (c : Nat) (s' : Int) (c' : Nat) (hr : Rok c c') :
    cpJ PR (n + 1) 11 [rg s c s' c', .agg [strsD z sens, strsD z' cats]] = some (.bool true) := by
  have h1 := e23 (n := n) (by omega) z z' sens cats
  rw [u11]
  cases hf : fewV sens cats with
  | false =>
    rw [hf] at h1
    simp -implicitDefEqProofs [D11, h1, aw]
  | true =>
    rw [hf] at h1
    have hF := few_iff hf
    have h2 := e24 (n := n) (by omega) z z' hF s c s' c' hr
    have h3 := e39 (n := n) (by omega) z z' hF s c s' c' hr
    unfold textV at h2
    unfold srcV at h3
    by_cases h0 : errV (propV sens cats) (rangeV s c s' c' sens.length cats.length) = 0
    · obtain ⟨hP, hV⟩ := errV_zero h0
      rw [h0] at h2 h3
      have hdom : domV s' c' s c = true := by
        simp only [rangeV, Bool.and_eq_true] at hV; exact hV.2
      obtain ⟨⟨i, i', rfl, rfl, hi, hi'⟩, hb, hb'⟩ := range_facts hr hV
      have v1 := validL_back hP hi hb
      have v2 := validL_back hP hi' hb'
      have w1 := render_back (i := i) hP hb
      have w2 := render_back (i := i') hP hb'
      have q1 := levelV_back hP hi hr.lo hb
      have q2 := levelV_back hP hi' hr.hi hb'
      have b1 := lvT_len hF hi hb
      have b2 := lvT_len hF hi' hb'
      have p1 := parsedP_complete v1
      have p2 := parsedP_complete v2
      have d1 := dash_render v1
      rw [w1] at p1 d1
      rw [w2] at p2
      by_cases e : (i : Int) = i' ∧ c = c'
      · obtain ⟨e1, rfl⟩ := e
        obtain rfl : i = i' := by omega
        simp only [if_true, and_self, Int.toNat_natCast, rows_back] at h2 h3
        have hcut := cut_miss d1
        have hread : readP (lvT sens cats i c) = some (lvlL sens cats i c, ([], [])) := by
          unfold readP
          rw [hcut]
          simp only [p1, Bool.false_eq_true, if_false]
        obtain ⟨t', d', f', hd', q3⟩ := levelV_form sens cats [] []
        have h31 : ∀ m, 20100 ≤ m → cpJ PR m 31 [rtA (lvlL sens cats i c) ([], []), strsD z sens, strsD z' cats] = some (rgE i c i c 0) := fun m hm => by
          have := e31 (n := m) hm z z' true true hF (lvlL sens cats i c).1 [] (lvlL sens cats i c).2 [] (lvlL_few _ _ _ _) (by simp) i c 0 hr.lo q1 t' d' f' hd' q3
          simpa [rangeRV] using this
        have h26 := e26g (n := n) (by omega) z z' hF (lvT sens cats i c) (by omega) (by rw [hcut]; exact b1) (by rw [hcut]; simp) hP hread (h31 (n - 1) (by omega))
        have h4 := h31 n (by omega)
        change _ = some (DVal.tup [.agg [.str (lvlL sens cats i c).1, spD true (lvlL sens cats i c).2, .str [], .nils], _]) at h3
        simp only [rtA, spD, List.map_nil, slD_nil] at h3 h4
        simp -implicitDefEqProofs [D11, h1, h2, h3, h26, h4, aw]
      · simp only [if_true, if_neg e, Int.toNat_natCast, rows_back] at h2 h3
        have hcut := cut_hit (b := lvT sens cats i' c') d1
        have hread : readP (lvT sens cats i c ++ 45 :: lvT sens cats i' c') = some (lvlL sens cats i c, lvlL sens cats i' c') := by
          unfold readP
          rw [hcut]
          simp only [p1, p2, if_true]
        have hne : ¬ ((lvlL sens cats i' c').1 = [] ∧ (lvlL sens cats i' c').2 = []) := fun h => (wordP_iff.1 v2.1).2 h.1
        have h31 : ∀ m, 20100 ≤ m → cpJ PR m 31 [rtA (lvlL sens cats i c) (lvlL sens cats i' c'), strsD z sens, strsD z' cats] = some (rgE i c i' c' 0) := fun m hm => by
          have := e31 (n := m) hm z z' true true hF (lvlL sens cats i c).1 (lvlL sens cats i' c').1 (lvlL sens cats i c).2 (lvlL sens cats i' c').2 (lvlL_few _ _ _ _) (lvlL_few _ _ _ _) i c 0 hr.lo q1 i' c' 0 hr.hi q2
          simpa only [rangeRV, ne_eq, not_true_eq_false, if_false, if_neg hne, hdom, if_true] using this
        have h26 := e26g (n := n) (by omega) z z' hF (lvT sens cats i c ++ 45 :: lvT sens cats i' c') (by simp; omega) (by rw [hcut]; exact b1) (by rw [hcut]; exact b2) hP hread (h31 (n - 1) (by omega))
        have h4 := h31 n (by omega)
        change _ = some (DVal.tup [.agg [.str (lvlL sens cats i c).1, spD true (lvlL sens cats i c).2, .str (lvlL sens cats i' c').1, spD true (lvlL sens cats i' c').2], _]) at h3
        simp only [rtA] at h4
        simp -implicitDefEqProofs [D11, h1, h2, h3, h26, h4, aw]
    · rw [if_neg h0] at h2 h3
      simp only [rtD, slD_nil] at h3
      simp -implicitDefEqProofs [D11, h1, h2, h3, h0, aw]

end Go.Proofs.YticbfdcfopilfaaDoor
