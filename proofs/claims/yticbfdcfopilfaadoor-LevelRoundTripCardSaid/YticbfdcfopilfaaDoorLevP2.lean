/- How the program reads a text. -/
import Derived.Test.YticbfdcfopilfaaDoorLevP
import Derived.Test.YticbfdcfopilfaaDoorLevQ
set_option linter.unusedVariables false
set_option linter.unusedSimpArgs false
set_option maxRecDepth 20000
set_option maxHeartbeats 2000000
namespace Go.Proofs.YticbfdcfopilfaaDoor
open Go

@[simp] theorem wnP_undef (b : Bool) (o : Kt (Option DVal)) : @wnP .undef b o = some .undef := by simp [wnP, wantP, DVal.isB]

theorem u47 (n : Nat) (xs : List DVal) : cpJ PR (n + 1) 47 xs = cutSem xs := by
  have e : PR 47 = some (.prim cutSem) := by kernel_rfl
  simp [cpJ, evJ, e, Function.comp_def]
theorem u71 (n : Nat) (xs : List DVal) : cpJ PR (n + 1) 71 xs = genSplitSem xs := by
  have e : PR 71 = some (.prim genSplitSem) := by kernel_rfl
  simp [cpJ, evJ, e, Function.comp_def]

theorem e47 {n : Nat} (hn : 1 ≤ n) (s : Bs) (hs : s.length ≤ 100000) (c : UInt8) : cpJ PR n 47 [.str s, .str [c]] = some (.tup [.str (Lib.cut s [c]).1, .str (Lib.cut s [c]).2.1, .bool (Lib.cut s [c]).2.2]) := by
  obtain ⟨n, rfl⟩ : ∃ m, n = m + 1 := ⟨n - 1, by omega⟩
  rw [u47]
  simp only [cutSem]
  rw [if_pos (by omega)]

theorem cut_len (s : Bs) (c : UInt8) : (Lib.cut s [c]).1.length ≤ s.length ∧ (Lib.cut s [c]).2.1.length ≤ s.length := by
  unfold Lib.cut
  split <;> simp <;> omega

theorem e61 {n : Nat} (hn : 2 ≤ n) (s : Bs) (hs : s.length ≤ 100000) : cpJ PR n 61 [.str s, .str [44]] = some (.slice false 0 1 ((Lib.splitN s [44] (Lib.count s [44] + 1)).map fun x => [.str x])) := by
  obtain ⟨n, rfl⟩ : ∃ m, n = m + 1 := ⟨n - 1, by omega⟩
  have h : cpJ PR n 71 [.str s, .str [44], .int .i64 0, .int .i64 (-1)] = some (.slice false 0 1 ((Lib.splitN s [44] (Lib.count s [44] + 1)).map fun x => [.str x])) := by
    obtain ⟨n, rfl⟩ : ∃ m, n = m + 1 := ⟨n - 1, by omega⟩
    rw [u71]
    simp only [genSplitSem]
    rw [if_pos ⟨by omega, by simp⟩]
  rw [u61]
  simp -implicitDefEqProofs [D61, h]

/-- level.span. -/
theorem e62 {n : Nat} (u : Bs) (hu : u.length ≤ 2000) (hn : 3000 ≤ n) : cpJ PR n 62 [.str u] =
    some (.tup [.agg [.str (Lib.cut u [46]).1, .str (Lib.cut u [46]).2.1], .bool (wordV (Lib.cut u [46]).1 && (!(Lib.cut u [46]).2.2 || wordV (Lib.cut u [46]).2.1))]) := by
  obtain ⟨n, rfl⟩ : ∃ m, n = m + 1 := ⟨n - 1, by omega⟩
  have h1 := e47 (n := n) (by omega) u (by omega) 46
  have hl := cut_len u 46
  have h2 := e60 (n := n) (Lib.cut u [46]).1 (by omega) (by omega)
  have h3 := e60 (n := n) (Lib.cut u [46]).2.1 (by omega) (by omega)
  rw [u62]
  generalize (Lib.cut u [46]).1 = a at h1 h2 ⊢
  generalize (Lib.cut u [46]).2.1 = b at h1 h3 ⊢
  generalize (Lib.cut u [46]).2.2 = q at h1 ⊢
  cases hq : q <;> cases ha : wordV a <;> cases hb : wordV b <;> rw [hq] at h1 <;> rw [ha] at h2 <;> rw [hb] at h3 <;> simp -implicitDefEqProofs [D62, h1, h2, h3]

theorem spanP_eq (u : Bs) : spanP u = if (wordV (Lib.cut u [46]).1 && (!(Lib.cut u [46]).2.2 || wordV (Lib.cut u [46]).2.1)) = true then some ((Lib.cut u [46]).1, (Lib.cut u [46]).2.1) else none := by
  unfold spanP
  simp only
  generalize (Lib.cut u [46]).1 = a
  generalize (Lib.cut u [46]).2.1 = b
  generalize (Lib.cut u [46]).2.2 = q
  cases q <;> cases wordV a <;> cases wordV b <;> simp

/-- The row of a span. -/
def spRow (p : Bs × Bs) : List DVal := [.str p.1, .str p.2]

theorem l48 {n : Nat} (hn : 5000 ≤ n) (name : Bs) (ps : List Bs) (hps : ps.length ≤ 3000) (hpl : ∀ p ∈ ps, p.length ≤ 2000) (σ : Sto) : ∀ (k j m : Nat) (es : List (List DVal)) (u : DVal), j + k = ps.length → k < m → es.length ≤ j →
    (∀ sp, mapO spanP (ps.drop j) = some sp → iterJ 0 (L48_0 (cpJ PR n) (ciJ PR n) n (.slice false 0 1 (ps.map fun x => [.str x])) (.int .i64 ps.length)) m [.int .i64 j, u, .agg [.str name, (apd σ 2 es).1], .agg [.str [], .nils]] (apd σ 2 es).2 =
      some (.done (.tup [.agg [.str name, (apd σ 2 (es ++ sp.map spRow)).1], .bool true]) (apd σ 2 (es ++ sp.map spRow)).2)) ∧
    (mapO spanP (ps.drop j) = none → ∃ es', iterJ 0 (L48_0 (cpJ PR n) (ciJ PR n) n (.slice false 0 1 (ps.map fun x => [.str x])) (.int .i64 ps.length)) m [.int .i64 j, u, .agg [.str name, (apd σ 2 es).1], .agg [.str [], .nils]] (apd σ 2 es).2 =
      some (.done (.tup [.agg [.str name, (apd σ 2 es').1], .bool false]) (apd σ 2 es').2)) := by
  intro k
  induction k with
  | zero =>
    intro j m es u hj hm hes
    obtain ⟨m, rfl⟩ : ∃ q, m = q + 1 := ⟨m - 1, by omega⟩
    have hj' : ¬ ((j : Int) < ps.length) := by omega
    rw [List.drop_eq_nil_of_le (by omega)]
    refine ⟨fun sp h => ?_, fun h => by simp [mapO] at h⟩
    simp only [mapO, Option.some.injEq] at h
    subst h
    refine iterJ_done ?_
    simp -implicitDefEqProofs [L48_0, B48_0, hj']
  | succ k ih =>
    intro j m es u hj hm hes
    obtain ⟨m, rfl⟩ : ∃ q, m = q + 1 := ⟨m - 1, by omega⟩
    have hj' : ((j : Int) < ps.length) := by omega
    obtain ⟨p, hp⟩ := get_some (by omega : j < ps.length)
    have hw : IntKind.i64.wrap ((j : Int) + 1) = (j : Int) + 1 := wrap_i64 (by omega) (by omega)
    have h1 := e62 (n := n) p (hpl p (List.mem_of_getElem? hp)) (by omega)
    have h2 := spanP_eq p
    rw [drop_get hp]
    generalize (Lib.cut p [46]).1 = a at h1 h2
    generalize (Lib.cut p [46]).2.1 = b at h1 h2
    generalize (wordV a && (!(Lib.cut p [46]).2.2 || wordV b)) = ok at h1 h2
    have ha := app_apd (σ := σ) (sz := 2) (own := 1) (es := es) (r := spRow (a, b)) (by omega)
    cases ok with
    | true =>
      rw [if_pos rfl] at h2
      have step : L48_0 (cpJ PR n) (ciJ PR n) n (.slice false 0 1 (ps.map fun x => [.str x])) (.int .i64 ps.length) [.int .i64 j, u, .agg [.str name, (apd σ 2 es).1], .agg [.str [], .nils]] (apd σ 2 es).2 =
          some (.next 0 [.int .i64 ((j + 1 : Nat) : Int), u, .agg [.str name, (apd σ 2 (es ++ [spRow (a, b)])).1], .agg [.str [], .nils]] (apd σ 2 (es ++ [spRow (a, b)])).2) := by
        simp only [spRow] at ha ⊢
        simp -implicitDefEqProofs [L48_0, B48_0, hj', hp, h1, ha, hw]
      obtain ⟨i1, i2⟩ := ih (j + 1) m (es ++ [spRow (a, b)]) u (by omega) (by omega) (by simp; omega)
      simp only [mapO, h2]
      rw [iterJ_next' step]
      refine ⟨fun sp h => ?_, fun h => ?_⟩
      · split at h
        · rename_i y ys e1 e2
          simp only [Option.some.injEq] at h e1
          subst h e1
          rw [i1 _ e2]
          simp
        · cases h
      · split at h
        · cases h
        · rename_i hno
          refine i2 ?_
          cases hd : mapO spanP (ps.drop (j + 1)) with
          | none => rfl
          | some ys => exact absurd hd (hno _ ys rfl)
    | false =>
      rw [if_neg (by decide)] at h2
      have hm : mapO spanP (p :: ps.drop (j + 1)) = none := by simp only [mapO, h2]
      rw [hm]
      refine ⟨fun sp h => (by cases h), fun _ => ⟨es, iterJ_done ?_⟩⟩
      simp -implicitDefEqProofs [L48_0, B48_0, hj', hp, h1]

theorem splitN_len (s : Bs) : (Lib.splitN s [44] (Lib.count s [44] + 1)).length ≤ s.length + 1 ∧ ∀ p ∈ Lib.splitN s [44] (Lib.count s [44] + 1), p.length ≤ s.length := by
  obtain ⟨p, r, rfl, hp, hr⟩ := split_exists 44 s
  rw [split_join hp hr]
  have h1 := joinC_len (c := 44) (r := r) (p := p)
  refine ⟨by simp; omega, fun q hq => ?_⟩
  rcases List.mem_cons.1 hq with rfl | hq
  · simp [joinC]
  · have : ∀ {r : List Bs}, q ∈ r → q.length ≤ (r.flatMap fun x => (44 : UInt8) :: x).length := by
      intro r
      induction r with
      | nil => intro h; simp at h
      | cons x r ih =>
        intro h
        rcases List.mem_cons.1 h with rfl | h
        · simp only [List.flatMap_cons, List.length_append, List.length_cons]; omega
        · have := ih h; simp only [List.flatMap_cons, List.length_append, List.length_cons]; omega
    have := this hq
    simp only [joinC, List.length_append]; omega

/-- level.parsed. -/
theorem e48 {n : Nat} (u : Bs) (hu : u.length ≤ 1500) (hn : 6000 ≤ n) :
    (∃ l, parsedP u = some l ∧ cpJ PR n 48 [.str u] = some (.tup [ltD l.1 (l.2.map spRow), .bool true])) ∨
    (parsedP u = none ∧ ∃ nm0 rows, cpJ PR n 48 [.str u] = some (.tup [ltD nm0 rows, .bool false])) := by
  obtain ⟨n, rfl⟩ : ∃ m, n = m + 1 := ⟨n - 1, by omega⟩
  have h1 := e47 (n := n) (by omega) u (by omega) 58
  have hl := cut_len u 58
  have h2 := e60 (n := n) (Lib.cut u [58]).1 (by omega) (by omega)
  have h3 := e61 (n := n) (by omega) (Lib.cut u [58]).2.1 (by omega)
  have hs := splitN_len (Lib.cut u [58]).2.1
  rw [u48]
  unfold parsedP
  simp only
  generalize (Lib.cut u [58]).1 = a at h1 h2 hl ⊢
  generalize (Lib.cut u [58]).2.1 = b at h1 h3 hl hs ⊢
  generalize (Lib.cut u [58]).2.2 = q at h1 ⊢
  cases ha : wordV a with
  | false =>
    rw [ha] at h2
    refine .inr ⟨by simp, a, [], ?_⟩
    simp -implicitDefEqProofs [D48, h1, h2, slD_nil]
  | true =>
    rw [ha] at h2
    cases q with
    | false =>
      refine .inl ⟨(a, []), by simp, ?_⟩
      simp -implicitDefEqProofs [D48, h1, h2, slD_nil]
    | true =>
      generalize Lib.splitN b [44] (Lib.count b [44] + 1) = ps at h3 hs ⊢
      obtain ⟨i1, i2⟩ := l48 (n := n) (by omega) a ps (by omega) (fun p hp => by have := hs.2 p hp; omega) emptySto ps.length 0 n [] (.bool false) (by omega) (by omega) (by simp)
      simp only [List.drop_zero, Int.natCast_zero, List.nil_append] at i1 i2
      have e : apd emptySto 2 [] = (.nils, emptySto) := rfl
      rw [e] at i1 i2
      cases hm : mapO spanP ps with
      | some sp =>
        have := i1 sp hm
        refine .inl ⟨(a, sp), by simp, ?_⟩
        simp -implicitDefEqProofs [D48, h1, h2, h3, this]
      | none =>
        obtain ⟨es', this⟩ := i2 hm
        refine .inr ⟨by simp, a, es', ?_⟩
        simp -implicitDefEqProofs [D48, h1, h2, h3, this]

end Go.Proofs.YticbfdcfopilfaaDoor
