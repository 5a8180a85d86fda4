/- The text of a range: by the program and by the reference, and the law of texts. -/
import Derived.Test.YticbfdcfopilfaaDoorLevX
import Derived.KernelRfl
set_option linter.unusedVariables false
set_option linter.unusedSimpArgs false
set_option maxRecDepth 20000
set_option maxHeartbeats 2000000
namespace Go.Proofs.YticbfdcfopilfaaDoor
open Go

theorem distB_facts : ∀ {l pre : List (List UInt8)}, distB pre l = true → (∀ s ∈ l, okName s = true ∧ s ∉ pre) ∧ l.Nodup
  | [], pre, _ => ⟨fun s hs => by simp at hs, List.nodup_nil⟩
  | x :: l, pre, h => by
    simp only [distB, Bool.and_eq_true, Bool.not_eq_true', decide_eq_false_iff_not] at h
    obtain ⟨⟨h1, h2⟩, h3⟩ := h
    obtain ⟨a1, a2⟩ := distB_facts h3
    refine ⟨fun s hs => ?_, ?_⟩
    · rcases List.mem_cons.1 hs with rfl | hs
      · exact ⟨h1, h2⟩
      · exact ⟨(a1 s hs).1, fun hp => (a1 s hs).2 (by simp [hp])⟩
    · rw [List.nodup_cons]
      exact ⟨fun hx => (a1 x hx).2 (by simp), a2⟩

theorem properB_name {most : Int} {l : List (List UInt8)} (h : properB most l = true) : (∀ s ∈ l, s ≠ [] ∧ s.length ≤ 32 ∧ s.all isL = true) ∧ l.Nodup := by
  simp only [properB, Bool.and_eq_true] at h
  obtain ⟨a1, a2⟩ := distB_facts h.2
  refine ⟨fun s hs => ?_, a2⟩
  have := (a1 s hs).1
  simp only [okName, wordV, Bool.and_eq_true, decide_eq_true_eq, Bool.not_eq_true', List.isEmpty_eq_false_iff] at this
  exact ⟨this.2.2, this.1, this.2.1⟩

/-- A span as a text. -/
def partT (cats : List (List UInt8)) (p : Nat × Nat) : List UInt8 := if p.1 < p.2 then nm cats p.1 ++ 46 :: nm cats p.2 else nm cats p.1
/-- Parts behind the first one. -/
def tailT (ps : List (List UInt8)) : List UInt8 := ps.flatMap fun y => 44 :: y
/-- A level as a text. -/
def txtT (name : List UInt8) (ps : List (List UInt8)) : List UInt8 :=
  match ps with
  | [] => name
  | p :: r => name ++ 58 :: (p ++ tailT r)

theorem join_cons (p : List UInt8) : ∀ (r : List (List UInt8)), Lib.join (p :: r) [44] = p ++ tailT r := by
  intro r
  induction r generalizing p with
  | nil => simp [Lib.join, tailT, List.intercalate]
  | cons q r ih =>
    have := ih q
    unfold Lib.join List.intercalate at this ⊢
    simp only [List.intersperse, List.flatten_cons, this]
    simp [tailT]

theorem tailT_len {b : Nat} : ∀ {ps : List (List UInt8)}, (∀ p ∈ ps, p.length ≤ b) → (tailT ps).length ≤ ps.length * (b + 1)
  | [], _ => by simp [tailT]
  | p :: ps, h => by
    have h1 := h p (List.mem_cons_self)
    have h2 := tailT_len (ps := ps) fun q hq => h q (List.mem_cons_of_mem _ hq)
    have : (tailT (p :: ps)).length = 1 + p.length + (tailT ps).length := by simp [tailT]; omega
    rw [this, List.length_cons, Nat.add_mul]
    omega

theorem strsOf_map : ∀ (l : List (List UInt8)), strsOf (l.map fun s => [DVal.str s]) = some l
  | [] => rfl
  | s :: l => by simp [strsOf, strsOf_map l]

theorem u57 (n : Nat) (xs : List DVal) : cpJ PR (n + 1) 57 xs = joinSem xs := by
  have e : PR 57 = some (.prim joinSem) := by kernel_rfl
  simp [cpJ, evJ, e, Function.comp_def]

theorem e57 {n : Nat} (hn : 1 ≤ n) (p : List UInt8) (r : List (List UInt8)) (hl : r.length ≤ 1000) (hj : (p ++ tailT r).length ≤ 1000000) : cpJ PR n 57 [strsD true (p :: r), .str [44]] = some (.str (p ++ tailT r)) := by
  obtain ⟨n, rfl⟩ : ∃ m, n = m + 1 := ⟨n - 1, by omega⟩
  rw [u57]
  have e : strsD true (p :: r) = .slice false 0 1 ((p :: r).map fun s => [DVal.str s]) := by simp [slD]
  rw [e]
  simp only [joinSem, strsOf_map, Option.bind_some, join_cons]
  rw [if_pos ⟨by simp; omega, by omega⟩]

/-! level.text -/

theorem apd_strs (σ : Sto) (ps : List (List UInt8)) : (ps = [] ∧ (apd σ 1 (ps.map fun s => [DVal.str s])).1 = .nils) ∨ ∃ p r, ps = p :: r := by
  cases ps with
  | nil => exact .inl ⟨rfl, rfl⟩
  | cons p r => exact .inr ⟨p, r, rfl⟩

theorem l44 {n : Nat} (hn : 10 ≤ n) (z z' : Bool) (sens cats : List (List UInt8)) (s : Nat) (hs : s < sens.length) (c : Nat) (hname : ∀ s ∈ sens, s.length ≤ 100) (hcat : ∀ s ∈ cats, s.length ≤ 100)
    (rs : List (Nat × Nat)) (hrs : ∀ p ∈ rs, p.1 < cats.length ∧ p.2 < cats.length ∧ p.1 ≤ p.2) (hrl : rs.length ≤ 64) (σ : Sto) :
    ∀ (k j m : Nat) (ps : List (List UInt8)), j + k = rs.length → k < m → ps.length ≤ j → (∀ p ∈ ps, p.length ≤ 201) →
    iterJ 0 (L44_0 (cpJ PR n) (ciJ PR n) n (strsD z sens) (strsD z' cats) (lv s c) (slD true 2 (rs.map runRow)) (.int .i64 rs.length)) m [.int .i64 j, (apd σ 1 (ps.map fun s => [DVal.str s])).1] (apd σ 1 (ps.map fun s => [DVal.str s])).2 =
      some (.done (.str (txtT (nm sens s) (ps ++ (rs.drop j).map (partT cats)))) (apd σ 1 ((ps ++ (rs.drop j).map (partT cats)).map fun s => [DVal.str s])).2) := by
  intro k
  induction k with
  | zero =>
    intro j m ps hj hm hps hpl
    obtain ⟨m, rfl⟩ : ∃ q, m = q + 1 := ⟨m - 1, by omega⟩
    have hj' : ¬ ((j : Int) < rs.length) := by omega
    refine iterJ_done ?_
    rw [List.drop_eq_nil_of_le (by omega)]
    simp only [List.map_nil, List.append_nil]
    have hg := get_nm hs
    have hnl := hname _ (nm_mem hs)
    rcases apd_strs σ ps with ⟨rfl, -⟩ | ⟨p, r, rfl⟩
    · have e : apd σ 1 [] = (.nils, σ) := rfl
      simp -implicitDefEqProofs [L44_0, B44_0, hj', e, hg, txtT]
    · have hp := hpl p (by simp)
      have ht := tailT_len (b := 201) (ps := r) fun q hq => hpl q (by simp [hq])
      have hrl' : r.length ≤ 64 := by simp at hps; omega
      have htl : (tailT r).length ≤ 64 * 202 := Nat.le_trans ht (Nat.mul_le_mul_right _ hrl')
      have hj := e57 (n := n) (by omega) p r (by omega) (by simp; omega)
      have c1 : binStr .add (nm sens s) [58] = some (.str (nm sens s ++ [58])) := addS (by simp; omega)
      have c2 : binStr .add (nm sens s ++ [58]) (p ++ tailT r) = some (.str (nm sens s ++ 58 :: (p ++ tailT r))) := by rw [addS (by simp; omega)]; simp
      have hne : ¬ ((((p :: r).length : Nat) : Int) = 0) := by simp; omega
      simp only [strsD, List.map_cons] at hj ⊢
      have hlen : (([DVal.str p] :: List.map (fun s => [DVal.str s]) r).length : Int) = ((r.length + 1 : Nat) : Int) := by simp
      have hne2 : ¬ ((r.length : Int) + 1 = 0) := by omega
      simp -implicitDefEqProofs [-binStr.eq_1, L44_0, B44_0, hj', hg, txtT, c1, c2, hj, hne2]
  | succ k ih =>
    intro j m ps hj hm hps hpl
    obtain ⟨m, rfl⟩ : ∃ q, m = q + 1 := ⟨m - 1, by omega⟩
    have hj' : ((j : Int) < rs.length) := by omega
    obtain ⟨p, hp⟩ := get_some (by omega : j < rs.length)
    obtain ⟨h1, h2, h3⟩ := hrs p (List.mem_of_getElem? hp)
    have g1 := get_nm h1
    have g2 := get_nm h2
    have n1 := hcat _ (nm_mem h1)
    have n2 := hcat _ (nm_mem h2)
    have hw : IntKind.i64.wrap ((j : Int) + 1) = (j : Int) + 1 := wrap_i64 (by omega) (by omega)
    have ha := app_apd (σ := σ) (sz := 1) (own := 1) (es := ps.map fun s => [DVal.str s]) (r := [DVal.str (partT cats p)]) (by simp; omega)
    have hmap : (ps.map fun s => [DVal.str s]) ++ [[DVal.str (partT cats p)]] = (ps ++ [partT cats p]).map fun s => [DVal.str s] := by simp
    rw [hmap] at ha
    have hpart : (partT cats p).length ≤ 201 := by unfold partT; split <;> (try simp) <;> omega
    rw [drop_get hp, List.map_cons]
    rw [iterJ_next' (vs' := [.int .i64 ((j + 1 : Nat) : Int), (apd σ 1 ((ps ++ [partT cats p]).map fun s => [DVal.str s])).1]) (σ' := (apd σ 1 ((ps ++ [partT cats p]).map fun s => [DVal.str s])).2), ih (j + 1) m _ (by omega) (by omega) (by simp; omega) (by
      intro q hq
      rcases List.mem_append.1 hq with hq | hq
      · exact hpl q hq
      · simp only [List.mem_singleton] at hq; subst hq; exact hpart)]
    · simp
    · generalize hq : (ps ++ [partT cats p]).map (fun s => [DVal.str s]) = qs at ha ⊢
      by_cases hlt : p.1 < p.2
      · have hne : ¬ ((p.1 : Int) = p.2) := by omega
        simp only [partT, hlt, if_true] at ha
        have c1 : binStr .add (nm cats p.1) [46] = some (.str (nm cats p.1 ++ [46])) := addS (by simp; omega)
        have c2 : binStr .add (nm cats p.1 ++ [46]) (nm cats p.2) = some (.str (nm cats p.1 ++ 46 :: nm cats p.2)) := by rw [addS (by simp; omega)]; simp
        simp -implicitDefEqProofs [-binStr.eq_1, L44_0, B44_0, hj', hp, runRow, g1, g2, hne, ha, hw, c1, c2]
      · have heq : p.2 = p.1 := by omega
        simp only [partT, hlt, if_false] at ha
        simp -implicitDefEqProofs [-binStr.eq_1, L44_0, B44_0, hj', hp, runRow, g1, heq, ha, hw]

/-- A level's text. -/
def lvT (sens cats : List (List UInt8)) (s : Nat) (c : Nat) : List UInt8 := txtT (nm sens s) ((runs c).map (partT cats))

theorem e44 {n : Nat} (hn : 200 ≤ n) (z z' : Bool) (sens cats : List (List UInt8)) (s : Nat) (hs : s < sens.length) (c : Nat) (hc : c < 18446744073709551616) (hv : ∀ j, c.testBit j = true → j < cats.length) (hname : ∀ s ∈ sens, s.length ≤ 100) (hcat : ∀ s ∈ cats, s.length ≤ 100) :
    cpJ PR n 44 [lv s c, strsD z sens, strsD z' cats] = some (.str (lvT sens cats s c)) := by
  obtain ⟨n, rfl⟩ : ∃ m, n = m + 1 := ⟨n - 1, by omega⟩
  have hl := runsR_len (c := c) (k := 64) (i := 0)
  have := l44 (n := n) (by omega) z z' sens cats s hs c hname hcat (runs c) (fun p hp => ⟨hv _ (runsR_bits hp).1, hv _ (runsR_bits hp).2.1, (runsR_bits hp).2.2.1⟩) hl emptySto (runs c).length 0 n [] (by omega) (by unfold runs; omega) (by simp) (by simp)
  rw [u44]
  simp only [Int.natCast_zero, List.nil_append, List.drop_zero, List.map_nil] at this
  have e : apd emptySto 1 [] = (.nils, emptySto) := rfl
  rw [e] at this
  simp -implicitDefEqProofs [D44, e56 (n := n) (by omega) c hc, this, lvT]

/-! The reference's text of a level -/

/-- The rest of a text, from span i on. -/
def lofT (cats : List (List UInt8)) : Nat → List (Nat × Nat) → List UInt8
  | _, [] => []
  | i, p :: r => (if i = 0 then 58 else 44) :: (partT cats p ++ lofT cats (i + 1) r)

theorem lofT_tail (cats : List (List UInt8)) : ∀ (r : List (Nat × Nat)) (i : Nat), lofT cats (i + 1) r = tailT (r.map (partT cats))
  | [], i => rfl
  | p :: r, i => by
    rw [lofT, lofT_tail cats r (i + 1)]
    simp [tailT]

theorem lofT_txt (cats : List (List UInt8)) (name : List UInt8) (rs : List (Nat × Nat)) : name ++ lofT cats 0 rs = txtT name (rs.map (partT cats)) := by
  cases rs with
  | nil => simp [lofT, txtT]
  | cons p r => simp [lofT, txtT, lofT_tail]

theorem l45 {n : Nat} (name : List UInt8) (cats : List (List UInt8)) (hcat : ∀ s ∈ cats, s.length ≤ 100 ∧ s ≠ []) (rs : List (Nat × Nat)) (hrs : ∀ p ∈ rs, p.1 < cats.length ∧ p.2 < cats.length) (hrl : rs.length ≤ 64) (σ : Sto) :
    ∀ (k j m : Nat) (t : List UInt8), j + k = rs.length → k < m → t.length ≤ 1000 + 300 * j →
    iterJ 0 (L45_1 (cpJ PR n) (ciJ PR n) n (ltD name (rs.map (spanRow cats)))) m [.int .i64 j, .str t] σ = some (.done (.str (t ++ lofT cats j (rs.drop j))) σ) := by
  intro k
  induction k with
  | zero =>
    intro j m t hj hm ht
    obtain ⟨m, rfl⟩ : ∃ q, m = q + 1 := ⟨m - 1, by omega⟩
    have hj' : ¬ ((j : Int) < rs.length) := by omega
    refine iterJ_done ?_
    rw [List.drop_eq_nil_of_le (by omega)]
    simp -implicitDefEqProofs [L45_1, B45_1, hj', lofT]
  | succ k ih =>
    intro j m t hj hm ht
    obtain ⟨m, rfl⟩ : ∃ q, m = q + 1 := ⟨m - 1, by omega⟩
    have hj' : ((j : Int) < rs.length) := by omega
    obtain ⟨p, hp⟩ := get_some (by omega : j < rs.length)
    obtain ⟨h1, h2⟩ := hrs p (List.mem_of_getElem? hp)
    obtain ⟨n1, n1'⟩ := hcat _ (nm_mem h1)
    obtain ⟨n2, n2'⟩ := hcat _ (nm_mem h2)
    have hw : IntKind.i64.wrap ((j : Int) + 1) = (j : Int) + 1 := wrap_i64 (by omega) (by omega)
    have key : ∀ q : UInt8, (if j = 0 then (58 : UInt8) else 44) = q → (∀ u : List UInt8, (t ++ [q]).length = u.length → True) →
        L45_1 (cpJ PR n) (ciJ PR n) n (ltD name (rs.map (spanRow cats))) [.int .i64 j, .str t] σ = some (.next 0 [.int .i64 ((j + 1 : Nat) : Int), .str (t ++ q :: partT cats p)] σ) := by
      intro q hq _
      have c1 : binStr .add t [q] = some (.str (t ++ [q])) := addS (by simp; omega)
      have c2 : binStr .add (t ++ [q]) (nm cats p.1) = some (.str (t ++ q :: nm cats p.1)) := by rw [addS (by simp; omega)]; simp
      have c3 : binStr .add (t ++ q :: nm cats p.1) [46] = some (.str (t ++ q :: (nm cats p.1 ++ [46]))) := by rw [addS (by simp; omega)]; simp
      have c4 : binStr .add (t ++ q :: (nm cats p.1 ++ [46])) (nm cats p.2) = some (.str (t ++ q :: (nm cats p.1 ++ 46 :: nm cats p.2))) := by rw [addS (by simp; omega)]; simp
      by_cases h0 : j = 0
      · subst h0
        simp only [if_true] at hq
        subst hq
        have q1 : (0 : Int) < rs.length := by omega
        have q2 : 0 < rs.length := by omega
        have q3 : IntKind.i64.wrap 1 = 1 := by decide
        have q4 : rs[0] = p := (List.getElem?_eq_some_iff.1 hp).2
        by_cases hlt : p.1 < p.2
        · simp -implicitDefEqProofs [-binStr.eq_1, L45_1, B45_1, L45_0, J45_0, q1, q2, q3, q4, spanRow, hlt, n2', c1, c2, c3, c4, partT]
        · simp -implicitDefEqProofs [-binStr.eq_1, L45_1, B45_1, L45_0, J45_0, q1, q2, q3, q4, spanRow, hlt, c1, c2, partT]
      · have h0' : ¬ ((j : Int) = 0) := by omega
        simp only [h0, if_false] at hq
        subst hq
        by_cases hlt : p.1 < p.2
        · simp -implicitDefEqProofs [-binStr.eq_1, L45_1, B45_1, L45_0, J45_0, hj', h0, h0', hp, spanRow, hlt, n2', c1, c2, c3, c4, hw, partT]
        · simp -implicitDefEqProofs [-binStr.eq_1, L45_1, B45_1, L45_0, J45_0, hj', h0, h0', hp, spanRow, hlt, c1, c2, hw, partT]
    have hpart : (partT cats p).length ≤ 201 := by unfold partT; split <;> (try simp) <;> omega
    rw [iterJ_next' (key _ rfl fun _ _ => trivial), ih (j + 1) m _ (by omega) (by omega) (by simp; omega), drop_get hp, lofT]
    simp

theorem e45 {n : Nat} (hn : 100 ≤ n) (name : List UInt8) (hname : name.length ≤ 1000) (cats : List (List UInt8)) (hcat : ∀ s ∈ cats, s.length ≤ 100 ∧ s ≠ []) (rs : List (Nat × Nat)) (hrs : ∀ p ∈ rs, p.1 < cats.length ∧ p.2 < cats.length) (hrl : rs.length ≤ 64) :
    cpJ PR n 45 [ltD name (rs.map (spanRow cats))] = some (.str (txtT name (rs.map (partT cats)))) := by
  obtain ⟨n, rfl⟩ : ∃ m, n = m + 1 := ⟨n - 1, by omega⟩
  have := l45 (n := n) name cats hcat rs hrs hrl emptySto rs.length 0 n name (by omega) (by omega) (by omega)
  rw [u45]
  simp only [Int.natCast_zero, List.drop_zero, lofT_txt] at this
  simp -implicitDefEqProofs [D45, this]

theorem txtT_len {name : List UInt8} {ps : List (List UInt8)} (hn : name.length ≤ 100) (hp : ∀ p ∈ ps, p.length ≤ 201) (hl : ps.length ≤ 64) : (txtT name ps).length ≤ 20000 := by
  cases ps with
  | nil => simp only [txtT]; omega
  | cons p r =>
    have h1 := hp p (by simp)
    have h2 := tailT_len (b := 201) (ps := r) fun q hq => hp q (by simp [hq])
    have h3 : r.length ≤ 64 := by simp at hl; omega
    have h4 : (tailT r).length ≤ 64 * 202 := Nat.le_trans h2 (Nat.mul_le_mul_right _ h3)
    simp only [txtT, List.length_append, List.length_cons]
    omega

theorem partT_len {cats : List (List UInt8)} (hcat : ∀ s ∈ cats, s.length ≤ 100) {p : Nat × Nat} (h1 : p.1 < cats.length) (h2 : p.2 < cats.length) : (partT cats p).length ≤ 201 := by
  have a := hcat _ (nm_mem h1)
  have b := hcat _ (nm_mem h2)
  unfold partT
  split <;> (try simp) <;> omega

theorem lvT_len {sens cats : List (List UInt8)} (hf : Few sens cats) {s : Nat} (hs : s < sens.length) {c : Nat} (hv : ∀ j, c.testBit j = true → j < cats.length) : (lvT sens cats s c).length ≤ 20000 := by
  refine txtT_len (hf.as _ (nm_mem hs)) (fun p hp => ?_) ?_
  · simp only [List.mem_map] at hp
    obtain ⟨q, hq, rfl⟩ := hp
    have := runsR_bits hq
    exact partT_len hf.bs (hv _ this.1) (hv _ this.2.1)
  · have := runsR_len (c := c) (k := 64) (i := 0)
    simp only [List.length_map, runs]; omega

/-- What Text answers. -/
def textV (sens cats : List (List UInt8)) (s : Int) (c : Nat) (s' : Int) (c' : Nat) : List UInt8 :=
  if errV (propV sens cats) (rangeV s c s' c' sens.length cats.length) = 0 then
    (if s = s' ∧ c = c' then lvT sens cats s.toNat c else lvT sens cats s.toNat c ++ 45 :: lvT sens cats s'.toNat c')
  else []

theorem errV_zero {P V : Bool} (h : errV P V = 0) : P = true ∧ V = true := by
  unfold errV at h
  cases P <;> cases V <;> simp_all

theorem e24 {n : Nat} (hn : 20030 ≤ n) (z z' : Bool) {sens cats : List (List UInt8)} (hf : Few sens cats) (s : Int) (c : Nat) (s' : Int) (c' : Nat) (hr : Rok c c') : cpJ PR n 24 [rg s c s' c', strsD z sens, strsD z' cats] =
    some (.tup [.str (textV sens cats s c s' c'), .int .i64 (errV (propV sens cats) (rangeV s c s' c' sens.length cats.length))]) := by
  obtain ⟨n, rfl⟩ : ∃ m, n = m + 1 := ⟨n - 1, by omega⟩
  have h1 := e43 (n := n) z z' hf (by omega) s c s' c' hr
  rw [u24]
  unfold textV
  by_cases h0 : errV (propV sens cats) (rangeV s c s' c' sens.length cats.length) = 0
  · obtain ⟨hP, hV⟩ := errV_zero h0
    rw [h0] at h1 ⊢
    obtain ⟨⟨i, i', rfl, rfl, hi, hi'⟩, hb, hb'⟩ := range_facts hr hV
    have w1 := e44 (n := n) (by omega) z z' sens cats i hi c hr.lo hb hf.as hf.bs
    have w2 := e44 (n := n) (by omega) z z' sens cats i' hi' c' hr.hi hb' hf.as hf.bs
    have b1 := lvT_len hf hi hb
    have b2 := lvT_len hf hi' hb'
    by_cases e : (i : Int) = i' ∧ c = c'
    · obtain ⟨e1, rfl⟩ := e
      obtain rfl : i = i' := by omega
      simp -implicitDefEqProofs [D24, h1, w1]
    · have e2 := lv_ne e
      rw [if_neg e]
      have c1 : binStr .add (lvT sens cats i c) [45] = some (.str (lvT sens cats i c ++ [45])) := addS (by simp; omega)
      have c2 : binStr .add (lvT sens cats i c ++ [45]) (lvT sens cats i' c') = some (.str (lvT sens cats i c ++ 45 :: lvT sens cats i' c')) := by rw [addS (by simp; omega)]; simp
      simp -implicitDefEqProofs [-binStr.eq_1, D24, h1, w1, w2, e2, c1, c2]
  · rw [if_neg h0]
    simp -implicitDefEqProofs [D24, h1, h0]

theorem e25 {n : Nat} (hn : 20040 ≤ n) (z z' : Bool) {sens cats : List (List UInt8)} (hf : Few sens cats) (s : Int) (c : Nat) (s' : Int) (c' : Nat) (hr : Rok c c') : cpJ PR n 25 [rg s c s' c', strsD z sens, strsD z' cats] =
    some (.tup [.str (textV sens cats s c s' c'), .int .i64 (errV (propV sens cats) (rangeV s c s' c' sens.length cats.length))]) := by
  obtain ⟨n, rfl⟩ : ∃ m, n = m + 1 := ⟨n - 1, by omega⟩
  have h1 := e40 (n := n) (by omega) z z' hf s c s' c' hr
  rw [u25]
  unfold textV
  unfold srcV at h1
  by_cases h0 : errV (propV sens cats) (rangeV s c s' c' sens.length cats.length) = 0
  · obtain ⟨hP, hV⟩ := errV_zero h0
    rw [h0] at h1 ⊢
    obtain ⟨⟨i, i', rfl, rfl, hi, hi'⟩, hb, hb'⟩ := range_facts hr hV
    have hns : ∀ s ∈ sens, s ≠ [] := fun s hs => by
      simp only [propV, Bool.and_eq_true] at hP
      exact ((properB_name hP.1).1 s hs).1
    have hnc : ∀ s ∈ cats, s.length ≤ 100 ∧ s ≠ [] := fun s hs => by
      simp only [propV, Bool.and_eq_true] at hP
      exact ⟨hf.bs s hs, ((properB_name hP.2).1 s hs).1⟩
    have hl := runsR_len (c := c) (k := 64) (i := 0)
    have hl' := runsR_len (c := c') (k := 64) (i := 0)
    have w1 := e45 (n := n) (by omega) (nm sens i) (by have := hf.as _ (nm_mem hi); omega) cats hnc (runs c) (fun p hp => ⟨hb _ (runsR_bits hp).1, hb _ (runsR_bits hp).2.1⟩) hl
    have w2 := e45 (n := n) (by omega) (nm sens i') (by have := hf.as _ (nm_mem hi'); omega) cats hnc (runs c') (fun p hp => ⟨hb' _ (runsR_bits hp).1, hb' _ (runsR_bits hp).2.1⟩) hl'
    have b1 := lvT_len hf hi hb
    have b2 := lvT_len hf hi' hb'
    have ne := hns _ (nm_mem hi')
    change _ = some (DVal.str (lvT sens cats i c)) at w1
    change _ = some (DVal.str (lvT sens cats i' c')) at w2
    by_cases e : (i : Int) = i' ∧ c = c'
    · obtain ⟨e1, rfl⟩ := e
      obtain rfl : i = i' := by omega
      simp only [if_true, and_self, Int.toNat_natCast, rowsV] at h1
      simp -implicitDefEqProofs [D25, h1, w1]
    · rw [if_neg e]
      simp only [if_true, if_neg e, Int.toNat_natCast, rowsV] at h1
      have c1 : binStr .add (lvT sens cats i c) [45] = some (.str (lvT sens cats i c ++ [45])) := addS (by simp; omega)
      have c2 : binStr .add (lvT sens cats i c ++ [45]) (lvT sens cats i' c') = some (.str (lvT sens cats i c ++ 45 :: lvT sens cats i' c')) := by rw [addS (by simp; omega)]; simp
      simp -implicitDefEqProofs [-binStr.eq_1, D25, h1, w1, w2, c1, c2, ne]
  · rw [if_neg h0]
    rw [if_neg h0] at h1
    simp -implicitDefEqProofs [D25, h1, h0]

/-- The law of texts. -/
theorem e6 {n : Nat} (hn : 20050 ≤ n) (aw : cpJ PR n 16 [] = some (.bool true)) (z z' : Bool) (sens cats : List (List UInt8)) (s : Int) (c : Nat) (s' : Int) (c' : Nat) (hr : Rok c c') :
    cpJ PR (n + 1) 6 [rg s c s' c', .agg [strsD z sens, strsD z' cats]] = some (.bool true) := by
  have h1 := e23 (n := n) (by omega) z z' sens cats
  rw [u6]
  cases hf : fewV sens cats with
  | false =>
    rw [hf] at h1
    simp -implicitDefEqProofs [D6, h1, aw]
  | true =>
    rw [hf] at h1
    have h2 := e24 (n := n) (by omega) z z' (few_iff hf) s c s' c' hr
    have h3 := e25 (n := n) (by omega) z z' (few_iff hf) s c s' c' hr
    simp -implicitDefEqProofs [D6, h1, h2, h3, aw]

end Go.Proofs.YticbfdcfopilfaaDoor
