/- Texts of this proof, part 7: see the card for what is proved. -/
import Derived.Test.YtagkgekpfgepoaaGreatDoorPm06
import Derived.Test.YtagkgekpfgepoaaGreatDoorPm05
namespace Go.Proofs.YtagkgekpfgepoaaGreatDoor
set_option linter.unusedVariables false
set_option linter.unusedSimpArgs false
set_option maxRecDepth 20000
set_option maxHeartbeats 4000000
open Go
def lookR (k : Bs) : List RBkV → Option RBkV
  | [] => none
  | b :: l => if b.key = k then some b else lookR k l
def idxR (k : Bs) : List RBkV → Nat → Int
  | [], _ => -1
  | b :: l, i => if b.key = k then (i : Int) else idxR k l (i + 1)
def RBkV.b (x : RBkV) : BktV := ⟨x.left, x.since, x.dropped⟩
def RBkV.of (k : Bs) (b : BktV) : RBkV := ⟨k, b.left, b.clock, b.dropped⟩
theorem lookR_app (k : Bs) : ∀ (a b : List RBkV), lookR k (a ++ b) = (lookR k a).or (lookR k b)
  | [], b => by simp [lookR]
  | x :: a, b => by
    simp only [List.cons_append, lookR]
    split
    · rfl
    · exact lookR_app k a b
theorem lookR_key {k : Bs} {b : RBkV} : ∀ {l : List RBkV}, lookR k l = some b → b.key = k ∧ b ∈ l
  | [], h => by simp [lookR] at h
  | x :: l, h => by
    simp only [lookR] at h
    split at h
    · rename_i hk
      simp only [Option.some.injEq] at h
      subst h
      exact ⟨hk, by simp⟩
    · obtain ⟨h1, h2⟩ := lookR_key h
      exact ⟨h1, by simp [h2]⟩
theorem idxR_none {k : Bs} : ∀ {l : List RBkV} {i : Nat}, lookR k l = none → idxR k l i = -1
  | [], i, _ => rfl
  | x :: l, i, h => by
    simp only [lookR] at h
    split at h
    · cases h
    · rename_i hk
      rw [idxR, if_neg hk]
      exact idxR_none h
theorem idxR_some {k : Bs} {b : RBkV} : ∀ {l : List RBkV} {i : Nat}, lookR k l = some b → ∃ j : Nat, idxR k l i = ((i + j : Nat) : Int) ∧ l[j]? = some b
  | [], i, h => by simp [lookR] at h
  | x :: l, i, h => by
    simp only [lookR] at h
    split at h
    · rename_i hk
      simp only [Option.some.injEq] at h
      subst h
      exact ⟨0, by rw [idxR, if_pos hk]; rfl, rfl⟩
    · rename_i hk
      obtain ⟨j, h1, h2⟩ := idxR_some (i := i + 1) h
      exact ⟨j + 1, by rw [idxR, if_neg hk, h1]; omega, by simpa using h2⟩
theorem lookR_set {k : Bs} {c : RBkV} (hc : c.key = k) (q : Bs) : ∀ {l : List RBkV} {i j : Nat}, idxR k l i = ((i + j : Nat) : Int) → lookR q (l.set j c) = if k = q then some c else lookR q l
  | [], i, j, h => by simp [idxR] at h; omega
  | x :: l, i, j, h => by
    rw [idxR] at h
    split at h
    · rename_i hk
      have : j = 0 := by omega
      subst this
      simp only [List.set_cons_zero, lookR, hc, hk]
      split <;> rfl
    · rename_i hk
      cases j with
      | zero =>
        exfalso
        have : ∀ (l : List RBkV) (i : Nat), idxR k l (i + 1) ≠ (i : Int) := by
          intro l
          induction l with
          | nil => intro i e; simp only [idxR] at e; omega
          | cons y l ih =>
            intro i e
            rw [idxR] at e
            split at e
            · omega
            · have hge : ∀ (l : List RBkV) (m : Nat), idxR k l m = -1 ∨ (m : Int) ≤ idxR k l m := by
                intro l
                induction l with
                | nil => intro m; exact .inl rfl
                | cons z l ih2 =>
                  intro m
                  rw [idxR]
                  split
                  · exact .inr (by omega)
                  · rcases ih2 (m + 1) with h | h
                    · exact .inl h
                    · exact .inr (by omega)
              rcases hge l (i + 1 + 1) with h | h <;> omega
        exact this l i (by simpa using h)
      | succ j =>
        have := lookR_set hc q (l := l) (i := i + 1) (j := j) (by omega)
        simp only [List.set_cons_succ, lookR]
        by_cases hq : x.key = q
        · rw [if_pos hq, if_pos hq, if_neg (fun e => hk (by rw [e, hq]))]
        · rw [if_neg hq, if_neg hq, this]
theorem lookB_shift (k : Bs) : ∀ (l : List (Bs × BktV)) (i : Nat), (lookB k l i).map (·.2) = (lookB k l 0).map (·.2)
  | [], i => rfl
  | e :: l, i => by
    simp only [lookB]
    split
    · rfl
    · rw [lookB_shift k l (i + 1), lookB_shift k l (0 + 1)]
abbrev lkB (k : Bs) (l : List (Bs × BktV)) : Option BktV := (lookB k l 0).map (·.2)
theorem lkB_cons (k : Bs) (e : Bs × BktV) (l : List (Bs × BktV)) : lkB k (e :: l) = if k = e.1 then some e.2 else lkB k l := by
  simp only [lkB, lookB]
  split
  · rfl
  · exact lookB_shift k l _
theorem lkB_app (k : Bs) : ∀ (a b : List (Bs × BktV)), lkB k (a ++ b) = (lkB k a).or (lkB k b)
  | [], b => by simp [lkB, lookB]
  | e :: a, b => by
    rw [List.cons_append, lkB_cons, lkB_cons]
    split
    · rfl
    · exact lkB_app k a b
theorem lookB_at (k : Bs) {b : BktV} : ∀ {l : List (Bs × BktV)} {i j : Nat}, lookB k l i = some (j, b) → ∃ m, j = i + m ∧ m < l.length ∧ ∀ (q : Bs) (c : BktV), lkB q (l.set m (k, c)) = if q = k then some c else lkB q l
  | [], i, j, h => by simp [lookB] at h
  | e :: l, i, j, h => by
    simp only [lookB] at h
    split at h
    · rename_i hk
      simp only [Option.some.injEq, Prod.mk.injEq] at h
      refine ⟨0, by omega, by simp, fun q c => ?_⟩
      rw [List.set_cons_zero, lkB_cons, lkB_cons]
      by_cases hq : q = k
      · rw [if_pos hq, if_pos hq]
      · rw [if_neg hq, if_neg hq, if_neg (fun h => hq (by rw [h, hk]))]
    · rename_i hk
      obtain ⟨m, h1, h2, h3⟩ := lookB_at k h
      refine ⟨m + 1, by omega, by simp; omega, fun q c => ?_⟩
      rw [List.set_cons_succ, lkB_cons, h3 q c, lkB_cons]
      by_cases hq : q = k
      · rw [if_pos hq, if_neg (fun h => hk (by rw [← hq, h])), if_pos hq]
      · rw [if_neg hq, if_neg hq]
theorem lkB_set (k : Bs) (c : BktV) (l : List (Bs × BktV)) (q : Bs) : lkB q (setB k c l) = if q = k then some c else lkB q l := by
  unfold setB
  split
  · rename_i i b h
    obtain ⟨m, h1, -, h3⟩ := lookB_at k h
    rw [show i = m by omega]
    exact h3 q c
  · rename_i h
    rw [lkB_app, lkB_cons]
    by_cases hq : q = k
    · subst hq
      have : lkB q l = none := by simp [lkB, h]
      rw [this, if_pos rfl]
      simp
    · rw [if_neg hq, if_neg hq]
      simp [lkB, lookB]
def BkOk (burst t : Int) (b : BktV) : Prop := 0 ≤ b.left ∧ b.left ≤ burst ∧ 0 ≤ b.clock ∧ b.clock ≤ t
structure RelL (L : LimV) (R : RLimV) (k : Nat) : Prop where
  burst : R.burst = L.burst
  interval : R.interval = L.interval
  keys : R.keys = 1024
  time : R.time = L.time
  bOk : 1 ≤ L.burst ∧ L.burst ≤ 1000000
  iOk : 1 ≤ L.interval ∧ L.interval ≤ 1000000
  tOk : 0 ≤ L.time ∧ L.time ≤ 1125899906842624
  look : ∀ q, (lookR q R.bks.l).map RBkV.b = lkB q L.bk
  ok : ∀ q b, lookR q R.bks.l = some b → BkOk L.burst L.time b.b
  len : R.bks.l.length ≤ k
theorem w_id {x : Int} (h0 : -1125899906842624 * 4 ≤ x) (h1 : x ≤ 1125899906842624 * 4) : IntKind.i64.wrap x = x := wrap_i64 (by omega) (by omega)
theorem fill_eq {L : LimV} {b : BktV} {t : Int} (hb : 1 ≤ L.burst ∧ L.burst ≤ 1000000) (hi : 1 ≤ L.interval ∧ L.interval ≤ 1000000) (h : BkOk L.burst t b) (ht : t ≤ 1125899906842624) :
    ∃ q : Int, (w64 (t - b.clock)).tdiv L.interval = q ∧ w64 (t - b.clock) = t - b.clock ∧ 0 ≤ q ∧ q ≤ 1125899906842624 ∧ 0 ≤ q * L.interval ∧ q * L.interval ≤ t - b.clock ∧
      filledV L b t = (if (if b.left + q < L.burst then b.left + q else L.burst) = L.burst then ⟨(if b.left + q < L.burst then b.left + q else L.burst), t, b.dropped⟩ else ⟨(if b.left + q < L.burst then b.left + q else L.burst), b.clock + q * L.interval, b.dropped⟩) ∧ BkOk L.burst t (filledV L b t) := by
  obtain ⟨h1, h2, h3, h4⟩ := h
  have e1 : w64 (t - b.clock) = t - b.clock := w_id (by omega) (by omega)
  have hq0 : 0 ≤ (t - b.clock).tdiv L.interval := Int.tdiv_nonneg (by omega) (by omega)
  have hq : (t - b.clock).tdiv L.interval = (t - b.clock) / L.interval := Int.tdiv_eq_ediv_of_nonneg (by omega)
  have hm : (t - b.clock).tdiv L.interval * L.interval ≤ t - b.clock := by rw [hq]; exact Int.ediv_mul_le _ (by omega)
  have hqm : (t - b.clock).tdiv L.interval ≤ (t - b.clock).tdiv L.interval * L.interval := by
    have := Int.mul_le_mul_of_nonneg_left (show (1 : Int) ≤ L.interval by omega) hq0
    omega
  have hfill : fillN L b t = if L.burst - b.left < (t - b.clock).tdiv L.interval then L.burst - b.left else (t - b.clock).tdiv L.interval := by
    unfold fillN
    rw [e1]
    have a1 : w64 (L.burst - b.left) = L.burst - b.left := w_id (by omega) (by omega)
    have a2 : w64 ((t - b.clock).tdiv L.interval) = (t - b.clock).tdiv L.interval := w_id (by omega) (by omega)
    rw [a1, a2]
  refine ⟨(t - b.clock).tdiv L.interval, by rw [e1], e1, hq0, by omega, by omega, hm, ?_⟩
  unfold filledV
  rw [hfill]
  generalize (t - b.clock).tdiv L.interval = q at *
  by_cases hlt : L.burst - b.left < q
  · rw [if_pos hlt, if_neg (show ¬ b.left + q < L.burst by omega)]
    have e2 : w64 (b.left + (L.burst - b.left)) = L.burst := by rw [show b.left + (L.burst - b.left) = L.burst by omega]; exact w_id (by omega) (by omega)
    rw [e2, if_pos rfl, if_pos rfl]
    exact ⟨rfl, by show 0 ≤ L.burst; omega, by show L.burst ≤ L.burst; omega, by show 0 ≤ t; omega, by show t ≤ t; omega⟩
  · rw [if_neg hlt]
    have e2 : w64 (b.left + q) = b.left + q := w_id (by omega) (by omega)
    have e3 : w64 (q * L.interval) = q * L.interval := w_id (by omega) (by omega)
    have e4 : w64 (b.clock + q * L.interval) = b.clock + q * L.interval := w_id (by omega) (by omega)
    rw [e2, e3, e4]
    by_cases he : b.left + q = L.burst
    · rw [if_pos he, if_neg (show ¬ b.left + q < L.burst by omega), if_pos rfl, he]
      exact ⟨rfl, by show 0 ≤ L.burst; omega, by show L.burst ≤ L.burst; omega, by show 0 ≤ t; omega, by show t ≤ t; omega⟩
    · rw [if_neg he, if_pos (show b.left + q < L.burst by omega), if_neg he]
      exact ⟨rfl, by show 0 ≤ b.left + q; omega, by show b.left + q ≤ L.burst; omega, by show 0 ≤ b.clock + q * L.interval; omega, by show b.clock + q * L.interval ≤ t; omega⟩
theorem e67 {n : Nat} (hn : 1 ≤ n) (R : RLimV) (L : LimV) (h : R.time = L.time) (now : Int) : cpJ PR n 67 [R.d, .int .i64 now] = some (.int .i64 (atV L now)) := by
  obtain ⟨n, rfl⟩ : ∃ m, n = m + 1 := ⟨n - 1, by omega⟩
  rw [u67]
  unfold atV
  rw [← h]
  by_cases h1 : 1125899906842624 < now
  · simp -implicitDefEqProofs [D67, h1, -jwrSem.eq_1, -fldSem.eq_1]
  · simp -implicitDefEqProofs [D67, h1, -jwrSem.eq_1, -fldSem.eq_1]
theorem l69 {n : Nat} (R : RLimV) (hl : R.bks.l.length < 1000000) (k : Bs) (σ : Sto) (q : DVal) : ∀ (j i m : Nat), R.bks.l.length = i + j → j < m →
    iterJ 0 (L69_0 (cpJ PR n) (ciJ PR n) n (.str k) R.d) m [.int .i64 i, q] σ = some (.done (.int .i64 (idxR k (R.bks.l.drop i) i)) σ) := by
  intro j
  induction j with
  | zero =>
    intro i m hi hm
    obtain ⟨m, rfl⟩ : ∃ q, m = q + 1 := ⟨m - 1, by omega⟩
    have hi' : ¬ ((i : Int) < R.bks.l.length) := by omega
    refine iterJ_done ?_
    rw [List.drop_eq_nil_of_le (by omega), idxR]
    have hlen : lenSlSem [slOf 4 RBkV.row R.bks] = some (.int .i64 R.bks.l.length) := len_slOf
    generalize (R.bks.l.length : Int) = K at *
    simp -implicitDefEqProofs [L69_0, B69_0, hi', hlen, -jwrSem.eq_1, -fldSem.eq_1, -len_slOf]
  | succ j ih =>
    intro i m hi hm
    obtain ⟨m, rfl⟩ : ∃ q, m = q + 1 := ⟨m - 1, by omega⟩
    have hlt : i < R.bks.l.length := by omega
    have hltI : (i : Int) < R.bks.l.length := by omega
    obtain ⟨x, hx⟩ := get_some hlt
    have hw : IntKind.i64.wrap ((i : Int) + 1) = ((i + 1 : Nat) : Int) := wrap_succ (by omega)
    have hlen : lenSlSem [slOf 4 RBkV.row R.bks] = some (.int .i64 R.bks.l.length) := len_slOf
    have g1 : idxSSem 4 [slOf 4 RBkV.row R.bks, .int .i64 i] = some (.elem x.row 0) := by rw [idx_slOf, if_pos (by omega), Int.toNat_natCast, hx]; rfl
    rw [drop_get hx, idxR]
    have ih' := ih (i + 1) m (by omega) (by omega)
    by_cases hk : x.key = k
    · rw [if_pos hk]
      refine iterJ_done ?_
      generalize (R.bks.l.length : Int) = K at *
      simp -implicitDefEqProofs [L69_0, B69_0, hltI, hlen, g1, hk, -jwrSem.eq_1, -fldSem.eq_1, -len_slOf, -idx_slOf]
    · rw [if_neg hk, ← ih']
      refine iterJ_next' ?_
      have hkb : (x.key == k) = false := beq_eq_false_iff_ne.2 hk
      generalize (R.bks.l.length : Int) = K at *
      simp -implicitDefEqProofs [L69_0, B69_0, hltI, hlen, g1, hk, hkb, hw, -jwrSem.eq_1, -fldSem.eq_1, -len_slOf, -idx_slOf]
theorem e69 {n : Nat} (hn : 1000010 ≤ n) (R : RLimV) (hl : R.bks.l.length < 1000000) (k : Bs) : cpJ PR n 69 [R.d, .str k] = some (.int .i64 (idxR k R.bks.l 0)) := by
  obtain ⟨n, rfl⟩ : ∃ m, n = m + 1 := ⟨n - 1, by omega⟩
  have := l69 (n := n) R hl k emptySto (.int .i64 0) R.bks.l.length 0 n (by omega) (by omega)
  simp only [Int.natCast_zero, List.drop_zero] at this
  rw [u69]
  simp -implicitDefEqProofs [D69, this, -jwrSem.eq_1, -fldSem.eq_1]
theorem e70 {n : Nat} (hn : 1 ≤ n) (R : RLimV) (L : LimV) (h1 : R.burst = L.burst) (h2 : R.interval = L.interval) (x : RBkV) (t : Int) (hb : 1 ≤ L.burst ∧ L.burst ≤ 1000000) (hi : 1 ≤ L.interval ∧ L.interval ≤ 1000000) (h : BkOk L.burst t x.b) (ht : t ≤ 1125899906842624) :
    cpJ PR n 70 [R.d, x.d, .int .i64 t] = some (RBkV.of x.key (filledV L x.b t)).d := by
  obtain ⟨n, rfl⟩ : ∃ m, n = m + 1 := ⟨n - 1, by omega⟩
  obtain ⟨q, q1, q2, q3, q4, q5, q6, q7, -⟩ := fill_eq hb hi h ht
  obtain ⟨a1, a2, a3, a4⟩ := h
  have a1 : 0 ≤ x.left := a1
  have a2 : x.left ≤ L.burst := a2
  have a3 : 0 ≤ x.since := a3
  have a4 : x.since ≤ t := a4
  have q2 : IntKind.i64.wrap (t - x.since) = t - x.since := q2
  have q1 : (t - x.since).tdiv L.interval = q := by rw [← q2]; exact q1
  have q6 : q * L.interval ≤ t - x.since := q6
  have hne : ¬ (L.interval = 0) := by omega
  have w0 : IntKind.i64.wrap q = q := w_id (by omega) (by omega)
  have w1 : IntKind.i64.wrap (x.left + q) = x.left + q := w_id (by omega) (by omega)
  have w2 : IntKind.i64.wrap (q * L.interval) = q * L.interval := w_id (by omega) (by omega)
  have w3 : IntKind.i64.wrap (x.since + q * L.interval) = x.since + q * L.interval := w_id (by omega) (by omega)
  have q7 : filledV L x.b t = (if (if x.left + q < L.burst then x.left + q else L.burst) = L.burst then ⟨(if x.left + q < L.burst then x.left + q else L.burst), t, x.dropped⟩ else ⟨(if x.left + q < L.burst then x.left + q else L.burst), x.since + q * L.interval, x.dropped⟩) := q7
  rw [u70, q7]
  by_cases hlt : x.left + q < L.burst
  · have hne2 : ¬ (x.left + q = L.burst) := by omega
    have hneb : (x.left + q == L.burst) = false := beq_eq_false_iff_ne.2 hne2
    simp only [if_pos hlt, if_neg hne2]
    simp -implicitDefEqProofs [D70, h1, h2, hne, q2, q1, w0, w1, w2, w3, hlt, hne2, hneb, RBkV.of, -jwrSem.eq_1, -fldSem.eq_1]
  · simp only [if_neg hlt, if_true]
    simp -implicitDefEqProofs [D70, h1, h2, hne, q2, q1, w0, w1, w2, w3, hlt, RBkV.of, -jwrSem.eq_1, -fldSem.eq_1]
end Go.Proofs.YtagkgekpfgepoaaGreatDoor
namespace Go.Proofs.YtagkgekpfgepoaaGreatDoor
set_option linter.unusedVariables false
set_option linter.unusedSimpArgs false
set_option maxRecDepth 20000
set_option maxHeartbeats 8000000
open Go
theorem drop_slD {z : Zs} {sz : Nat} {es : List (List DVal)} {j : Nat} (h : j ≤ es.length) : ∃ z', slcVSem sz true false false [slD z sz es, .int .i64 j] = some (slD z' sz (es.drop j)) := by
  have hj : (0 : Int) ≤ (j : Int) ∧ (j : Int) ≤ (es.length : Int) := ⟨by omega, by omega⟩
  rcases slD_cases z sz es with ⟨e, rfl⟩ | ⟨e, rfl⟩ | e | e <;> rw [e]
  · have : j = 0 := by simpa using h
    subst this
    exact ⟨.nil, by simp [slcVSem, bounds, slD]⟩
  · have : j = 0 := by simpa using h
    subst this
    exact ⟨.empt, by simp [slcVSem, bounds, slD]⟩
  · exact ⟨.full, by simp [slcVSem, bounds, hj, slD, List.take_of_length_le]⟩
  · exact ⟨.full, by simp [slcVSem, bounds, hj, slD, List.take_of_length_le]⟩
def RLimV.raw (R : RLimV) (v : DVal) : DVal := .agg [.int .i64 R.burst, .int .i64 R.interval, .int .i64 R.keys, .int .i64 R.time, v, .int .i64 R.allowed, .int .i64 R.denied]
section
variable {R : RLimV} {v : DVal}
theorem raw_jwr (hc : v.cells = [v]) (hk : v.okCell = true) : jwrSem 4 1 [R.d, v] = some (R.raw v) := by
  simp [jwrSem, hc, hk, writeCells, RLimV.d, RLimV.row, RLimV.raw]
theorem raw_whole : fldSem 0 (some 7) [R.raw v] = some (R.raw v) := rfl
theorem raw_wr (hk : v.okCell = true) (c0 c1 c2 c3 c4 c5 c6 : DVal) : jwrSem 0 7 [.agg [c0, c1, c2, c3, c4, c5, c6], R.raw v] = some (R.raw v) := by
  simp [jwrSem, DVal.cells, hk, writeCells, RLimV.raw]
theorem raw_okVal (hk : v.okCell = true) : (R.raw v).okVal = true := by simp [RLimV.raw, DVal.okVal, hk]
theorem raw_bks : fldSem 4 none [R.raw v] = some v := rfl
theorem raw_den : fldSem 6 none [R.raw v] = some (.int .i64 R.denied) := rfl
theorem raw_all : fldSem 5 none [R.raw v] = some (.int .i64 R.allowed) := rfl
theorem raw_sden (d : Int) : jwrSem 6 1 [R.raw v, .int .i64 d] = some (({ R with denied := d } : RLimV).raw v) := by simp [jwrSem, DVal.cells, writeCells, RLimV.raw]
theorem raw_sall (d : Int) : jwrSem 5 1 [R.raw v, .int .i64 d] = some (({ R with allowed := d } : RLimV).raw v) := by simp [jwrSem, DVal.cells, writeCells, RLimV.raw]
theorem raw_seal {z : Zs} {l : List RBkV} (h : v.sealCell = some (slD z 4 (l.map RBkV.row))) : (R.raw v).sealVal = some ({ R with bks := ⟨z, l⟩ } : RLimV).d := by
  simp [RLimV.raw, DVal.sealVal, sealCells, h, RLimV.d, RLimV.row, slOf]
theorem raw_back {σ : Sto} {z : Zs} {l : List RBkV} (h : v.sealCell = some (slD z 4 (l.map RBkV.row))) : (R.raw v).handBack σ = some ({ R with bks := ⟨z, l⟩ } : RLimV).d := by
  have := raw_seal (R := R) h
  show ((R.raw v).sealVal.or ((R.raw v).snapVal σ)) = _
  rw [this]
  rfl
theorem raw_snap {σ : Sto} {id len : Nat} {cap : Option Nat} {l : List RBkV} (h : snapM σ 4 id 0 len = some (l.map RBkV.row)) : (R.raw (.mslice 4 id 0 len cap)).snapVal σ = some ({ R with bks := ⟨.full, l⟩ } : RLimV).d := by
  simp [RLimV.raw, DVal.snapVal, snapCells, DVal.snapCell, DVal.sealCell, h, RLimV.d, RLimV.row, slOf, slD]
theorem raw_tup {σ : Sto} {id len : Nat} {cap : Option Nat} {l : List RBkV} (h : snapM σ 4 id 0 len = some (l.map RBkV.row)) (b : Bool) : (DVal.tup [R.raw (.mslice 4 id 0 len cap), .bool b]).handBack σ = some (.tup [({ R with bks := ⟨.full, l⟩ } : RLimV).d, .bool b]) := by
  have h1 : sealVals [R.raw (.mslice 4 id 0 len cap), .bool b] = none := rfl
  have h2 := raw_snap (R := R) (cap := cap) h
  show ((sealVals [R.raw (.mslice 4 id 0 len cap), .bool b]).or (snapVals σ [R.raw (.mslice 4 id 0 len cap), .bool b])).map DVal.tup = _
  have h3 : snapVals σ [R.raw (.mslice 4 id 0 len cap), .bool b] = some [({ R with bks := ⟨.full, l⟩ } : RLimV).d, .bool b] := by
    rw [show snapVals σ [R.raw (.mslice 4 id 0 len cap), .bool b] = (match (R.raw (.mslice 4 id 0 len cap)).snapVal σ, snapVals σ [.bool b] with | some d, some ds => some (d :: ds) | _, _ => none) from rfl, h2]
    rfl
  rw [h1, h3]
  rfl
end
theorem map_take_drop {α β : Type} (f : α → β) (l : List α) (p : Nat) (b : α) : [] ++ (l.map f).take p ++ [f b] ++ (l.map f).drop p = (l.take p ++ b :: l.drop p).map f := by
  simp
theorem l68 {n : Nat} (R : RLimV) (hl : R.bks.l.length ≤ 1000) (k : Bs) (t : Int) (σ : Sto) : ∀ (j i m : Nat), R.bks.l.length = i + j → j < m →
    ∃ v τ z p, iterJ 0 (L68_0 (cpJ PR n) (ciJ PR n) n (.str k) (.int .i64 t) R.d) m [.int .i64 i] σ = some (.done v τ) ∧ v.handBack τ = some ({ R with bks := ⟨z, R.bks.l.take p ++ ⟨k, R.burst, t, 0⟩ :: R.bks.l.drop p⟩ } : RLimV).d := by
  have stop : ∀ (i m : Nat), i ≤ R.bks.l.length → (i < R.bks.l.length → ∃ x, R.bks.l[i]? = some x ∧ Op.bytesLess x.key k = false) →
      ∃ v τ z p, iterJ 0 (L68_0 (cpJ PR n) (ciJ PR n) n (.str k) (.int .i64 t) R.d) (m + 1) [.int .i64 i] σ = some (.done v τ) ∧ v.handBack τ = some ({ R with bks := ⟨z, R.bks.l.take p ++ ⟨k, R.burst, t, 0⟩ :: R.bks.l.drop p⟩ } : RLimV).d := by
    intro i m hi hx
    have hiI : (0 : Int) ≤ (i : Int) ∧ (i : Int) ≤ ((R.bks.l.map RBkV.row).length : Int) := ⟨by omega, by simp; omega⟩
    have t1 : slcVSem 4 false true false [slOf 4 RBkV.row R.bks, .int .i64 i] = some (slD (R.bks.z.part (R.bks.l.map RBkV.row)) 4 ((R.bks.l.map RBkV.row).take i)) := by
      rw [slOf, take_slD, if_pos hiI, Int.toNat_natCast]
    obtain ⟨z2, t2⟩ := drop_slD (z := R.bks.z) (sz := 4) (es := R.bks.l.map RBkV.row) (j := i) (by simpa using hi)
    have t2 : slcVSem 4 true false false [slOf 4 RBkV.row R.bks, .int .i64 i] = some (slD z2 4 ((R.bks.l.map RBkV.row).drop i)) := t2
    obtain ⟨w1, σ1, a1, o1⟩ := own_app (own_nils σ 4) (elems_slD (z := R.bks.z.part (R.bks.l.map RBkV.row)) (sz := 4) (l := (R.bks.l.map RBkV.row).take i)) szOk_slD (by simp; omega)
    have hsl := RBkV_slice (cpJ PR n) ⟨k, R.burst, t, 0⟩
    have hbl : POp.sem (cpJ PR n) [.str k, .int .i64 R.burst, .int .i64 t] (.build [(.str []), (.int .i64 0), (.int .i64 0), (.int .i64 0)] [(0, 1), (1, 1), (2, 1)]) = some (RBkV.mk k R.burst t 0).d := rfl
    obtain ⟨w2, σ2, a2, o2⟩ := own_app (x := .slice false 1 4 [(RBkV.mk k R.burst t 0).row]) o1 rfl (by simp [DVal.szOk]) (by simp; omega)
    obtain ⟨w3, σ3, a3, o3⟩ := own_app o2 (elems_slD (z := z2) (sz := 4) (l := (R.bks.l.map RBkV.row).drop i)) szOk_slD (by simp; omega)
    rw [map_take_drop] at o3
    obtain ⟨z, hz⟩ := own_sealCell o3
    have hc := own_cells o3
    have hk := own_okCell o3
    have q1 := raw_jwr (R := R) hc hk
    have q2 := raw_wr (R := R) hk
    have q3 := raw_okVal (R := R) hk
    have q4 := raw_whole (R := R) (v := w3)
    refine ⟨R.raw w3, σ3, z, i, iterJ_done ?_, raw_back hz⟩
    have hlen : lenSlSem [slOf 4 RBkV.row R.bks] = some (.int .i64 R.bks.l.length) := len_slOf
    generalize (RBkV.mk k R.burst t 0).row = BR at *
    generalize (RBkV.mk k R.burst t 0).d = BD at *
    generalize R.raw w3 = RW at *
    by_cases hlt : i < R.bks.l.length
    · obtain ⟨x, hx1, hx2⟩ := hx hlt
      have hltI : (i : Int) < R.bks.l.length := by omega
      have g1 : idxSSem 4 [slOf 4 RBkV.row R.bks, .int .i64 i] = some (.elem x.row 0) := by rw [idx_slOf, if_pos (by omega), Int.toNat_natCast, hx1]; rfl
      generalize (R.bks.l.length : Int) = K at *
      simp -implicitDefEqProofs [L68_0, B68_0, hltI, hlen, g1, hx2, t1, t2, a1, hbl, hsl, a2, a3, q1, q2, q3, q4, -jwrSem.eq_1, -fldSem.eq_1, -len_slOf, -idx_slOf]
    · have hltI : ¬ ((i : Int) < R.bks.l.length) := by omega
      generalize (R.bks.l.length : Int) = K at *
      simp -implicitDefEqProofs [L68_0, B68_0, hltI, hlen, t1, t2, a1, hbl, hsl, a2, a3, q1, q2, q3, q4, -jwrSem.eq_1, -fldSem.eq_1, -len_slOf, -idx_slOf]
  intro j
  induction j with
  | zero =>
    intro i m hi hm
    obtain ⟨m, rfl⟩ : ∃ q, m = q + 1 := ⟨m - 1, by omega⟩
    exact stop i m (by omega) (fun h => by omega)
  | succ j ih =>
    intro i m hi hm
    obtain ⟨m, rfl⟩ : ∃ q, m = q + 1 := ⟨m - 1, by omega⟩
    have hlt : i < R.bks.l.length := by omega
    have hltI : (i : Int) < R.bks.l.length := by omega
    obtain ⟨x, hx⟩ := get_some hlt
    cases hb : Op.bytesLess x.key k with
    | false => exact stop i m (by omega) (fun _ => ⟨x, hx, hb⟩)
    | true =>
      obtain ⟨v, τ, z, p, h1, h2⟩ := ih (i + 1) m (by omega) (by omega)
      refine ⟨v, τ, z, p, ?_, h2⟩
      rw [← h1]
      refine iterJ_next' ?_
      have hw : IntKind.i64.wrap ((i : Int) + 1) = ((i + 1 : Nat) : Int) := wrap_succ (by omega)
      have hlen : lenSlSem [slOf 4 RBkV.row R.bks] = some (.int .i64 R.bks.l.length) := len_slOf
      have g1 : idxSSem 4 [slOf 4 RBkV.row R.bks, .int .i64 i] = some (.elem x.row 0) := by rw [idx_slOf, if_pos (by omega), Int.toNat_natCast, hx]; rfl
      generalize (R.bks.l.length : Int) = K at *
      simp -implicitDefEqProofs [L68_0, B68_0, hltI, hlen, g1, hb, hw, -jwrSem.eq_1, -fldSem.eq_1, -len_slOf, -idx_slOf]
theorem e68 {n : Nat} (hn : 1000020 ≤ n) (R : RLimV) (hl : R.bks.l.length ≤ 1000) (hk : R.keys = 1024) (k : Bs) (t : Int) :
    (lookR k R.bks.l ≠ none → cpJ PR n 68 [R.d, .str k, .int .i64 t] = some R.d) ∧ (lookR k R.bks.l = none → ∃ z p, cpJ PR n 68 [R.d, .str k, .int .i64 t] = some ({ R with bks := ⟨z, R.bks.l.take p ++ ⟨k, R.burst, t, 0⟩ :: R.bks.l.drop p⟩ } : RLimV).d) := by
  obtain ⟨n, rfl⟩ : ∃ m, n = m + 1 := ⟨n - 1, by omega⟩
  have h69 := e69 (n := n) (by omega) R (by omega) k
  rw [u68]
  refine ⟨fun h => ?_, fun h => ?_⟩
  · cases hlk : lookR k R.bks.l with
    | none => exact absurd hlk h
    | some b =>
      obtain ⟨j, h1, -⟩ := idxR_some (i := 0) hlk
      rw [h1] at h69
      have hge : (0 : Int) ≤ ((0 + j : Nat) : Int) := by omega
      generalize ((0 + j : Nat) : Int) = J at *
      simp -implicitDefEqProofs [D68, h69, hge, -jwrSem.eq_1, -fldSem.eq_1]
  · rw [idxR_none h] at h69
    obtain ⟨v, τ, z, p, h1, h2⟩ := l68 (n := n) R hl k t emptySto R.bks.l.length 0 n (by omega) (by omega)
    simp only [Int.natCast_zero] at h1
    refine ⟨z, p, ?_⟩
    have hlen : lenSlSem [slOf 4 RBkV.row R.bks] = some (.int .i64 R.bks.l.length) := len_slOf
    have hlt : ¬ ((1024 : Int) ≤ R.bks.l.length) := by omega
    generalize (R.bks.l.length : Int) = K at *
    simp -implicitDefEqProofs [D68, L68_1, J68_1, h69, hlen, hk, hlt, h1, h2, -jwrSem.eq_1, -fldSem.eq_1, -len_slOf, -idx_slOf]
end Go.Proofs.YtagkgekpfgepoaaGreatDoor
namespace Go.Proofs.YtagkgekpfgepoaaGreatDoor
set_option linter.unusedVariables false
set_option linter.unusedSimpArgs false
set_option maxRecDepth 20000
set_option maxHeartbeats 8000000
open Go
theorem atV_bounds {L : LimV} {now : Int} (h : 0 ≤ L.time ∧ L.time ≤ 1125899906842624) : L.time ≤ atV L now ∧ atV L now ≤ 1125899906842624 := by
  unfold atV
  split <;> split <;> (try split) <;> omega
def bkSto (l : List RBkV) : Sto := emptySto.new (.agg (l.map RBkV.row).flatten)
section
variable {l : List RBkV} {i : Nat} {x : RBkV} {cap : Option Nat}
theorem bk_snap (l : List RBkV) : snapM (bkSto l) 4 0 0 l.length = some (l.map RBkV.row) := by
  have h0 : (0 : Nat) < (bkSto l).nobj := by simp [bkSto]
  have h1 : (bkSto l).obj 0 = .agg (l.map RBkV.row).flatten := Sto.new_obj (σ := emptySto)
  simp only [snapM, h0, if_true, h1, List.drop_zero]
  exact snap_flat RBkV_len RBkV_cells l
theorem bk_idx (hx : l[i]? = some x) : idxSSem 4 [.mslice 4 0 0 l.length cap, .int .i64 i] = some (.obj 0 (i * 4)) := by
  have hlt := (List.getElem?_eq_some_iff.1 hx).1
  have : (0 : Int) ≤ (i : Int) ∧ (i : Int) < (l.length : Int) := ⟨by omega, by omega⟩
  simp only [idxSSem, true_and, if_pos this, Int.toNat_natCast, Nat.zero_add]
theorem bk_ld (hx : l[i]? = some x) : ldOSem (bkSto l) (some 4) [.obj 0 (i * 4)] = some (x.d, bkSto l) := by
  have h1 : (bkSto l).obj 0 = .agg (l.map RBkV.row).flatten := Sto.new_obj (σ := emptySto)
  rw [ld_obj _ h1 (by simp [bkSto]), show i * 4 = i * 4 + 0 from rfl, rd_flat RBkV_len (by decide) hx]
  rfl
theorem bk_st (hx : l[i]? = some x) (y : RBkV) : stOSem (bkSto l) 4 [.obj 0 (i * 4), y.d] = some (.undef, bkSto (l.set i y)) := by
  have h1 : (bkSto l).obj 0 = .agg (l.map RBkV.row).flatten := Sto.new_obj (σ := emptySto)
  have hw := wr_flat RBkV_len (o := 0) (new := y.row) (by simp [RBkV.row]) hx (y := y) rfl
  rw [st_obj (k := 4) (v := y.d) h1 (by simp [bkSto]) rfl (RBkV_okc y)]
  show (writeCells _ _ y.row).map _ = _
  rw [show i * 4 = i * 4 + 0 from rfl, hw]
  simp only [Option.map_some]
  congr 2
  unfold bkSto
  exact Sto.new_put (σ := emptySto)
end
theorem bk_app {R : RLimV} (h : R.bks.l ≠ []) (hl : R.bks.l.length ≤ 2000) : appMSem 4 emptySto [.slice false 1 4 [], slOf 4 RBkV.row R.bks] = some (.mslice 4 0 0 R.bks.l.length none, bkSto R.bks.l) := by
  have h1 : elemsM emptySto (slOf 4 RBkV.row R.bks) = some (false, R.bks.l.map RBkV.row) := elemsM_of (elems_slD)
  have h2 : (slOf 4 RBkV.row R.bks).szOk 4 = true := szOk_slD
  have h3 : (R.bks.l.map RBkV.row).isEmpty = false := by
    cases hh : R.bks.l with
    | nil => exact absurd hh h
    | cons a b => rfl
  have h4 : R.bks.l.length ≤ maxAppend := by unfold maxAppend; omega
  simp only [appMSem, h1, h2, tightOf]
  simp [h3, h4, bkSto, Sto.new, emptySto]
theorem bk_fill {n : Nat} (hn : 1 ≤ n) {R : RLimV} {L : LimV} (h1 : R.burst = L.burst) (h2 : R.interval = L.interval) {x : RBkV} {t : Int} (hb : 1 ≤ L.burst ∧ L.burst ≤ 1000000) (hi : 1 ≤ L.interval ∧ L.interval ≤ 1000000) (h : BkOk L.burst t x.b) (ht : t ≤ 1125899906842624) (l : List RBkV) (cap : Option Nat) :
    callSSem (cpJ PR n) 70 (bkSto l) [R.raw (.mslice 4 0 0 l.length cap), x.d, .int .i64 t] = some ((RBkV.of x.key (filledV L x.b t)).d, bkSto l) := by
  have e := e70 (n := n) hn ({ R with bks := ⟨.full, l⟩ } : RLimV) L h1 h2 x t hb hi h ht
  have s := raw_snap (R := R) (cap := cap) (bk_snap l)
  have hx : x.d.snapVal (bkSto l) = some x.d := by simp [DVal.snapVal, snapCells, DVal.snapCell, DVal.sealCell, RBkV.d, RBkV.row]
  have hs : snapVals (bkSto l) [R.raw (.mslice 4 0 0 l.length cap), x.d, .int .i64 t] = some [({ R with bks := ⟨.full, l⟩ } : RLimV).d, x.d, .int .i64 t] := by
    rw [show snapVals (bkSto l) [R.raw (.mslice 4 0 0 l.length cap), x.d, .int .i64 t] = (match (R.raw (.mslice 4 0 0 l.length cap)).snapVal (bkSto l), (match x.d.snapVal (bkSto l), some [.int .i64 t] with | some d, some ds => some (d :: ds) | _, _ => none) with | some d, some ds => some (d :: ds) | _, _ => none) from rfl, s, hx]
  unfold callSSem
  rw [hs, Option.bind_some, e, Option.bind_some]
  rfl
def takeB (L : LimV) (k : Bs) (t : Int) : BktV := (lkB k L.bk).getD ⟨L.burst, t, 0⟩
theorem allowV_eq (L : LimV) (k : Bs) (now : Int) : allowV L k now =
    if (filledV L (takeB L k (atV L now)) (atV L now)).left = 0 then
      (⟨L.burst, L.interval, atV L now, L.allowed, w64 (L.denied + 1), setB k ⟨(filledV L (takeB L k (atV L now)) (atV L now)).left, (filledV L (takeB L k (atV L now)) (atV L now)).clock, w64 ((filledV L (takeB L k (atV L now)) (atV L now)).dropped + 1)⟩ L.bk⟩, false)
    else
      (⟨L.burst, L.interval, atV L now, w64 (L.allowed + 1), L.denied, setB k ⟨w64 ((filledV L (takeB L k (atV L now)) (atV L now)).left - 1), (filledV L (takeB L k (atV L now)) (atV L now)).clock, 0⟩ L.bk⟩, true) := by
  unfold allowV takeB lkB
  cases lookB k L.bk 0 <;> rfl
theorem e49 {n : Nat} (hn : 1000030 ≤ n) {L : LimV} {R : RLimV} {c : Nat} (h : RelL L R c) (hc : c ≤ 900) (k : Bs) (now : Int) : ∃ R', cpJ PR n 49 [R.d, .str k, .int .i64 now] = some (.tup [R'.d, .bool (allowV L k now).2]) ∧ RelL (allowV L k now).1 R' (c + 1) := by
  obtain ⟨n, rfl⟩ : ∃ m, n = m + 1 := ⟨n - 1, by omega⟩
  have h67 := e67 (n := n) (by omega) R L h.time now
  obtain ⟨t1, t2⟩ := atV_bounds (now := now) h.tOk
  have hlen := h.len
  have htk := h.tOk
  rw [allowV_eq]
  generalize ht : atV L now = t at *
  -- known
  obtain ⟨R2, b, k1, k2, k3, k4, k5, k6, k7, k8⟩ : ∃ (R2 : RLimV) (b : RBkV), cpJ PR n 68 [({ R with time := t } : RLimV).d, .str k, .int .i64 t] = some R2.d ∧ lookR k R2.bks.l = some b ∧ b.b = takeB L k t ∧ BkOk L.burst t b.b ∧
      (R2.burst = R.burst ∧ R2.interval = R.interval ∧ R2.keys = R.keys ∧ R2.time = t ∧ R2.allowed = R.allowed ∧ R2.denied = R.denied) ∧ R2.bks.l.length ≤ c + 1 ∧ (∀ q, q ≠ k → lookR q R2.bks.l = lookR q R.bks.l) ∧ b.key = k := by
    obtain ⟨a1, a2⟩ := e68 (n := n) (by omega) ({ R with time := t } : RLimV) (by show R.bks.l.length ≤ 1000; omega) h.keys k t
    have hlk := h.look k
    cases hr : lookR k R.bks.l with
    | some b =>
      rw [hr] at hlk
      refine ⟨{ R with time := t }, b, a1 (by show lookR k R.bks.l ≠ none; rw [hr]; simp), hr, ?_, ?_, ⟨rfl, rfl, rfl, rfl, rfl, rfl⟩, by show R.bks.l.length ≤ _; omega, fun q _ => rfl, (lookR_key hr).1⟩
      · rw [takeB, ← hlk]; rfl
      · obtain ⟨o1, o2, o3, o4⟩ := h.ok k b hr
        exact ⟨o1, o2, o3, by omega⟩
    | none =>
      rw [hr] at hlk
      obtain ⟨z, p, a3⟩ := a2 hr
      have hnone : ∀ q, lookR q (R.bks.l.take p ++ ⟨k, R.burst, t, 0⟩ :: R.bks.l.drop p) = if k = q then some ⟨k, R.burst, t, 0⟩ else lookR q R.bks.l := by
        intro q
        have e : lookR q R.bks.l = (lookR q (R.bks.l.take p)).or (lookR q (R.bks.l.drop p)) := by rw [← lookR_app, List.take_append_drop]
        rw [lookR_app, lookR]
        by_cases hq : k = q
        · rw [if_pos hq, if_pos hq]
          have : lookR q (R.bks.l.take p) = none := by
            rw [← hq, ]
            have e' : (lookR k (R.bks.l.take p)).or (lookR k (R.bks.l.drop p)) = none := by rw [← lookR_app, List.take_append_drop]; exact hr
            exact (Option.or_eq_none_iff.1 e').1
          rw [this]
          rfl
        · rw [if_neg hq, if_neg hq, e]
      refine ⟨_, ⟨k, R.burst, t, 0⟩, a3, by rw [hnone, if_pos rfl], ?_, ?_, ⟨rfl, rfl, rfl, rfl, rfl, rfl⟩, ?_, fun q hq => ?_, rfl⟩
      · rw [takeB, ← hlk, ← h.burst]; rfl
      · have := h.bOk
        exact ⟨by show 0 ≤ R.burst; rw [h.burst]; omega, by show R.burst ≤ L.burst; rw [h.burst]; omega, by show 0 ≤ t; omega, by show t ≤ t; omega⟩
      · show (R.bks.l.take p ++ _ :: R.bks.l.drop p).length ≤ _
        simp
        omega
      · rw [hnone, if_neg (fun e => hq e.symm)]
  rw [← k3]
  obtain ⟨j1, j2, j3, j4, j5, j6⟩ := k5
  have h69 := e69 (n := n) (by omega) R2 (by omega) k
  obtain ⟨j, i1, i2⟩ := idxR_some (i := 0) k2
  rw [i1] at h69
  simp only [Nat.zero_add] at h69 i1
  have hne : R2.bks.l ≠ [] := by
    intro e
    rw [e] at i2
    simp at i2
  have happ := bk_app (R := R2) hne (by omega)
  have hidx := bk_idx (cap := none) i2
  have hld := bk_ld i2
  have hf := bk_fill (n := n) (by omega) (R := R2) (by rw [j1, h.burst]) (by rw [j2, h.interval]) h.bOk h.iOk k4 t2 R2.bks.l none
  obtain ⟨q, -, -, -, -, -, -, -, hok⟩ := fill_eq h.bOk h.iOk k4 t2
  generalize hF : filledV L b.b t = F at *
  have m1 : (DVal.mslice 4 0 0 R2.bks.l.length none).cells = [.mslice 4 0 0 R2.bks.l.length none] := rfl
  have m2 : (DVal.mslice 4 0 0 R2.bks.l.length none).okCell = true := rfl
  have r1 := raw_jwr (R := R2) m1 m2
  have r2 := fun (R : RLimV) => raw_whole (R := R) (v := .mslice 4 0 0 R2.bks.l.length none)
  have r3 := fun (R : RLimV) => raw_bks (R := R) (v := .mslice 4 0 0 R2.bks.l.length none)
  have r4 := fun (R : RLimV) => raw_den (R := R) (v := .mslice 4 0 0 R2.bks.l.length none)
  have r5 := fun (R : RLimV) => raw_all (R := R) (v := .mslice 4 0 0 R2.bks.l.length none)
  have r6 := fun (R : RLimV) => raw_sden (R := R) (v := .mslice 4 0 0 R2.bks.l.length none)
  have r7 := fun (R : RLimV) => raw_sall (R := R) (v := .mslice 4 0 0 R2.bks.l.length none)
  have r8 := fun (R : RLimV) => raw_wr (R := R) m2
  have r9 := fun (R : RLimV) => raw_okVal (R := R) m2
  have hjI : ¬ ((j : Int) < 0) := by omega
  have hkeyF : (RBkV.of b.key F).left = F.left := rfl
  have hbd := h.bOk
  -- how the new state is like the program's
  have rel : ∀ (c' : RBkV) (al de : Int) (z : Zs), c'.key = k → BkOk L.burst t c'.b → ∀ (A D : Int), RelL ⟨L.burst, L.interval, t, A, D, setB k c'.b L.bk⟩ ({ R2 with bks := ⟨z, R2.bks.l.set j c'⟩, allowed := al, denied := de } : RLimV) (c + 1) := by
    intro c' al de z hk' hok' A D
    have hset : ∀ q, lookR q (R2.bks.l.set j c') = if k = q then some c' else lookR q R2.bks.l := fun q => lookR_set hk' q (by rw [i1]; simp)
    refine ⟨by show R2.burst = _; rw [j1, h.burst], by show R2.interval = _; rw [j2, h.interval], by show R2.keys = _; rw [j3, h.keys], j4, hbd, h.iOk, ⟨by show 0 ≤ t; omega, t2⟩, fun q => ?_, fun q b' hb' => ?_, by show (R2.bks.l.set j c').length ≤ _; rw [List.length_set]; exact k6⟩
    · show (lookR q (R2.bks.l.set j c')).map RBkV.b = lkB q (setB k c'.b L.bk)
      rw [hset, lkB_set]
      by_cases hq : q = k
      · rw [if_pos hq.symm, if_pos hq]; rfl
      · rw [if_neg (fun e => hq e.symm), if_neg hq, k7 q hq]
        exact h.look q
    · have hb' : lookR q (R2.bks.l.set j c') = some b' := hb'
      rw [hset] at hb'
      by_cases hq : k = q
      · rw [if_pos hq] at hb'
        simp only [Option.some.injEq] at hb'
        rw [← hb']
        exact hok'
      · rw [if_neg hq, k7 q (fun e => hq e.symm)] at hb'
        obtain ⟨o1, o2, o3, o4⟩ := h.ok q b' hb'
        exact ⟨o1, o2, o3, by show b'.b.clock ≤ t; omega⟩
  obtain ⟨f1, f2, f3, f4⟩ := hok
  have hR : jwrSem 3 1 [R.d, .int .i64 t] = some ({ R with time := t } : RLimV).d := RLimV_set_time R t
  have hbs : POp.sem (cpJ PR n) [] (.bslice false 4) = some (.slice false 1 4 []) := rfl
  rw [u49]
  by_cases h0 : F.left = 0
  · simp only [if_pos h0]
    have hst := bk_st i2 (⟨b.key, F.left, F.clock, w64 (F.dropped + 1)⟩ : RBkV)
    have hback := raw_tup (R := { R2 with denied := w64 (R2.denied + 1) }) (cap := none) (bk_snap (R2.bks.l.set j ⟨b.key, F.left, F.clock, w64 (F.dropped + 1)⟩)) false
    rw [List.length_set] at hback
    refine ⟨{ R2 with bks := ⟨.full, R2.bks.l.set j ⟨b.key, F.left, F.clock, w64 (F.dropped + 1)⟩⟩, denied := w64 (R2.denied + 1) }, ?_, rel ⟨b.key, F.left, F.clock, w64 (F.dropped + 1)⟩ _ _ _ k8 ⟨f1, f2, f3, f4⟩ _ _⟩
    have hd := RBkV_set_dropped (RBkV.of b.key F) (w64 (F.dropped + 1))
    have hd : jwrSem 3 1 [(RBkV.of b.key F).d, .int .i64 (w64 (F.dropped + 1))] = some (⟨b.key, F.left, F.clock, w64 (F.dropped + 1)⟩ : RBkV).d := hd
    have hl : fldSem 1 none [(RBkV.of b.key F).d] = some (.int .i64 0) := by rw [← h0]; rfl
    have hdr : fldSem 3 none [(RBkV.of b.key F).d] = some (.int .i64 F.dropped) := rfl
    generalize bkSto (R2.bks.l.set j ⟨b.key, F.left, F.clock, w64 (F.dropped + 1)⟩) = S2 at *
    generalize bkSto R2.bks.l = S1 at *
    generalize (.mslice 4 0 0 R2.bks.l.length none : DVal) = MS at *
    generalize (⟨b.key, F.left, F.clock, w64 (F.dropped + 1)⟩ : RBkV) = NB at *
    generalize RBkV.of b.key F = OB at *
    generalize ({ R with time := t } : RLimV) = R1 at *
    simp -implicitDefEqProofs [D49, h67, hR, k1, h69, hjI, hbs, happ, r1, r2, r3, hidx, hld, hf, hl, hdr, hd, r4, r6, hst, r8, r9, hback, -jwrSem.eq_1, -fldSem.eq_1, -RBkV_f_left, -RBkV_f_dropped, -RBkV_set_dropped, -RLimV_set_time]
  · simp only [if_neg h0]
    have w1 : w64 (F.left - 1) = F.left - 1 := w_id (by omega) (by omega)
    have hst := bk_st i2 (⟨b.key, w64 (F.left - 1), F.clock, 0⟩ : RBkV)
    have hback := raw_tup (R := { R2 with allowed := w64 (R2.allowed + 1) }) (cap := none) (bk_snap (R2.bks.l.set j ⟨b.key, w64 (F.left - 1), F.clock, 0⟩)) true
    rw [List.length_set] at hback
    refine ⟨{ R2 with bks := ⟨.full, R2.bks.l.set j ⟨b.key, w64 (F.left - 1), F.clock, 0⟩⟩, allowed := w64 (R2.allowed + 1) }, ?_, rel ⟨b.key, w64 (F.left - 1), F.clock, 0⟩ _ _ _ k8 ⟨by show 0 ≤ w64 (F.left - 1); rw [w1]; omega, by show w64 (F.left - 1) ≤ L.burst; rw [w1]; omega, f3, f4⟩ _ _⟩
    have hb0 : (F.left == 0) = false := beq_eq_false_iff_ne.2 h0
    have hd1 : jwrSem 1 1 [(RBkV.of b.key F).d, .int .i64 (w64 (F.left - 1))] = some (⟨b.key, w64 (F.left - 1), F.clock, F.dropped⟩ : RBkV).d := RBkV_set_left (RBkV.of b.key F) (w64 (F.left - 1))
    have hd2 : jwrSem 3 1 [(⟨b.key, w64 (F.left - 1), F.clock, F.dropped⟩ : RBkV).d, .int .i64 0] = some (⟨b.key, w64 (F.left - 1), F.clock, 0⟩ : RBkV).d := RBkV_set_dropped ⟨b.key, w64 (F.left - 1), F.clock, F.dropped⟩ 0
    have hl : fldSem 1 none [(RBkV.of b.key F).d] = some (.int .i64 F.left) := rfl
    generalize bkSto (R2.bks.l.set j ⟨b.key, w64 (F.left - 1), F.clock, 0⟩) = S2 at *
    generalize bkSto R2.bks.l = S1 at *
    generalize (.mslice 4 0 0 R2.bks.l.length none : DVal) = MS at *
    generalize (⟨b.key, w64 (F.left - 1), F.clock, 0⟩ : RBkV) = NB at *
    generalize (⟨b.key, w64 (F.left - 1), F.clock, F.dropped⟩ : RBkV) = NB1 at *
    generalize RBkV.of b.key F = OB at *
    generalize ({ R with time := t } : RLimV) = R1 at *
    simp -implicitDefEqProofs [D49, h67, hR, k1, h69, hjI, hbs, happ, r1, r2, r3, hidx, hld, hf, hl, h0, hb0, hd1, hd2, r5, r7, hst, r8, r9, hback, -jwrSem.eq_1, -fldSem.eq_1, -RBkV_f_left, -RBkV_set_left, -RBkV_set_dropped, -RLimV_set_time]
end Go.Proofs.YtagkgekpfgepoaaGreatDoor
namespace Go.Proofs.YtagkgekpfgepoaaGreatDoor
set_option linter.unusedVariables false
set_option linter.unusedSimpArgs false
set_option maxRecDepth 20000
set_option maxHeartbeats 8000000
open Go
structure RelS (M : LogV) (S : RStV) (k : Nat) : Prop where
  size : S.size = M.size
  dropped : S.dropped = M.dropped
  removed : S.removed = M.removed
  list : S.list.l.map RecV.strip = M.recs.map RecV.strip
  lim : RelL M.lim S.lim k
def RStV.raw (S : RStV) (v : DVal) : DVal := .agg (.int .i64 S.size :: (S.lim.row ++ [v, .int .i64 S.dropped, .int .i64 S.removed]))
section
variable {S : RStV} {v : DVal}
theorem sr_jwr (hc : v.cells = [v]) (hk : v.okCell = true) : jwrSem 8 1 [S.d, v] = some (S.raw v) := by
  simp [jwrSem, hc, hk, writeCells, RStV.d, RStV.row, RStV.raw, RLimV.row]
theorem sr_whole : fldSem 0 (some 11) [S.raw v] = some (S.raw v) := rfl
theorem sr_wr (hk : v.okCell = true) (c0 c1 c2 c3 c4 c5 c6 c7 c8 c9 c10 : DVal) : jwrSem 0 11 [.agg [c0, c1, c2, c3, c4, c5, c6, c7, c8, c9, c10], S.raw v] = some (S.raw v) := by
  simp [jwrSem, DVal.cells, hk, writeCells, RStV.raw, RLimV.row]
theorem sr_okVal (hk : v.okCell = true) : (S.raw v).okVal = true := by simp [RStV.raw, RLimV.row, DVal.okVal, hk]
theorem sr_tup {σ : Sto} {id off len : Nat} {cap : Option Nat} {l : List RecV} (h : snapM σ 9 id off len = some (l.map RecV.row)) (b : Bool) : (DVal.tup [S.raw (.mslice 9 id off len cap), .bool b]).handBack σ = some (.tup [({ S with list := ⟨.full, l⟩ } : RStV).d, .bool b]) := by
  have h1 : sealVals [S.raw (.mslice 9 id off len cap), .bool b] = none := by simp [sealVals, DVal.sealVal, sealCells, DVal.sealCell, RStV.raw, RLimV.row]
  have h2 : (S.raw (.mslice 9 id off len cap)).snapVal σ = some ({ S with list := ⟨.full, l⟩ } : RStV).d := by
    have e : (slOf 4 RBkV.row S.lim.bks).snapCell σ = some (slOf 4 RBkV.row S.lim.bks) := by
      rcases slD_cases S.lim.bks.z 4 (S.lim.bks.l.map RBkV.row) with ⟨e, -⟩ | ⟨e, -⟩ | e | e <;> rw [slOf, e] <;> rfl
    have hi : ∀ k n, (DVal.int k n).snapCell σ = some (.int k n) := fun _ _ => rfl
    have hm : (DVal.mslice 9 id off len cap).snapCell σ = (snapM σ 9 id off len).map (.slice false 0 9) := rfl
    show (snapCells σ (.int .i64 S.size :: (S.lim.row ++ [.mslice 9 id off len cap, .int .i64 S.dropped, .int .i64 S.removed]))).map DVal.agg = _
    simp only [RLimV.row, List.cons_append, List.nil_append, snapCells, hi, hm, e, h, Option.map_some]
    rfl
  have h3 : snapVals σ [S.raw (.mslice 9 id off len cap), .bool b] = some [({ S with list := ⟨.full, l⟩ } : RStV).d, .bool b] := by
    rw [show snapVals σ [S.raw (.mslice 9 id off len cap), .bool b] = (match (S.raw (.mslice 9 id off len cap)).snapVal σ, snapVals σ [.bool b] with | some d, some ds => some (d :: ds) | _, _ => none) from rfl, h2]
    rfl
  show ((sealVals [S.raw (.mslice 9 id off len cap), .bool b]).or (snapVals σ [S.raw (.mslice 9 id off len cap), .bool b])).map DVal.tup = _
  rw [h1, h3]
  rfl
end
structure HasR (σ : Sto) (id : Nat) (l : List RecV) : Prop where
  lt : id < σ.nobj
  obj : σ.obj id = .agg (l.map RecV.row).flatten
section
variable {σ : Sto} {id : Nat} {l : List RecV} (h : HasR σ id l) {i : Nat} {x : RecV} {cap : Option Nat}
include h
theorem HasR.snap : snapM σ 9 id 0 l.length = some (l.map RecV.row) := by
  simp only [snapM, h.lt, if_true, h.obj, List.drop_zero]
  exact snap_flat RecV_len RecV_cells l
theorem HasR.snapT {y : RecV} {t : List RecV} (e : l = y :: t) : snapM σ 9 id 9 t.length = some (t.map RecV.row) := by
  simp only [snapM, h.lt, if_true, h.obj, e]
  have := flat_drop RecV_len [y] t
  simp only [List.length_cons, List.length_nil, List.singleton_append] at this
  rw [show (0 + 1) * 9 = 9 from rfl] at this
  rw [this]
  exact snap_flat RecV_len RecV_cells t
omit h in
theorem HasR.idx (hx : l[i]? = some x) : idxSSem 9 [.mslice 9 id 0 l.length cap, .int .i64 i] = some (.obj id (i * 9)) := by
  have hlt := (List.getElem?_eq_some_iff.1 hx).1
  have : (0 : Int) ≤ (i : Int) ∧ (i : Int) < (l.length : Int) := ⟨by omega, by omega⟩
  simp only [idxSSem, true_and, if_pos this, Int.toNat_natCast, Nat.zero_add]
theorem HasR.ld (hx : l[i]? = some x) : ldOSem σ (some 9) [.obj id (i * 9)] = some (x.d, σ) := by
  rw [ld_obj _ h.obj h.lt, show i * 9 = i * 9 + 0 from rfl, rd_flat RecV_len (by decide) hx]
  rfl
theorem HasR.ldc (hx : l[i]? = some x) : ldOSem σ none [.obj id (i * 9 + 8)] = some (.int .i64 x.count, σ) := by
  rw [ld_obj _ h.obj h.lt, rd_flat1 RecV_len (by decide) hx]
  rfl
theorem HasR.st (hx : l[i]? = some x) (c : Int) : ∃ σ', stOSem σ 1 [.obj id (i * 9 + 8), .int .i64 c] = some (.undef, σ') ∧ HasR σ' id (l.set i { x with count := c }) := by
  have hw := wr_flat RecV_len (o := 8) (new := [.int .i64 c]) (by simp) hx (y := { x with count := c }) rfl
  refine ⟨σ.put id (.agg ((l.set i { x with count := c }).map RecV.row).flatten), ?_, ⟨h.lt, by simp⟩⟩
  rw [st_obj (k := 1) h.obj h.lt rfl rfl]
  show (writeCells _ _ [.int .i64 c]).map _ = _
  rw [hw]
  rfl
theorem HasR.push (hl : l.length ≤ 1000) (y : RecV) : ∃ σ', appXSem 9 σ [.mslice 9 id 0 l.length cap, .slice false 1 9 [y.row]] = some (.mslice 9 σ.nobj 0 (l.length + 1) none, σ') ∧ HasR σ' σ.nobj (l ++ [y]) := by
  have hlen : (l.map RecV.row).flatten.length = l.length * 9 := by
    have : ∀ (l : List RecV), (l.map RecV.row).flatten.length = l.length * 9 := by
      intro l
      induction l with
      | nil => rfl
      | cons a l ih => rw [List.map_cons, List.flatten_cons, List.length_append, ih, RecV_len, List.length_cons]; omega
    exact this l
  have hmax : l.length + 1 ≤ maxAppend := by unfold maxAppend; omega
  refine ⟨{ nobj := σ.nobj + 1, obj := upd (upd σ.obj id .undef) σ.nobj (.agg ((l.map RecV.row).flatten ++ [y.row].flatten)), ntok := σ.ntok, fr := σ.fr }, ?_, Nat.lt_succ_self _, by simp [upd]⟩
  · simp [appXSem, elemsOf, h.obj, h.lt, DVal.szOk, hlen, hmax]
end
theorem rec_app {z : Zs} {l : List RecV} (h : l ≠ []) (hl : l.length ≤ 2000) : appMSem 9 emptySto [.nils, slOf 9 RecV.row ⟨z, l⟩] = some (.mslice 9 0 0 l.length none, emptySto.new (.agg (l.map RecV.row).flatten)) ∧ HasR (emptySto.new (.agg (l.map RecV.row).flatten)) 0 l := by
  have h1 : elemsM emptySto (slOf 9 RecV.row ⟨z, l⟩) = some (false, l.map RecV.row) := elemsM_of (elems_slD)
  have h2 : (slOf 9 RecV.row ⟨z, l⟩).szOk 9 = true := szOk_slD
  have h3 : (l.map RecV.row).isEmpty = false := by
    cases hh : l with
    | nil => exact absurd hh h
    | cons a b => rfl
  have h4 : l.length ≤ maxAppend := by unfold maxAppend; omega
  refine ⟨?_, ⟨by simp, Sto.new_obj (σ := emptySto)⟩⟩
  simp only [appMSem, h1, h2, tightOf]
  simp [h3, h4, Sto.new, emptySto]
theorem rec_app0 {z : Zs} : appMSem 9 emptySto [.nils, slOf 9 RecV.row ⟨z, []⟩] = some (.nils, emptySto) := by
  cases z <;> rfl
theorem pushHas {n : Nat} {S1 : RStV} {σ : Sto} {v : DVal} {l : List RecV} {r : RecV} (hsz : 1 ≤ S1.size) (hl : l.length ≤ 1000) (i : Nat) (q : DVal)
    (hlen : lenSlSem [v] = some (.int .i64 l.length)) (hi : ¬ ((i : Int) < l.length)) {id : Nat} {σ2 : Sto} (hp : appXSem 9 σ [v, .slice false 1 9 [r.row]] = some (.mslice 9 id 0 (l.length + 1) none, σ2)) (h2 : HasR σ2 id (l ++ [r])) (Z : List DVal) (hZ : Z.length = 11) :
    ∃ w τ, L24_1 (cpJ PR n) (ciJ PR n) n r.d v [.int .i64 i, q, S1.d, .agg Z] σ = some (.done w τ) ∧
      w.handBack τ = some (.tup [(if S1.size < ((l ++ [r]).length : Int) then ({ S1 with list := ⟨.full, (l ++ [r]).drop 1⟩, removed := w64 (S1.removed + headC (l ++ [r])) } : RStV) else { S1 with list := ⟨.full, l ++ [r]⟩ }).d, .bool true]) := by
  have hsl := RecV_slice (cpJ PR n) r
  have hZ' : ∀ (S : RStV) (v : DVal), v.okCell = true → jwrSem 0 11 [.agg Z, S.raw v] = some (S.raw v) := by
    intro S v hv
    match Z, hZ with
    | [c0, c1, c2, c3, c4, c5, c6, c7, c8, c9, c10], _ => exact sr_wr hv c0 c1 c2 c3 c4 c5 c6 c7 c8 c9 c10
  have hl2 : lenSlSem [.mslice 9 id 0 (l.length + 1) none] = some (.int .i64 ((l.length + 1 : Nat) : Int)) := rfl
  have hlen2 : (l ++ [r]).length = l.length + 1 := by simp
  by_cases hgt : S1.size < ((l.length + 1 : Nat) : Int)
  · -- the first one goes
    obtain ⟨y, t, e⟩ : ∃ y t, l ++ [r] = y :: t := by
      cases hh : l ++ [r] with
      | nil => simp at hh
      | cons a b => exact ⟨a, b, rfl⟩
    have hy : (l ++ [r])[0]? = some y := by rw [e]; rfl
    have tl : t.length = l.length := by have := congrArg List.length e; simp at this; omega
    have g1 : idxSSem 9 [.mslice 9 id 0 (l.length + 1) none, .int .i64 0] = some (.obj id 0) := by
      have := HasR.idx (id := id) (cap := none) hy
      rw [hlen2] at this
      exact this
    have g2 : ldOSem σ2 none [.obj id 8] = some (.int .i64 y.count, σ2) := by
      have := h2.ldc hy
      simpa using this
    have hpos : 0 < l.length := by omega
    have g3 : slcVSem 9 true false false [.mslice 9 id 0 (l.length + 1) none, .int .i64 1] = some (.mslice 9 id 9 t.length none) := by
      have : (1 : Int) ≤ (l.length : Int) + 1 := by omega
      simp [slcVSem, bounds, this, hpos, tl]
    have m1 : (DVal.mslice 9 id 9 t.length none).cells = [.mslice 9 id 9 t.length none] := rfl
    have m2 : (DVal.mslice 9 id 9 t.length none).okCell = true := rfl
    have hS := RStV_set_removed S1 (w64 (S1.removed + y.count))
    have r1 := sr_jwr (S := { S1 with removed := w64 (S1.removed + y.count) }) m1 m2
    have r2 := fun S : RStV => sr_whole (S := S) (v := .mslice 9 id 9 t.length none)
    have r3 := fun S : RStV => hZ' S (.mslice 9 id 9 t.length none) m2
    have r4 := fun S : RStV => sr_okVal (S := S) m2
    have hb := sr_tup (S := { S1 with removed := w64 (S1.removed + y.count) }) (cap := none) (h2.snapT e) true
    refine ⟨.tup [({ S1 with removed := w64 (S1.removed + y.count) } : RStV).raw (.mslice 9 id 9 t.length none), .bool true], σ2, ?_, ?_⟩
    · generalize (.mslice 9 id 9 t.length none : DVal) = MT at *
      generalize (.mslice 9 id 0 (l.length + 1) none : DVal) = MS at *
      generalize ({ S1 with removed := w64 (S1.removed + y.count) } : RStV) = S2 at *
      generalize ((l.length + 1 : Nat) : Int) = K1 at *
      generalize (l.length : Int) = K at *
      generalize r.row = RR at *
      simp -implicitDefEqProofs [L24_1, B24_1, L24_0, J24_0, hlen, hi, hsl, hp, hl2, hgt, g1, g2, g3, hS, r1, r2, r3, r4, -jwrSem.eq_1, -fldSem.eq_1, -RStV_set_removed]
    · rw [hb, if_pos (by rw [hlen2]; exact hgt), e]
      rfl
  · have m1 : (DVal.mslice 9 id 0 (l.length + 1) none).cells = [.mslice 9 id 0 (l.length + 1) none] := rfl
    have m2 : (DVal.mslice 9 id 0 (l.length + 1) none).okCell = true := rfl
    have r1 := sr_jwr (S := S1) m1 m2
    have r2 := fun S : RStV => sr_whole (S := S) (v := .mslice 9 id 0 (l.length + 1) none)
    have r3 := fun S : RStV => hZ' S (.mslice 9 id 0 (l.length + 1) none) m2
    have r4 := fun S : RStV => sr_okVal (S := S) m2
    have hsn := h2.snap
    rw [hlen2] at hsn
    have hb := sr_tup (S := S1) (cap := none) hsn true
    refine ⟨.tup [S1.raw (.mslice 9 id 0 (l.length + 1) none), .bool true], σ2, ?_, ?_⟩
    · generalize (.mslice 9 id 0 (l.length + 1) none : DVal) = MS at *
      generalize ((l.length + 1 : Nat) : Int) = K1 at *
      generalize (l.length : Int) = K at *
      generalize r.row = RR at *
      simp -implicitDefEqProofs [L24_1, B24_1, L24_0, J24_0, hlen, hi, hsl, hp, hl2, hgt, r1, r2, r3, r4, -jwrSem.eq_1, -fldSem.eq_1]
    · rw [hb, if_neg (by rw [hlen2]; exact hgt)]
theorem l24 {n : Nat} {S1 : RStV} {σ : Sto} {l : List RecV} {r : RecV} (hsz : 1 ≤ S1.size) (hl : l.length ≤ 1000) (hp : ∀ x ∈ l, x.perms.l.length ≤ 1000) (hn : 10000 ≤ n) (h : HasR σ 0 l) (Z : List DVal) (hZ : Z.length = 11) (q : DVal) : ∀ (k i m : Nat), l.length = i + k → k < m →
    ∃ w τ, iterJ 0 (L24_1 (cpJ PR n) (ciJ PR n) n r.d (.mslice 9 0 0 l.length none)) m [.int .i64 i, q, S1.d, .agg Z] σ = some (.done w τ) ∧
      w.handBack τ = some (if 0 ≤ findR r (l.drop i) i then .tup [({ S1 with list := ⟨.full, bumpL l (findR r (l.drop i) i).toNat r.count⟩ } : RStV).d, .bool false]
        else .tup [(if S1.size < ((l ++ [r]).length : Int) then ({ S1 with list := ⟨.full, (l ++ [r]).drop 1⟩, removed := w64 (S1.removed + headC (l ++ [r])) } : RStV) else { S1 with list := ⟨.full, l ++ [r]⟩ }).d, .bool true]) := by
  intro k
  induction k with
  | zero =>
    intro i m hi hm
    obtain ⟨m, rfl⟩ : ∃ q, m = q + 1 := ⟨m - 1, by omega⟩
    obtain ⟨σ2, h1, h2⟩ := h.push (cap := none) hl r
    obtain ⟨w, τ, a1, a2⟩ := pushHas (n := n) hsz hl i q (by rfl) (by omega) h1 h2 Z hZ
    refine ⟨w, τ, iterJ_done a1, ?_⟩
    rw [List.drop_eq_nil_of_le (by omega), findR, if_neg (by omega)]
    exact a2
  | succ k ih =>
    intro i m hi hm
    obtain ⟨m, rfl⟩ : ∃ q, m = q + 1 := ⟨m - 1, by omega⟩
    have hlt : i < l.length := by omega
    have hltI : (i : Int) < l.length := by omega
    obtain ⟨x, hx⟩ := get_some hlt
    have hw : IntKind.i64.wrap ((i : Int) + 1) = ((i + 1 : Nat) : Int) := wrap_succ (by omega)
    have h12 := e12 (n := n) x r (by have := hp x (List.mem_of_getElem? hx); omega) (by have := hp x (List.mem_of_getElem? hx); omega)
    have g1 := HasR.idx (id := 0) (cap := none) hx
    have g2 := h.ld hx
    have g3 := h.ldc hx
    have hlen : lenSlSem [.mslice 9 0 0 l.length none] = some (.int .i64 l.length) := rfl
    rw [drop_get hx, findR]
    cases hs : sameV x r with
    | true =>
      rw [hs] at h12
      simp only [if_true]
      obtain ⟨σ2, st, h2⟩ := h.st hx (w64 (x.count + r.count))
      have hb : bumpL l ((i : Int)).toNat r.count = l.set i { x with count := w64 (x.count + r.count) } := by
        rw [Int.toNat_natCast, bumpL, hx]
      rw [if_pos (by omega), hb]
      have hsn := h2.snap
      rw [List.length_set] at hsn
      have hbk := sr_tup (S := S1) (cap := none) hsn false
      have m1 : (DVal.mslice 9 0 0 l.length none).cells = [.mslice 9 0 0 l.length none] := rfl
      have m2 : (DVal.mslice 9 0 0 l.length none).okCell = true := rfl
      have r1 := sr_jwr (S := S1) m1 m2
      have r2 := fun S : RStV => sr_whole (S := S) (v := .mslice 9 0 0 l.length none)
      have r4 := fun S : RStV => sr_okVal (S := S) m2
      have r3 : jwrSem 0 11 [.agg Z, S1.raw (.mslice 9 0 0 l.length none)] = some (S1.raw (.mslice 9 0 0 l.length none)) := by
        match Z, hZ with
        | [c0, c1, c2, c3, c4, c5, c6, c7, c8, c9, c10], _ => exact sr_wr m2 c0 c1 c2 c3 c4 c5 c6 c7 c8 c9 c10
      refine ⟨_, σ2, iterJ_done ?_, hbk⟩
      clear ih
      generalize (.mslice 9 0 0 l.length none : DVal) = MS at *
      generalize (l.length : Int) = K at *
      simp -implicitDefEqProofs [L24_1, B24_1, hltI, hlen, g1, g2, h12, g3, st, r1, r2, r3, r4, -jwrSem.eq_1, -fldSem.eq_1]
    | false =>
      rw [hs] at h12
      simp only [Bool.false_eq_true, if_false]
      obtain ⟨w, τ, a1, a2⟩ := ih (i + 1) m (by omega) (by omega)
      refine ⟨w, τ, ?_, a2⟩
      rw [← a1]
      refine iterJ_next' ?_
      clear ih a1 a2
      generalize (.mslice 9 0 0 l.length none : DVal) = MS at *
      generalize (l.length : Int) = K at *
      simp -implicitDefEqProofs [L24_1, B24_1, hltI, hlen, g1, g2, h12, hw, -jwrSem.eq_1, -fldSem.eq_1]
end Go.Proofs.YtagkgekpfgepoaaGreatDoor
namespace Go.Proofs.YtagkgekpfgepoaaGreatDoor
set_option linter.unusedVariables false
set_option linter.unusedSimpArgs false
set_option maxRecDepth 20000
set_option maxHeartbeats 4000000
open Go
theorem setB_len (k : Bs) (b : BktV) (l : List (Bs × BktV)) : (setB k b l).length ≤ l.length + 1 := by
  unfold setB
  split <;> simp
theorem allowV_int (L : LimV) (k : Bs) (t : Int) : (allowV L k t).1.interval = L.interval := by
  unfold allowV
  (repeat' split) <;> rfl
theorem allowV_bk (L : LimV) (k : Bs) (t : Int) : (allowV L k t).1.bk.length ≤ L.bk.length + 1 := by
  unfold allowV
  (repeat' split) <;> exact setB_len _ _ _
theorem bump_len (l : List RecV) (i : Nat) (c : Int) : (bumpL l i c).length = l.length := by
  unfold bumpL
  split <;> simp
theorem bump_mem {l : List RecV} {i : Nat} {c : Int} {x : RecV} (h : x ∈ bumpL l i c) : x ∈ l ∨ ∃ y, l[i]? = some y ∧ x = { y with count := w64 (y.count + c) } := by
  unfold bumpL at h
  split at h
  · rename_i y hy
    rcases List.mem_or_eq_of_mem_set h with h | h
    · exact .inl h
    · exact .inr ⟨y, hy, h⟩
  · exact .inl h
structure Few (M : LogV) (k : Nat) : Prop where
  int : M.lim.interval ≠ 0
  bk : M.lim.bk.length ≤ k
  recs : M.recs.length ≤ k
  perms : ∀ x ∈ M.recs, x.perms.l.length ≤ 1000
theorem Few.room {M : LogV} {k : Nat} (h : Few M k) (hk : k ≤ 1000) : Room M :=
  ⟨h.int, by have := h.bk; omega, by have := h.recs; omega, fun x hx => by have := h.perms x hx; omega⟩
theorem Few.clear {M : LogV} {k : Nat} (h : Few M k) : Few { M with recs := [] } (k + 1) :=
  ⟨h.int, by have := h.bk; show M.lim.bk.length ≤ _; omega, by simp, by simp⟩
theorem Few.add {M : LogV} {k : Nat} (h : Few M k) {r : RecV} (hr : r.perms.l.length ≤ 1000) : Few (addV M r).1 (k + 1) := by
  have hi := allowV_int M.lim (nameV r) r.time
  have hb := allowV_bk M.lim (nameV r) r.time
  have h1 := h.int
  have h2 := h.bk
  have h3 := h.recs
  have hpr : ∀ x ∈ M.recs ++ [r], x.perms.l.length ≤ 1000 := fun x hx => by
    rcases List.mem_append.1 hx with hx | hx
    · exact h.perms x hx
    · simp only [List.mem_singleton] at hx; rw [hx]; exact hr
  unfold addV
  split
  · split
    · split
      · refine ⟨by rw [← hi] at h1; exact h1, by show (allowV M.lim (nameV r) r.time).1.bk.length ≤ _; omega, by show (bumpL _ _ _).length ≤ _; rw [bump_len]; omega, fun x hx => ?_⟩
        rcases bump_mem hx with hx | ⟨y, hy, rfl⟩
        · exact h.perms x hx
        · exact h.perms y (List.mem_of_getElem? hy)
      · unfold pushV
        split
        · refine ⟨by rw [← hi] at h1; exact h1, by show (allowV M.lim (nameV r) r.time).1.bk.length ≤ _; omega, by show ((M.recs ++ [r]).drop 1).length ≤ _; simp; omega, fun x hx => hpr x (List.mem_of_mem_drop hx)⟩
        · exact ⟨by rw [← hi] at h1; exact h1, by show (allowV M.lim (nameV r) r.time).1.bk.length ≤ _; omega, by show (M.recs ++ [r]).length ≤ _; simp; omega, hpr⟩
    · exact ⟨by rw [← hi] at h1; exact h1, by show (allowV M.lim (nameV r) r.time).1.bk.length ≤ _; omega, by show M.recs.length ≤ _; omega, h.perms⟩
  · exact ⟨h1, by show M.lim.bk.length ≤ _; omega, by show M.recs.length ≤ _; omega, h.perms⟩
theorem ok_chk {r : RecV} (h : RecOk r) : chkV r = 0 := by
  have hr : rangeOk r = true := by
    simp only [rangeOk, Bool.and_eq_true, decide_eq_true_eq]
    exact ⟨⟨⟨⟨⟨h.time.1, h.time.2⟩, h.seq.1⟩, h.seq.2⟩, h.count.1⟩, h.count.2⟩
  have h1 := h.some
  have h2 := h.few
  unfold chkV
  rw [if_pos hr, if_pos (by rw [h.src, h.tgt]; rfl), if_pos h.cls, if_neg (by omega), if_neg (by omega), h.perms]
abbrev opsD (z : Zs) (l : List OpV) : DVal := slD z 10 (l.map OpV.row)
def smallOps (l : List OpV) : Bool := decide (l.length ≤ 40) && l.all fun o => smallV o.r
theorem idx_ops {z : Zs} {l : List OpV} {i : Nat} {x : OpV} (h : l[i]? = some x) : idxSSem 10 [opsD z l, .int .i64 i] = some (.elem x.row 0) := by
  rw [idx_slD, if_pos (by omega), Int.toNat_natCast, List.getElem?_map, h]
  rfl
theorem len_ops {z : Zs} {l : List OpV} : lenSlSem [opsD z l] = some (.int .i64 l.length) := by
  rw [len_slD]
  simp
theorem l18 {n : Nat} (z : Zs) (l : List OpV) (hl : l.length ≤ 40) (hn : 100 ≤ n) (q : DVal) (σ : Sto) : ∀ (k i m : Nat), l.length = i + k → k < m →
    iterJ 0 (L18_0 (cpJ PR n) (ciJ PR n) n (opsD z l)) m [.int .i64 i, q] σ = some (.done (.bool ((l.drop i).all fun o => smallV o.r)) σ) := by
  intro k
  have h2 := len_ops (z := z) (l := l)
  have hl1 : (l.length : Int) ≤ 40 := by omega
  induction k with
  | zero =>
    intro i m hi hm
    obtain ⟨m, rfl⟩ : ∃ q, m = q + 1 := ⟨m - 1, by omega⟩
    have hi' : ¬ ((i : Int) < l.length) := by omega
    refine iterJ_done ?_
    rw [List.drop_eq_nil_of_le (by omega)]
    generalize opsD z l = X at *
    generalize (l.length : Int) = K at *
    simp -implicitDefEqProofs [L18_0, B18_0, hi', h2, hl1]
  | succ k ih =>
    intro i m hi hm
    obtain ⟨m, rfl⟩ : ∃ q, m = q + 1 := ⟨m - 1, by omega⟩
    have hlt : i < l.length := by omega
    have hltI : (i : Int) < l.length := by omega
    obtain ⟨x, hx⟩ := get_some hlt
    have hw : IntKind.i64.wrap ((i : Int) + 1) = ((i + 1 : Nat) : Int) := wrap_succ (by omega)
    have g1 := idx_ops (z := z) hx
    have h22 := e7 (n := n) (by omega) x.r
    have ih' := ih (i + 1) m (by omega) (by omega)
    rw [drop_get hx, List.all_cons]
    cases hs : smallV x.r with
    | false =>
      rw [hs] at h22
      refine iterJ_done ?_
      generalize opsD z l = X at *
      generalize (l.length : Int) = K at *
      simp -implicitDefEqProofs [L18_0, B18_0, hltI, h2, hl1, g1, h22]
    | true =>
      rw [hs] at h22
      rw [Bool.true_and, ← ih']
      refine iterJ_next' ?_
      generalize opsD z l = X at *
      generalize (l.length : Int) = K at *
      simp -implicitDefEqProofs [L18_0, B18_0, hltI, h2, hl1, g1, h22, hw]
theorem e18 {n : Nat} (hn : 200 ≤ n) (z : Zs) (l : List OpV) : cpJ PR n 18 [opsD z l] = some (.bool (smallOps l)) := by
  obtain ⟨n, rfl⟩ : ∃ m, n = m + 1 := ⟨n - 1, by omega⟩
  have h2 := len_ops (z := z) (l := l)
  rw [u18]
  unfold smallOps
  by_cases hl : l.length ≤ 40
  · have := l18 (n := n) z l hl (by omega) (.bool false) emptySto l.length 0 n (by omega) (by omega)
    simp only [Int.natCast_zero, List.drop_zero] at this
    rw [decide_eq_true hl, Bool.true_and]
    generalize opsD z l = X at *
    simp -implicitDefEqProofs [D18, this]
  · have hlI : ¬ ((l.length : Int) ≤ 40) := by omega
    have h0 : (0 : Int) < l.length := by omega
    rw [decide_eq_false hl, Bool.false_and]
    obtain ⟨n, rfl⟩ : ∃ m, n = m + 1 := ⟨n - 1, by omega⟩
    generalize opsD z l = X at *
    generalize (l.length : Int) = K at *
    have : iterJ 0 (L18_0 (cpJ PR (n + 1)) (ciJ PR (n + 1)) (n + 1) X) (n + 1) [.int .i64 0, .bool false] emptySto = some (.done (.bool false) emptySto) := by
      refine iterJ_done ?_
      simp -implicitDefEqProofs [L18_0, B18_0, h0, h2, hlI]
    simp -implicitDefEqProofs [D18, this]
theorem mod_cases (k : Nat) : (((k : Int).tmod 2 == 1) = true ∧ (k : Int).tmod 2 = 1) ∨ (((k : Int).tmod 2 == 1) = false ∧ ¬ (k : Int).tmod 2 = 1) := by
  by_cases h : (k : Int).tmod 2 = 1
  · exact .inl ⟨by rw [h]; rfl, h⟩
  · exact .inr ⟨beq_eq_false_iff_ne.2 h, h⟩
theorem small_ops {l : List OpV} (h : smallOps l = true) : l.length ≤ 40 ∧ ∀ o ∈ l, SmallR o.r := by
  simp only [smallOps, Bool.and_eq_true, decide_eq_true_eq, List.all_eq_true] at h
  exact ⟨h.1, fun o ho => small_of (h.2 o ho)⟩
end Go.Proofs.YtagkgekpfgepoaaGreatDoor
namespace Go.Proofs.YtagkgekpfgepoaaGreatDoor
set_option linter.unusedVariables false
set_option linter.unusedSimpArgs false
set_option maxRecDepth 20000
set_option maxHeartbeats 8000000
open Go
theorem fit_name {r : RecV} (h : Fit r) : Fit { r with time := 0, seq := 0, count := 1 } := ⟨h.src, h.tgt, h.cls, h.perms, h.small⟩
theorem e50 {n : Nat} (r : RecV) (hf : Fit r) (hn : stepsR r + 2200 ≤ n) (hc : chkV r = 0) : cpJ PR n 50 [r.d] = some (.str (nameV r)) := by
  obtain ⟨n, rfl⟩ : ∃ m, n = m + 1 := ⟨n - 1, by omega⟩
  have h14 := e14 (n := n) { r with time := 0, seq := 0, count := 1 } (fit_name hf) (by show stepsR r + 2100 ≤ n; omega)
  rw [ok_chk (ok_name (chk_ok hc)), if_pos rfl] at h14
  have h14 : cpJ PR n 14 [({ r with time := 0, seq := 0, count := 1 } : RecV).d] = some (.tup [.str (nameV r), .int .i64 0]) := h14
  have s1 := RecV_set_time r 0
  have s2 := RecV_set_seq { r with time := 0 } 0
  have s3 := RecV_set_count { r with time := 0, seq := 0 } 1
  rw [u50]
  generalize ({ r with time := 0, seq := 0, count := 1 } : RecV) = R3 at *
  generalize ({ r with time := 0, seq := 0 } : RecV) = R2 at *
  generalize ({ r with time := 0 } : RecV) = R1 at *
  generalize nameV r = N at *
  simp -implicitDefEqProofs [D50, s1, s2, s3, h14, -jwrSem.eq_1, -fldSem.eq_1, -RecV_set_time, -RecV_set_seq, -RecV_set_count]
theorem e24 {n : Nat} (hn : 1000000000 ≤ n) {M : LogV} {S : RStV} {c : Nat} (h : RelS M S c) (hF : Few M c) (hc : c ≤ 900) (hsz : 1 ≤ M.size) (r : RecV) (hf : Fit r) (hst : stepsR r ≤ 20000) (hrp : r.perms.l.length ≤ 1000) :
    ∃ S', cpJ PR n 24 [S.d, r.d] = some (.tup [S'.d, .bool (addV M r).2]) ∧ RelS (addV M r).1 S' (c + 1) := by
  obtain ⟨n, rfl⟩ : ∃ m, n = m + 1 := ⟨n - 1, by omega⟩
  have h10 := e10 (n := n) r hf (by omega)
  have up : ∀ {L : LimV} {R : RLimV}, RelL L R c → RelL L R (c + 1) := fun g => ⟨g.burst, g.interval, g.keys, g.time, g.bOk, g.iOk, g.tOk, g.look, g.ok, by have := g.len; omega⟩
  rw [u24]
  unfold addV
  by_cases hck : chkV r = 0
  case neg =>
    rw [if_neg hck]
    refine ⟨S, ?_, h.size, h.dropped, h.removed, h.list, up h.lim⟩
    have hcb : (chkV r == 0) = false := beq_eq_false_iff_ne.2 hck
    generalize chkV r = CH at *
    simp -implicitDefEqProofs [D24, h10, hck, hcb, -jwrSem.eq_1, -fldSem.eq_1]
  rw [if_pos hck]
  rw [hck] at h10
  have h50 := e50 (n := n) r hf (by omega) hck
  obtain ⟨R', h49, hR⟩ := e49 (n := n) (by omega) h.lim hc (nameV r) r.time
  generalize allowV M.lim (nameV r) r.time = al at *
  generalize nameV r = N at *
  have q1 := RStV_set_lim S R'
  cases hal : al.2 with
  | false =>
    rw [hal] at h49
    rw [if_neg (by simp)]
    refine ⟨{ S with lim := R', dropped := w64 (S.dropped + r.count) }, ?_, h.size, by show w64 (S.dropped + r.count) = w64 (M.dropped + r.count); rw [h.dropped], h.removed, h.list, hR⟩
    have q2 := RStV_set_dropped { S with lim := R' } (w64 (S.dropped + r.count))
    have q3 : fldSem 9 none [({ S with lim := R' } : RStV).d] = some (.int .i64 S.dropped) := rfl
    generalize ({ S with lim := R', dropped := w64 (S.dropped + r.count) } : RStV) = S2 at *
    generalize ({ S with lim := R' } : RStV) = S1 at *
    simp -implicitDefEqProofs [D24, h10, h50, h49, q1, q3, q2, -jwrSem.eq_1, -fldSem.eq_1, -RStV_set_dropped, -RStV_f_dropped, -RStV_set_lim]
  | true =>
    rw [hal] at h49
    rw [if_pos rfl]
    obtain ⟨z, l⟩ : Sl RecV := S.list
    have hlist := h.list
    rw [← find_strip r hlist]
    have hlen : S.list.l.length = M.recs.length := by have := congrArg List.length hlist; simpa using this
    have few := hF.recs
    have hp : ∀ x ∈ S.list.l, x.perms.l.length ≤ 1000 := strip_mem hlist (P := fun y => y.perms.l.length ≤ 1000) (fun p q e hx => by
      have : p.perms.l = q.perms.l := by
        have := congrArg (fun r : RecV => r.perms.l) e
        exact this
      rw [← this]; exact hx) hF.perms
    have q3 : fldSem 8 none [({ S with lim := R' } : RStV).d] = some (slOf 9 RecV.row ⟨S.list.z, S.list.l⟩) := rfl
    have key : ∃ w τ v σ1, appMSem 9 emptySto [.nils, slOf 9 RecV.row ⟨S.list.z, S.list.l⟩] = some (v, σ1) ∧
        iterJ 0 (L24_1 (cpJ PR n) (ciJ PR n) n r.d v) n [.int .i64 0, .bool false, ({ S with lim := R' } : RStV).d, (.agg [(.int .i64 0), (.int .i64 0), (.int .i64 0), (.int .i64 0), (.int .i64 0), .nils, (.int .i64 0), (.int .i64 0), .nils, (.int .i64 0), (.int .i64 0)])] σ1 = some (.done w τ) ∧
        w.handBack τ = some (if 0 ≤ findR r S.list.l 0 then .tup [({ S with lim := R', list := ⟨.full, bumpL S.list.l (findR r S.list.l 0).toNat r.count⟩ } : RStV).d, .bool false]
        else .tup [(if S.size < ((S.list.l ++ [r]).length : Int) then ({ S with lim := R', list := ⟨.full, (S.list.l ++ [r]).drop 1⟩, removed := w64 (S.removed + headC (S.list.l ++ [r])) } : RStV) else { S with lim := R', list := ⟨.full, S.list.l ++ [r]⟩ }).d, .bool true]) := by
      have hs1 : 1 ≤ ({ S with lim := R' } : RStV).size := by show 1 ≤ S.size; rw [h.size]; exact hsz
      generalize hLL : S.list.l = LL at *
      cases LL with
      | nil =>
        have a0 := rec_app0 (z := S.list.z)
        have hp0 : appXSem 9 emptySto [.nils, .slice false 1 9 [r.row]] = some (.mslice 9 0 0 1 none, emptySto.new (.agg ([r].map RecV.row).flatten)) := rfl
        obtain ⟨n, rfl⟩ : ∃ m, n = m + 1 := ⟨n - 1, by omega⟩
        obtain ⟨w, τ, b1, b2⟩ := pushHas (n := n + 1) (l := []) (r := r) (σ := emptySto) (v := .nils) hs1 (by simp) 0 (.bool false) rfl (by simp) hp0 ⟨by simp, Sto.new_obj (σ := emptySto)⟩ [(.int .i64 0), (.int .i64 0), (.int .i64 0), (.int .i64 0), (.int .i64 0), .nils, (.int .i64 0), (.int .i64 0), .nils, (.int .i64 0), (.int .i64 0)] rfl
        refine ⟨w, τ, .nils, emptySto, a0, iterJ_done b1, ?_⟩
        rw [b2]; rw [findR]; rw [if_neg (show ¬ (0:Int) ≤ -1 by omega)]
      | cons a t =>
        obtain ⟨a1, a2⟩ := rec_app (z := S.list.z) (l := a :: t) (by simp) (by omega)
        obtain ⟨w, τ, b1, b2⟩ := l24 (n := n) (S1 := { S with lim := R' }) (r := r) hs1 (by omega) hp (by omega) a2 [(.int .i64 0), (.int .i64 0), (.int .i64 0), (.int .i64 0), (.int .i64 0), .nils, (.int .i64 0), (.int .i64 0), .nils, (.int .i64 0), (.int .i64 0)] rfl (.bool false) (a :: t).length 0 n (by omega) (by omega)
        simp only [Int.natCast_zero, List.drop_zero] at b1 b2
        exact ⟨w, τ, _, _, a1, b1, b2⟩
    obtain ⟨w, τ, v, σ1, k1, k2, k3⟩ := key
    have fin : finP (D24 (cpJ PR n) (ciJ PR n) n S.d r.d emptySto) = w.handBack τ := by
      generalize slOf 9 RecV.row ⟨S.list.z, S.list.l⟩ = SL at *
      generalize ({ S with lim := R' } : RStV) = S1 at *
      simp -implicitDefEqProofs [D24, h10, h50, h49, q1, q3, k1, k2, -jwrSem.eq_1, -fldSem.eq_1, -RStV_set_lim, -RStV_f_list]
    rw [fin, k3]
    by_cases hf0 : 0 ≤ findR r S.list.l 0
    · rw [if_pos hf0, if_pos hf0]
      exact ⟨_, rfl, h.size, h.dropped, h.removed, by show (bumpL _ _ _).map _ = (bumpL _ _ _).map _; rw [bump_strip, bump_strip, hlist], hR⟩
    · rw [if_neg hf0, if_neg hf0]
      have hr : (S.list.l ++ [r]).map RecV.strip = (M.recs ++ [r]).map RecV.strip := by rw [List.map_append, List.map_append, hlist]
      have hl2 : (S.list.l ++ [r]).length = (M.recs ++ [r]).length := by simp [hlen]
      unfold pushV
      by_cases hgt : S.size < ((S.list.l ++ [r]).length : Int)
      · rw [if_pos hgt, if_pos (show M.size < ((M.recs ++ [r]).length : Int) by rw [← h.size, ← hl2]; exact hgt)]
        exact ⟨_, rfl, h.size, h.dropped, by show w64 _ = w64 _; rw [h.removed, head_strip hr], by show ((S.list.l ++ [r]).drop 1).map _ = _; rw [List.map_drop, hr, ← List.map_drop], hR⟩
      · rw [if_neg hgt, if_neg (show ¬ M.size < ((M.recs ++ [r]).length : Int) by rw [← h.size, ← hl2]; exact hgt)]
        exact ⟨_, rfl, h.size, h.dropped, h.removed, hr, hR⟩
theorem e42 {n : Nat} (hn : 1 ≤ n) (b i : Int) : cpJ PR n 42 [.int .i64 b, .int .i64 i, .int .i64 1024] = some (.tup [(if limOk b i then (⟨b, i, 1024, 0, ⟨.nil, []⟩, 0, 0⟩ : RLimV) else ⟨0, 0, 0, 0, ⟨.nil, []⟩, 0, 0⟩).d, .bool (limOk b i)]) := by
  obtain ⟨n, rfl⟩ : ∃ m, n = m + 1 := ⟨n - 1, by omega⟩
  have b1 : POp.sem (cpJ PR n) [.int .i64 b, .int .i64 i, .int .i64 1024] (.build [(.int .i64 0), (.int .i64 0), (.int .i64 0), (.int .i64 0), .nils, (.int .i64 0), (.int .i64 0)] [(0, 1), (1, 1), (2, 1)]) = some (⟨b, i, 1024, 0, ⟨.nil, []⟩, 0, 0⟩ : RLimV).d := rfl
  have b2 : POp.sem (cpJ PR n) [] (.build [(.int .i64 0), (.int .i64 0), (.int .i64 0), (.int .i64 0), .nils, (.int .i64 0), (.int .i64 0)] []) = some (⟨0, 0, 0, 0, ⟨.nil, []⟩, 0, 0⟩ : RLimV).d := rfl
  rw [u42]
  generalize (⟨b, i, 1024, 0, ⟨.nil, []⟩, 0, 0⟩ : RLimV) = A at *
  generalize (⟨0, 0, 0, 0, ⟨.nil, []⟩, 0, 0⟩ : RLimV) = B at *
  unfold limOk
  by_cases h1 : b < 1
  · simp -implicitDefEqProofs [D42, h1, b2, -jwrSem.eq_1, -fldSem.eq_1, show ¬ (1 ≤ b) by omega]
  by_cases h2 : 1000000 < b
  · simp -implicitDefEqProofs [D42, h1, h2, b2, -jwrSem.eq_1, -fldSem.eq_1, show ¬ (b ≤ 1000000) by omega]
  by_cases h3 : i < 1
  · simp -implicitDefEqProofs [D42, h1, h2, h3, b2, -jwrSem.eq_1, -fldSem.eq_1, show ¬ (1 ≤ i) by omega]
  by_cases h4 : 1000000 < i
  · simp -implicitDefEqProofs [D42, h1, h2, h3, h4, b2, -jwrSem.eq_1, -fldSem.eq_1, show ¬ (i ≤ 1000000) by omega]
  simp -implicitDefEqProofs [D42, h1, h2, h3, h4, b1, -jwrSem.eq_1, -fldSem.eq_1, show 1 ≤ b by omega, show b ≤ 1000000 by omega, show 1 ≤ i by omega, show i ≤ 1000000 by omega]
theorem e20 {n : Nat} (hn : 2 ≤ n) (s b i : Int) : ∃ S : RStV, cpJ PR n 20 [.int .i64 s, .int .i64 b, .int .i64 i] = some (.tup [S.d, .bool (newOk s b i)]) ∧ (newOk s b i = true → RelS ⟨s, 0, 0, [], limNew b i⟩ S 0) := by
  obtain ⟨n, rfl⟩ : ∃ m, n = m + 1 := ⟨n - 1, by omega⟩
  have h42 := e42 (n := n) (by omega) b i
  have b2 : POp.sem (cpJ PR n) [] (.build [(.int .i64 0), (.int .i64 0), (.int .i64 0), (.int .i64 0), (.int .i64 0), .nils, (.int .i64 0), (.int .i64 0), .nils, (.int .i64 0), (.int .i64 0)] []) = some (⟨0, ⟨0, 0, 0, 0, ⟨.nil, []⟩, 0, 0⟩, ⟨.nil, []⟩, 0, 0⟩ : RStV).d := rfl
  rw [u20]
  cases hl : limOk b i with
  | false =>
    have : newOk s b i = false := by simp [newOk, hl]
    rw [this]
    rw [hl] at h42
    refine ⟨⟨0, ⟨0, 0, 0, 0, ⟨.nil, []⟩, 0, 0⟩, ⟨.nil, []⟩, 0, 0⟩, ?_, by simp⟩
    generalize (⟨0, ⟨0, 0, 0, 0, ⟨.nil, []⟩, 0, 0⟩, ⟨.nil, []⟩, 0, 0⟩ : RStV) = A at *
    simp only [Bool.false_eq_true, if_false] at h42
    generalize (⟨0, 0, 0, 0, ⟨.nil, []⟩, 0, 0⟩ : RLimV) = B at *
    simp -implicitDefEqProofs [D20, h42, b2, -jwrSem.eq_1, -fldSem.eq_1]
  | true =>
    rw [hl] at h42
    simp only [if_true] at h42
    have hlim := hl
    simp only [limOk, Bool.and_eq_true, decide_eq_true_eq] at hlim
    by_cases h1 : s < 1
    · have : newOk s b i = false := by simp [newOk]; omega
      rw [this]
      refine ⟨⟨0, ⟨0, 0, 0, 0, ⟨.nil, []⟩, 0, 0⟩, ⟨.nil, []⟩, 0, 0⟩, ?_, by simp⟩
      generalize (⟨0, ⟨0, 0, 0, 0, ⟨.nil, []⟩, 0, 0⟩, ⟨.nil, []⟩, 0, 0⟩ : RStV) = A at *
      generalize (⟨b, i, 1024, 0, ⟨.nil, []⟩, 0, 0⟩ : RLimV) = B at *
      simp -implicitDefEqProofs [D20, h42, b2, h1, -jwrSem.eq_1, -fldSem.eq_1]
    by_cases h2 : 256 < s
    · have : newOk s b i = false := by simp [newOk]; omega
      rw [this]
      refine ⟨⟨0, ⟨0, 0, 0, 0, ⟨.nil, []⟩, 0, 0⟩, ⟨.nil, []⟩, 0, 0⟩, ?_, by simp⟩
      generalize (⟨0, ⟨0, 0, 0, 0, ⟨.nil, []⟩, 0, 0⟩, ⟨.nil, []⟩, 0, 0⟩ : RStV) = A at *
      generalize (⟨b, i, 1024, 0, ⟨.nil, []⟩, 0, 0⟩ : RLimV) = B at *
      simp -implicitDefEqProofs [D20, h42, b2, h1, h2, -jwrSem.eq_1, -fldSem.eq_1]
    have : newOk s b i = true := by simp [newOk, hl]; omega
    rw [this]
    have b1 : POp.sem (cpJ PR n) [.int .i64 s, (⟨b, i, 1024, 0, ⟨.nil, []⟩, 0, 0⟩ : RLimV).d] (.build [(.int .i64 0), (.int .i64 0), (.int .i64 0), (.int .i64 0), (.int .i64 0), .nils, (.int .i64 0), (.int .i64 0), .nils, (.int .i64 0), (.int .i64 0)] [(0, 1), (1, 7)]) = some (⟨s, ⟨b, i, 1024, 0, ⟨.nil, []⟩, 0, 0⟩, ⟨.nil, []⟩, 0, 0⟩ : RStV).d := rfl
    refine ⟨⟨s, ⟨b, i, 1024, 0, ⟨.nil, []⟩, 0, 0⟩, ⟨.nil, []⟩, 0, 0⟩, ?_, fun _ => ⟨rfl, rfl, rfl, rfl, ⟨rfl, rfl, rfl, rfl, ⟨hlim.1.1.1, hlim.1.1.2⟩, ⟨hlim.1.2, hlim.2⟩, by simp [limNew], fun q => rfl, fun q b' hb' => by simp [lookR] at hb', by simp⟩⟩⟩
    generalize (⟨s, ⟨b, i, 1024, 0, ⟨.nil, []⟩, 0, 0⟩, ⟨.nil, []⟩, 0, 0⟩ : RStV) = A at *
    generalize (⟨b, i, 1024, 0, ⟨.nil, []⟩, 0, 0⟩ : RLimV) = B at *
    simp -implicitDefEqProofs [D20, h42, b1, h1, h2, -jwrSem.eq_1, -fldSem.eq_1]
theorem e22 {n : Nat} (hn : 1 ≤ n) (S : RStV) : cpJ PR n 22 [S.d] = some ({ S with list := ⟨.nil, []⟩ } : RStV).d := by
  obtain ⟨n, rfl⟩ : ∃ m, n = m + 1 := ⟨n - 1, by omega⟩
  have h := RStV_set_list S ⟨.nil, []⟩
  have h : jwrSem 8 1 [S.d, .nils] = some ({ S with list := ⟨.nil, []⟩ } : RStV).d := h
  rw [u22]
  generalize ({ S with list := ⟨.nil, []⟩ } : RStV) = S2 at *
  simp -implicitDefEqProofs [D22, h, -jwrSem.eq_1, -fldSem.eq_1]
theorem e51 {n : Nat} (hn : 1 ≤ n) (S : RStV) : cpJ PR n 51 [S.d] = some (.tup [.int .i64 S.dropped, .int .i64 S.removed]) := by
  obtain ⟨n, rfl⟩ : ∃ m, n = m + 1 := ⟨n - 1, by omega⟩
  rw [u51]
  simp -implicitDefEqProofs [D51, -jwrSem.eq_1, -fldSem.eq_1]
theorem e52 {n : Nat} (hn : 1 ≤ n) (S : RStV) : cpJ PR n 52 [S.d] = some (slOf 9 RecV.row S.list) := by
  obtain ⟨n, rfl⟩ : ∃ m, n = m + 1 := ⟨n - 1, by omega⟩
  rw [u52]
  simp -implicitDefEqProofs [D52, -jwrSem.eq_1, -fldSem.eq_1]
  try simp [slOf]
theorem e25 {n : Nat} (hn : 2000000 ≤ n) {σ : Sto} {v : DVal} {M : LogV} {S : RStV} {c : Nat} (h : LogS σ 2 1 0 v M) (hS : RelS M S c) (hF : Few M c) (hc : c ≤ 900) : ∃ σ', ciJ PR n 25 [.obj 2 0, S.d] σ = some (.bool true, σ') ∧ LogS σ' 2 1 0 v M := by
  obtain ⟨n, rfl⟩ : ∃ m, n = m + 1 := ⟨n - 1, by omega⟩
  have h28 := e28s h (n := n) (by omega)
  have h51 := e51 (n := n) (by omega) S
  have h52 := e52 (n := n) (by omega) S
  rw [hS.dropped, hS.removed] at h51
  obtain ⟨u, σ1, c1, a1, a2, a3, a4, a5⟩ := e27s h (n := n) (by omega) (hF.room (by omega))
  obtain ⟨z, hz⟩ := own_seal a3
  have few := hF.recs
  have hlen : c1.length = M.recs.length := by have := congrArg List.length a4; simpa using this
  have hp : ∀ x ∈ c1, x.perms.l.length < 1000000 := strip_mem a4 (P := fun y => y.perms.l.length < 1000000) (fun p q e hx => by
    have : p.perms.l = q.perms.l := by
      have := congrArg (fun r : RecV => r.perms.l) e
      exact this
    rw [← this]; exact hx) (fun x hx => by have := hF.perms x hx; omega)
  have h16 := e16 (n := n) z S.list.z c1 S.list.l (by omega) hp (by omega)
  rw [eqL_iff.1 (a4.trans hS.list.symm)] at h16
  have h16 : cpJ PR n 16 [slD z 9 (recRows c1), slOf 9 RecV.row S.list] = some (.bool true) := h16
  have hst : (slOf 9 RecV.row S.list).sealVal = some (slOf 9 RecV.row S.list) := sealVal_slOf
  have hst2 : (slOf 9 RecV.row S.list).stale = slOf 9 RecV.row S.list := stale_slOf
  refine ⟨σ1, ?_, a5⟩
  rw [v25]
  generalize slOf 9 RecV.row S.list = SL at *
  generalize slD z 9 (recRows c1) = CL at *
  simp -implicitDefEqProofs [D25, h28, h51, a1, h52, hst, hst2, hz, h16, -jwrSem.eq_1, -fldSem.eq_1]
theorem few_start {s b i : Int} (h : newOk s b i = true) : Few ⟨s, 0, 0, [], limNew b i⟩ 0 := by
  simp only [newOk, limOk, Bool.and_eq_true, decide_eq_true_eq] at h
  exact ⟨by show i ≠ 0; omega, by simp [limNew], by simp, by simp⟩
theorem size_add (M : LogV) (r : RecV) : (addV M r).1.size = M.size := by
  unfold addV pushV
  split
  · split
    · split
      · rfl
      · split <;> rfl
    · rfl
  · rfl
theorem l6 {n : Nat} (hn : 1000000000005 ≤ n) (z : Zs) (ops : List OpV) (hl : ops.length ≤ 40) (hs : ∀ o ∈ ops, SmallR o.r) : ∀ (k i m : Nat) (σ : Sto) (v q : DVal) (M : LogV) (S : RStV), ops.length = i + k → k < m → LogS σ 2 1 0 v M → Few M i → RelS M S i → 1 ≤ M.size →
    ∃ τ, iterJ 0 (L6_1 (cpJ PR n) (ciJ PR n) n (opsD z ops) (.obj 2 0)) m [.int .i64 i, q, S.d] σ = some (.done (.bool true) τ) := by
  intro k
  have h2 := len_ops (z := z) (l := ops)
  have h8 := e8 (n := n) (by omega)
  induction k with
  | zero =>
    intro i m σ v q M S hi hm hL hF hS hsz
    obtain ⟨m, rfl⟩ : ∃ q, m = q + 1 := ⟨m - 1, by omega⟩
    have hi' : ¬ ((i : Int) < ops.length) := by omega
    refine ⟨σ, iterJ_done ?_⟩
    generalize opsD z ops = X at *
    generalize (ops.length : Int) = K at *
    simp -implicitDefEqProofs [L6_1, B6_1, hi', h2, h8]
  | succ k ih =>
    intro i m σ v q M S hi hm hL hF hS hsz
    obtain ⟨m, rfl⟩ : ∃ q, m = q + 1 := ⟨m - 1, by omega⟩
    have hlt : i < ops.length := by omega
    have hltI : (i : Int) < ops.length := by omega
    obtain ⟨o, ho⟩ := get_some hlt
    have hw : IntKind.i64.wrap ((i : Int) + 1) = ((i + 1 : Nat) : Int) := wrap_succ (by omega)
    have g1 := idx_ops (z := z) ho
    have hsm := hs o (List.mem_of_getElem? ho)
    obtain ⟨f1, f2⟩ := small_fit hsm
    rcases mod_cases o.kind with ⟨hk, hk'⟩ | ⟨hk, hk'⟩
    · -- Clear
      obtain ⟨u2, σ2, b1, b2, -, -⟩ := e21s hL (n := n) (by omega)
      have h22 := e22 (n := n) (by omega) S
      have hS' : RelS { M with recs := [] } { S with list := ⟨.nil, []⟩ } (i + 1) := ⟨hS.size, hS.dropped, hS.removed, rfl, ⟨hS.lim.burst, hS.lim.interval, hS.lim.keys, hS.lim.time, hS.lim.bOk, hS.lim.iOk, hS.lim.tOk, hS.lim.look, hS.lim.ok, by have := hS.lim.len; show S.lim.bks.l.length ≤ _; omega⟩⟩
      obtain ⟨σ3, c1, c2⟩ := e25 (n := n) (by omega) b2 hS' hF.clear (by omega)
      obtain ⟨τ, hτ⟩ := ih (i + 1) m σ3 .nils q _ _ (by omega) (by omega) c2 hF.clear hS' hsz
      refine ⟨τ, ?_⟩
      rw [← hτ]
      refine iterJ_next' ?_
      clear ih hτ
      generalize ({ S with list := ⟨.nil, []⟩ } : RStV) = S2 at *
      generalize opsD z ops = X at *
      generalize (ops.length : Int) = K at *
      simp -implicitDefEqProofs [L6_1, B6_1, L6_0, J6_0, hltI, h2, g1, hk, hk', b1, h22, c1, hw, -jwrSem.eq_1, -fldSem.eq_1]
    · -- Add
      obtain ⟨σ1, v1, b1, b2, -, -⟩ := e23s hL (n := n) (by omega) o.r f1 (by omega) (hF.room (by omega))
      have hF' : Few (addV M o.r).1 (i + 1) := hF.add (by have := hsm.few; omega)
      obtain ⟨S', d1, d2⟩ := e24 (n := n) (by omega) hS hF (by omega) hsz o.r f1 f2 (by have := hsm.few; omega)
      obtain ⟨σ3, c1, c2⟩ := e25 (n := n) (by omega) b2 d2 hF' (by omega)
      obtain ⟨τ, hτ⟩ := ih (i + 1) m σ3 v1 q _ _ (by omega) (by omega) c2 hF' d2 (by rw [size_add]; exact hsz)
      refine ⟨τ, ?_⟩
      rw [← hτ]
      refine iterJ_next' ?_
      clear ih hτ
      generalize (addV M o.r).2 = added at *
      generalize opsD z ops = X at *
      generalize (ops.length : Int) = K at *
      simp -implicitDefEqProofs [L6_1, B6_1, L6_0, J6_0, hltI, h2, g1, hk, hk', b1, d1, c1, hw, -jwrSem.eq_1, -fldSem.eq_1]
theorem e6 {n : Nat} (hn : 1000000000010 ≤ n) (x : SetgV) (z : Zs) (ops : List OpV) : cpJ PR n 6 [x.d, opsD z ops] = some (.bool true) := by
  obtain ⟨n, rfl⟩ : ∃ m, n = m + 1 := ⟨n - 1, by omega⟩
  have h18 := e18 (n := n) (by omega) z ops
  have h8 := e8 (n := n) (by omega)
  have hseal : (opsD z ops).sealVal = some (opsD z ops) := sealVal_slD
  rw [u6]
  cases hsm : smallOps ops with
  | false =>
    rw [hsm] at h18
    generalize opsD z ops = X at *
    simp -implicitDefEqProofs [D6, h18, h8, hseal, -jwrSem.eq_1, -fldSem.eq_1]
  | true =>
    rw [hsm] at h18
    obtain ⟨s1, s2⟩ := small_ops hsm
    obtain ⟨S, h20, hS⟩ := e20 (n := n) (by omega) x.size x.burst x.interval
    rcases e19 (n := n) (by omega) emptySto x.size x.burst x.interval with ⟨hok, σ, a1, a2, -⟩ | ⟨hok, σ, a1, -⟩
    · rw [hok] at h20
      have hsz : 1 ≤ x.size := by
        simp only [newOk, Bool.and_eq_true, decide_eq_true_eq] at hok
        exact hok.1.2
      obtain ⟨τ, hτ⟩ := l6 (n := n) (by omega) z ops s1 s2 ops.length 0 n σ .nils (.bool false) _ S (by omega) (by omega) ⟨_, a2, .refl _⟩ (few_start hok) (hS hok) hsz
      simp only [Int.natCast_zero] at hτ
      have a1 : ciJ PR n 19 [.int .i64 x.size, .int .i64 x.burst, .int .i64 x.interval] emptySto = some (.obj 2 0, σ) := a1
      generalize opsD z ops = X at *
      simp -implicitDefEqProofs [D6, h18, h8, hseal, h20, a1, hτ, -jwrSem.eq_1, -fldSem.eq_1]
    · rw [hok] at h20
      generalize opsD z ops = X at *
      simp -implicitDefEqProofs [D6, h18, h8, hseal, h20, a1, -jwrSem.eq_1, -fldSem.eq_1]
end Go.Proofs.YtagkgekpfgepoaaGreatDoor
