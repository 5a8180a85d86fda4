/- Texts of this proof, part 7: see the card for what is proved. -/
import Derived.Test.YtagkgekpfgepoaaDoorPf06
namespace Go.Proofs.YtagkgekpfgepoaaDoor
set_option linter.unusedVariables false
set_option linter.unusedSimpArgs false
set_option maxRecDepth 20000
set_option maxHeartbeats 4000000
open Go
theorem KeepO.trans0 {a b c : Sto} (h : KeepO a b (fun _ => False)) (g : KeepO b c (fun _ => False)) : KeepO a c (fun _ => False) :=
  ⟨Nat.le_trans h.nobj g.nobj, fun i hi hn => (g.obj i (Nat.lt_of_lt_of_le hi h.nobj) hn).trans (h.obj i hi hn)⟩
theorem LogS.keep0 {σ σ' : Sto} {lg lid mid : Nat} {v : DVal} {M : LogV} (h : LogS σ lg lid mid v M) (k : KeepO σ σ' (fun _ => False)) : LogS σ' lg lid mid v M :=
  h.keep k (fun h => h) (fun h => h) (fun h => h) (fun _ _ h => h)
theorem LogS.lt {σ : Sto} {lg lid mid : Nat} {v : DVal} {M : LogV} (h : LogS σ lg lid mid v M) {i : Nat} (hi : touch lg lid mid v i) : i < σ.nobj := by
  obtain ⟨L, a, -⟩ := h
  rcases hi with rfl | rfl | rfl | ⟨sz, off, len, cap, rfl⟩
  · exact a.lgl
  · exact a.lim.lidl
  · exact a.lim.midl
  · rcases a.recs with ⟨hh, -⟩ | ⟨aid, pre, cap', x1, x2, -⟩
    · cases hh
    · simp only [DVal.mslice.injEq] at x1
      omega
def Apart (lg lid mid : Nat) (v : DVal) (lg' lid' mid' : Nat) (v' : DVal) : Prop := ∀ i, touch lg lid mid v i → ¬ touch lg' lid' mid' v' i
theorem Apart.symm {lg lid mid lg' lid' mid' : Nat} {v v' : DVal} (h : Apart lg lid mid v lg' lid' mid' v') : Apart lg' lid' mid' v' lg lid mid v := fun i h1 h2 => h i h2 h1
theorem LogS.apart {σ σ' : Sto} {lg lid mid lg' lid' mid' : Nat} {v v' : DVal} {M : LogV} (h : LogS σ lg' lid' mid' v' M) (ha : Apart lg lid mid v lg' lid' mid' v') (k : KeepO σ σ' (touch lg lid mid v)) : LogS σ' lg' lid' mid' v' M :=
  h.keep k (fun h => ha _ h (.inl rfl)) (fun h => ha _ h (.inr (.inl rfl))) (fun h => ha _ h (.inr (.inr (.inl rfl)))) (fun i h1 h2 => ha i h2 (.inr (.inr (.inr h1))))
theorem keys_allow {L : LimV} (h : Keys1 L.bk) (k : Bs) (t : Int) : Keys1 (allowV L k t).1.bk := by
  unfold allowV
  (repeat' split) <;> exact keys_setB h _ _
theorem keys_add {M : LogV} (h : Keys1 M.lim.bk) (r : RecV) : Keys1 (addV M r).1.lim.bk := by
  have := keys_allow h (nameV r) r.time
  unfold addV pushV
  split
  · split
    · split
      · exact this
      · split <;> exact this
    · exact this
  · exact h
def isClear (o : OpV) : Prop := (o.kind : Int).tmod 2 = 1
instance (o : OpV) : Decidable (isClear o) := inferInstanceAs (Decidable (_ = _))
def playV (M : LogV) : List OpV → LogV
  | [] => M
  | o :: l => playV (if isClear o then { M with recs := [] } else (addV M o.r).1) l
theorem l19 {n : Nat} (hn : 3000000 ≤ n) (z : Zs) (ops : List OpV) (hl : ops.length ≤ 40) (hs : ∀ o ∈ ops, SmallR o.r) {lg lid mid : Nat} {σ0 : Sto} {v0 : DVal} (base : Nat) (hbase : base ≤ 900) : ∀ (k i m : Nat) (σ : Sto) (v : DVal) (M : LogV), ops.length = i + k → k < m → LogS σ lg lid mid v M → Few M (base + i) → Keys1 M.lim.bk → KeepO σ0 σ (touch lg lid mid v0) → (∀ j, arr v j → arr v0 j ∨ σ0.nobj ≤ j) →
    ∃ τ v', iterJ 0 (L19_0 (cpJ PR n) (ciJ PR n) n (.obj lg 0) (opsD z ops)) m [.int .i64 i] σ = some (.done (.tup []) τ) ∧ LogS τ lg lid mid v' (playV M (ops.drop i)) ∧ Few (playV M (ops.drop i)) (base + ops.length) ∧ Keys1 (playV M (ops.drop i)).lim.bk ∧ KeepO σ0 τ (touch lg lid mid v0) ∧ ∀ j, arr v' j → arr v0 j ∨ σ0.nobj ≤ j := by
  intro k
  have h2 := len_ops (z := z) (l := ops)
  induction k with
  | zero =>
    intro i m σ v M hi hm hL hF hK hk ha
    obtain ⟨m, rfl⟩ : ∃ q, m = q + 1 := ⟨m - 1, by omega⟩
    have hi' : ¬ ((i : Int) < ops.length) := by omega
    rw [List.drop_eq_nil_of_le (by omega)]
    refine ⟨σ, v, iterJ_done ?_, hL, by have : i = ops.length := by omega
                                        rw [← this]; exact hF, hK, hk, ha⟩
    generalize opsD z ops = X at *
    generalize (ops.length : Int) = K at *
    simp -implicitDefEqProofs [L19_0, B19_0, hi', h2]
  | succ k ih =>
    intro i m σ v M hi hm hL hF hK hk ha
    obtain ⟨m, rfl⟩ : ∃ q, m = q + 1 := ⟨m - 1, by omega⟩
    have hlt : i < ops.length := by omega
    have hltI : (i : Int) < ops.length := by omega
    obtain ⟨o, ho⟩ := get_some hlt
    have hw : IntKind.i64.wrap ((i : Int) + 1) = ((i + 1 : Nat) : Int) := wrap_succ (by omega)
    have g1 := idx_ops (z := z) ho
    have hsm := hs o (List.mem_of_getElem? ho)
    obtain ⟨f1, f2⟩ := small_fit hsm
    rw [drop_get ho, playV]
    rcases mod_cases o.kind with ⟨hc, hc'⟩ | ⟨hc, hc'⟩
    · rw [if_pos (show isClear o from hc')]
      obtain ⟨u2, σ2, b1, b2, b3, b4⟩ := e21s hL (n := n) (by omega)
      have k2 : KeepO σ0 σ2 (touch lg lid mid v0) := ⟨by rw [b3]; exact hk.nobj, fun j hj hn => by rw [b4 j (fun e => hn (.inl e))]; exact hk.obj j hj hn⟩
      obtain ⟨τ, v', r1, r2⟩ := ih (i + 1) m σ2 .nils _ (by omega) (by omega) b2 hF.clear hK k2 (fun j h => by obtain ⟨_, _, _, _, h⟩ := h; cases h)
      refine ⟨τ, v', ?_, r2⟩
      rw [← r1]
      refine iterJ_next' ?_
      clear ih r1
      generalize opsD z ops = X at *
      generalize (ops.length : Int) = K at *
      simp -implicitDefEqProofs [L19_0, B19_0, hltI, h2, g1, hc, hc', b1, hw, -jwrSem.eq_1, -fldSem.eq_1]
    · rw [if_neg (show ¬ isClear o from hc')]
      obtain ⟨σ1, v1, b1, b2, b3, b4⟩ := e23s hL (n := n) (by omega) o.r f1 (by omega) (hF.room (by omega))
      have k2 : KeepO σ0 σ1 (touch lg lid mid v0) := ⟨Nat.le_trans hk.nobj b3.nobj, fun j hj hn => by
        rw [b3.obj j (Nat.lt_of_lt_of_le hj hk.nobj) (fun h => ?_)]
        · exact hk.obj j hj hn
        · rcases h with h | h | h | h
          · exact hn (.inl h)
          · exact hn (.inr (.inl h))
          · exact hn (.inr (.inr (.inl h)))
          · rcases ha j h with h | h
            · exact hn (.inr (.inr (.inr h)))
            · omega⟩
      obtain ⟨τ, v', r1, r2⟩ := ih (i + 1) m σ1 v1 _ (by omega) (by omega) b2 (hF.add (by have := hsm.few; omega)) (keys_add hK o.r) k2 (fun j h => by
        rcases b4 j h with h | h
        · exact ha j h
        · have := hk.nobj; exact .inr (by omega))
      refine ⟨τ, v', ?_, r2⟩
      rw [← r1]
      refine iterJ_next' ?_
      clear ih r1
      generalize (addV M o.r).2 = added at *
      generalize opsD z ops = X at *
      generalize (ops.length : Int) = K at *
      simp -implicitDefEqProofs [L19_0, B19_0, hltI, h2, g1, hc, hc', b1, hw, -jwrSem.eq_1, -fldSem.eq_1]
theorem e19 {n : Nat} (hn : 3000001 ≤ n) (z : Zs) (ops : List OpV) (hl : ops.length ≤ 40) (hs : ∀ o ∈ ops, SmallR o.r) {σ : Sto} {lg lid mid : Nat} {v : DVal} {M : LogV} {b : Nat} (hb : b ≤ 900) (h : LogS σ lg lid mid v M) (hF : Few M b) (hK : Keys1 M.lim.bk) :
    ∃ τ v', ciJ PR n 19 [.obj lg 0, opsD z ops] σ = some (.tup [], τ) ∧ LogS τ lg lid mid v' (playV M ops) ∧ Few (playV M ops) (b + ops.length) ∧ Keys1 (playV M ops).lim.bk ∧ KeepO σ τ (touch lg lid mid v) ∧ ∀ j, arr v' j → arr v j ∨ σ.nobj ≤ j := by
  obtain ⟨n, rfl⟩ : ∃ m, n = m + 1 := ⟨n - 1, by omega⟩
  obtain ⟨τ, v', r1, r2⟩ := l19 (n := n) (by omega) z ops hl hs b hb ops.length 0 n σ v M (by omega) (by omega) h (by simpa using hF) hK (.refl _ _) (fun j h => .inl h)
  simp only [Int.natCast_zero, List.drop_zero] at r1 r2
  refine ⟨τ, v', ?_, r2⟩
  rw [v19]
  generalize opsD z ops = X at *
  simp -implicitDefEqProofs [D19, r1]
theorem MR.keep {σ τ τ' : Sto} {u : DVal} {c : List RecV} (h : MR σ τ u c) (k : KeepO τ τ' (fun _ => False)) : MR σ τ' u c := by
  rcases h with h | ⟨id, h1, h2, h3, h4⟩
  · exact .inl h
  · exact .inr ⟨id, h1, h2, h3, ⟨Nat.lt_of_lt_of_le h4.lt k.nobj, by rw [k.obj _ h4.lt (fun h => h)]; exact h4.obj⟩⟩
theorem MR.snap {σ τ : Sto} {u : DVal} {c : List RecV} (h : MR σ τ u c) : ∃ z, u.snapVal τ = some (slD z 9 (recRows c)) := by
  rcases h with ⟨rfl, rfl⟩ | ⟨id, h1, rfl, h3, h4⟩
  · exact ⟨.nil, rfl⟩
  · refine ⟨.full, ?_⟩
    show (snapM τ 9 id 0 c.length).map _ = _
    rw [h4.snap]
    cases c with
    | nil => exact absurd rfl h3
    | cons x l => rfl
theorem e21 {n : Nat} (hn : 2000000 ≤ n) {σ : Sto} {lg lid mid lg' lid' mid' : Nat} {v v' : DVal} {A B : LogV} (hA : LogS σ lg lid mid v A) (hB : LogS σ lg' lid' mid' v' B) (rA : Room A) (rB : Room B) (e : A = B) :
    ∃ τ, ciJ PR n 21 [.obj lg 0, .obj lg' 0] σ = some (.bool true, τ) ∧ KeepO σ τ (fun _ => False) := by
  obtain ⟨n, rfl⟩ : ∃ m, n = m + 1 := ⟨n - 1, by omega⟩
  subst e
  have h1 := e28s hA (n := n) (by omega)
  have h2 := e28s hB (n := n) (by omega)
  obtain ⟨u, σ1, c, a1, a2, a3, a4, -⟩ := e27s hA (n := n) (by omega) rA
  obtain ⟨u', σ2, c', b1, b2, b3, b4, -⟩ := e27s (hB.keep0 a2) (n := n) (by omega) rA
  obtain ⟨z, s1⟩ := (a3.keep b2).snap
  obtain ⟨z', s2⟩ := b3.snap
  have few := rA.recs
  have hlen : c.length = A.recs.length := by have := congrArg List.length a4; simpa using this
  have hp : ∀ x ∈ c, x.perms.l.length < 1000000 := strip_mem a4 (P := fun y => y.perms.l.length < 1000000) (fun p q e hx => by
    have : p.perms.l = q.perms.l := by
      have := congrArg (fun r : RecV => r.perms.l) e
      exact this
    rw [← this]; exact hx) rA.perms
  have h17 := e17 (n := n) z z' c c' (by omega) hp (by omega)
  rw [eqL_iff.1 (a4.trans b4.symm)] at h17
  have h17 : cpJ PR n 17 [slD z 9 (recRows c), slD z' 9 (recRows c')] = some (.bool true) := h17
  have hcs : callSSem (cpJ PR n) 17 σ2 [u, u'] = some (.bool true, σ2) := by
    simp only [callSSem, snapVals, s1, s2, Option.bind_some, h17]
    rfl
  refine ⟨σ2, ?_, a2.trans0 b2⟩
  rw [v21]
  simp -implicitDefEqProofs [D21, h1, h2, a1, b1, hcs]
theorem e20 {n : Nat} (hn : 3000000 ≤ n) {σ : Sto} {lg lid mid : Nat} {v : DVal} {M : LogV} (h : LogS σ lg lid mid v M) (hM : Room M) (hK : Keys1 M.lim.bk) :
    ∃ τ cg cl cm cv, ciJ PR n 20 [.obj lg 0] σ = some (.obj cg 0, τ) ∧ LogS τ cg cl cm cv M ∧ KeepO σ τ (fun _ => False) ∧ ∀ i, touch cg cl cm cv i → σ.nobj ≤ i := by
  obtain ⟨n, rfl⟩ : ∃ m, n = m + 1 := ⟨n - 1, by omega⟩
  obtain ⟨L, a, e⟩ := h
  have h27 := e27 a (n := n) (by omega)
  have ld5 : ldOSem σ (some 5) [.obj lg 0] = some (.agg [.int .i64 L.size, v, .int .i64 L.dropped, .int .i64 L.removed, .obj lid 0], σ) := by rw [ld_obj _ a.obj a.lgl]; rfl
  have hlg := a.lgl
  have hli := a.lim.lidl
  have hvc := a.recs.cells
  have hvo := a.recs.okCell
  -- the copy
  obtain ⟨σ1, e1⟩ : ∃ τ, τ = σ.new (.agg [.int .i64 0, .nils, .int .i64 0, .int .i64 0, .nilp]) := ⟨_, rfl⟩
  have hal : allocOSem σ [.int .i64 0, .nils, .int .i64 0, .int .i64 0, .nilp] [] = some (.obj σ.nobj 0, σ1) := by rw [e1]; rfl
  have n1 : σ1.nobj = σ.nobj + 1 := by rw [e1]; rfl
  have c1 : σ1.obj σ.nobj = .agg [.int .i64 0, .nils, .int .i64 0, .int .i64 0, .nilp] := by rw [e1]; simp
  obtain ⟨σ2, e2⟩ : ∃ τ, τ = σ1.put σ.nobj (.agg [.int .i64 L.size, v, .int .i64 L.dropped, .int .i64 L.removed, .obj lid 0]) := ⟨_, rfl⟩
  have hs1 : stOSem σ1 5 [.obj σ.nobj 0, .agg [.int .i64 L.size, v, .int .i64 L.dropped, .int .i64 L.removed, .obj lid 0]] = some (.undef, σ2) := by
    rw [st_obj (k := 5) c1 (by omega) rfl (by simp [DVal.cells, hvo]), e2]; rfl
  have n2 : σ2.nobj = σ.nobj + 1 := by rw [e2]; exact n1
  have k2 : KeepO σ σ2 (fun _ => False) := ⟨by omega, fun i hi _ => by rw [e2, Sto.put_obj_ne (by omega), e1, Sto.new_obj_ne hi]⟩
  have h2 : LogS σ2 lg lid mid v M := LogS.keep0 ⟨L, a, e⟩ k2
  obtain ⟨u, σ3, c, a1, a2, a3, a4, h3⟩ := e27s h2 (n := n) (by omega) hM
  have n3 := a2.nobj
  have c3 : σ3.obj σ.nobj = .agg [.int .i64 L.size, v, .int .i64 L.dropped, .int .i64 L.removed, .obj lid 0] := by rw [a2.obj _ (by omega) (fun h => h), e2]; simp
  have huc : u.cells = [u] := by rcases a3 with ⟨rfl, -⟩ | ⟨id, -, rfl, -⟩ <;> rfl
  have huo : u.okCell = true := by rcases a3 with ⟨rfl, -⟩ | ⟨id, -, rfl, -⟩ <;> rfl
  obtain ⟨σ4, e4⟩ : ∃ τ, τ = σ3.put σ.nobj (.agg [.int .i64 L.size, u, .int .i64 L.dropped, .int .i64 L.removed, .obj lid 0]) := ⟨_, rfl⟩
  have hs2 : stOSem σ3 1 [.obj σ.nobj 1, u] = some (.undef, σ4) := by
    rw [st_obj (k := 1) c3 (by omega) (by rw [huc]; rfl) (by rw [huc]; simp [huo]), huc, e4]; rfl
  have n4 : σ4.nobj = σ3.nobj := by rw [e4]; rfl
  have k3 : KeepO σ σ3 (fun _ => False) := k2.trans0 a2
  have k4 : KeepO σ σ4 (fun _ => False) := ⟨by omega, fun i hi hn => by rw [e4, Sto.put_obj_ne (by omega)]; exact k3.obj i hi hn⟩
  have ld4 : ldOSem σ4 none [.obj lg 4] = some (.obj lid 0, σ4) := by
    rw [ld_obj _ ((k4.obj lg hlg (fun h => h)).trans a.obj) (by omega)]; rfl
  have lim4 : LimAt σ4 lid mid M.lim := by
    have hl := a.lim
    rw [e.lim] at hl
    have := hl.midl
    exact ⟨by omega, by omega, hl.ne, (k4.obj _ hl.lidl (fun h => h)).trans hl.obj, (k4.obj _ hl.midl (fun h => h)).trans hl.map⟩
  obtain ⟨σ5, h38, f5⟩ := e38 (n := n) (by omega) lim4 (by have := hM.bk; omega) hK
  have k5 := f5.keep
  have n5 := f5.nobj
  have c5 : σ5.obj σ.nobj = .agg [.int .i64 L.size, u, .int .i64 L.dropped, .int .i64 L.removed, .obj lid 0] := by rw [k5.obj _ (by omega) (fun h => h), e4]; simp
  obtain ⟨σ6, e6⟩ : ∃ τ, τ = σ5.put σ.nobj (.agg [.int .i64 L.size, u, .int .i64 L.dropped, .int .i64 L.removed, .obj σ4.nobj 0]) := ⟨_, rfl⟩
  have hs3 : stOSem σ5 1 [.obj σ.nobj 4, .obj σ4.nobj 0] = some (.undef, σ6) := by
    rw [st_obj (k := 1) c5 (by omega) rfl rfl, e6]; rfl
  have n6 : σ6.nobj = σ5.nobj := by rw [e6]; rfl
  have k45 := k4.trans0 k5
  have m3 : MR σ2 σ6 u c := by
    rcases a3 with h | ⟨id, x1, x2, x3, x4⟩
    · exact .inl h
    · have := x4.lt
      refine .inr ⟨id, x1, x2, x3, ⟨by omega, ?_⟩⟩
      rw [e6, Sto.put_obj_ne (by omega), k5.obj _ (by omega) (fun h => h), e4, Sto.put_obj_ne (by omega)]
      exact x4.obj
  refine ⟨σ6, σ.nobj, σ4.nobj, σ4.nobj + 1, u, ?_, ⟨{ M with recs := c, size := L.size, dropped := L.dropped, removed := L.removed }, ⟨by omega, by omega, by omega, by rw [e6]; simp, ?_, ?_, a.size⟩, ⟨e.size, e.dropped, e.removed, a4, rfl⟩⟩, ⟨by omega, fun i hi hn => ?_⟩, fun i hi => ?_⟩
  · rw [v20]
    simp -implicitDefEqProofs [D20, h27, ld5, hal, hs1, a1, hs2, ld4, h38, hs3]
  · have := f5.lim
    exact ⟨by omega, by omega, by omega, by rw [e6, Sto.put_obj_ne (by omega)]; exact this.obj, by rw [e6, Sto.put_obj_ne (by omega)]; exact this.map⟩
  · rcases m3 with h | ⟨id, x1, x2, x3, x4⟩
    · exact .inl h
    · have hlt : id < σ3.nobj := by
        rcases a3 with ⟨h, -⟩ | ⟨id', y1, y2, y3, y4⟩
        · rw [h] at x2; cases x2
        · rw [y2] at x2
          simp only [DVal.mslice.injEq] at x2
          have := y4.lt
          omega
      exact .inr ⟨id, [], none, by rw [x2]; rfl, x4.lt, by omega, by omega, by omega, x3, x4.obj⟩
  · rw [e6, Sto.put_obj_ne (by omega)]
    exact k45.obj i hi hn
  · rcases hi with rfl | rfl | rfl | ⟨sz, off, len, cap, hu⟩
    · omega
    · omega
    · omega
    · rcases a3 with ⟨h, -⟩ | ⟨id', y1, y2, y3, y4⟩
      · rw [h] at hu; cases hu
      · rw [y2] at hu
        simp only [DVal.mslice.injEq] at hu
        omega
theorem apart_new {σ : Sto} {lg lid mid cg cl cm : Nat} {v cv : DVal} {M : LogV} (h : LogS σ lg lid mid v M) (hc : ∀ i, touch cg cl cm cv i → σ.nobj ≤ i) : Apart lg lid mid v cg cl cm cv := fun i h1 h2 => by
  have := h.lt h1
  have := hc i h2
  omega
theorem apart_step {σ : Sto} {lg lid mid lg' lid' mid' : Nat} {v v1 v' : DVal} {M : LogV} (h : LogS σ lg' lid' mid' v' M) (ha : Apart lg lid mid v lg' lid' mid' v') (hv : ∀ j, arr v1 j → arr v j ∨ σ.nobj ≤ j) : Apart lg lid mid v1 lg' lid' mid' v' := fun i h1 h2 => by
  rcases h1 with h1 | h1 | h1 | h1
  · exact ha i (.inl h1) h2
  · exact ha i (.inr (.inl h1)) h2
  · exact ha i (.inr (.inr (.inl h1))) h2
  · rcases hv i h1 with h1 | h1
    · exact ha i (.inr (.inr (.inr h1))) h2
    · have := h.lt h2
      omega
theorem e5 {n : Nat} (hn : 1000000000010 ≤ n) (x : SetgV) (z z' : Zs) (ops more : List OpV) : cpJ PR n 5 [x.d, opsD z ops, opsD z' more] = some (.bool true) := by
  obtain ⟨n, rfl⟩ : ∃ m, n = m + 1 := ⟨n - 1, by omega⟩
  have h7 := e7 (n := n) (by omega) z ops
  have h7' := e7 (n := n) (by omega) z' more
  have h8 := e8 (n := n) (by omega) x
  have h9 := e9 (n := n) (by omega)
  have hseal : (opsD z ops).sealVal = some (opsD z ops) := sealVal_slD
  have hseal' : (opsD z' more).sealVal = some (opsD z' more) := sealVal_slD
  have hov : (opsD z ops).okVal = true := okVal_slD
  have hov' : (opsD z' more).okVal = true := okVal_slD
  rw [u5]
  cases hsm : smallOps ops with
  | false =>
    rw [hsm] at h7
    generalize opsD z ops = X at *
    generalize opsD z' more = Y at *
    simp -implicitDefEqProofs [D5, h7, h9, hseal, hseal', -jwrSem.eq_1, -fldSem.eq_1]
  | true =>
  rw [hsm] at h7
  cases hsm' : smallOps more with
  | false =>
    rw [hsm'] at h7'
    generalize opsD z ops = X at *
    generalize opsD z' more = Y at *
    simp -implicitDefEqProofs [D5, h7, h7', h9, hseal, hseal', -jwrSem.eq_1, -fldSem.eq_1]
  | true =>
  rw [hsm'] at h7'
  cases hok : newOk x.size x.burst x.interval with
  | false =>
    rw [hok] at h8
    generalize opsD z ops = X at *
    generalize opsD z' more = Y at *
    simp -implicitDefEqProofs [D5, h7, h7', h8, h9, hseal, hseal', -jwrSem.eq_1, -fldSem.eq_1]
  | true =>
  rw [hok] at h8
  obtain ⟨s1, s2⟩ := small_ops hsm
  obtain ⟨t1, t2⟩ := small_ops hsm'
  obtain ⟨σ1, a1, a2, a3, -⟩ := log_new (n := n) (by omega) hok
  have hK0 : Keys1 (⟨x.size, 0, 0, [], limNew x.burst x.interval⟩ : LogV).lim.bk := by simp [Keys1, limNew]
  obtain ⟨-, σ2, b1, b2, k12⟩ | ⟨bad, -⟩ := e10 (n := n) (by omega) σ1 x.size x.burst x.interval
  rotate_left
  · rw [hok] at bad; cases bad
  have hB : LogS σ2 (σ1.nobj + 2) (σ1.nobj + 1) σ1.nobj .nils ⟨x.size, 0, 0, [], limNew x.burst x.interval⟩ := ⟨_, b2, .refl _⟩
  have hA := a2.keep0 k12
  generalize (⟨x.size, 0, 0, [], limNew x.burst x.interval⟩ : LogV) = M0 at *
  have apAB : Apart 2 1 0 .nils (σ1.nobj + 2) (σ1.nobj + 1) σ1.nobj .nils := apart_new a2 (fun i hi => by
    rcases hi with rfl | rfl | rfl | ⟨_, _, _, _, h⟩
    · omega
    · omega
    · omega
    · cases h)
  generalize hbg : σ1.nobj + 2 = bg at *
  generalize hbl : σ1.nobj + 1 = bl at *
  generalize hbm : σ1.nobj = bm at *
  -- both play
  obtain ⟨σ3, vA, c1, A3, F3, lk3, k23, w3⟩ := e19 (n := n) (by omega) z ops s1 s2 (b := 0) (by omega) hA a3 hK0
  have lb3 := hB.apart apAB k23
  have ap3 := apart_step hB apAB w3
  obtain ⟨σ4, vB, c2, lb4, F4, lk4, k34, w4⟩ := e19 (n := n) (by omega) z ops s1 s2 (b := 0) (by omega) lb3 a3 hK0
  have A4 := A3.apart ap3.symm k34
  have ap4 := (apart_step A3 ap3.symm w4).symm
  -- the copy
  have hR : Room (playV M0 ops) := F3.room (by omega)
  obtain ⟨σ5, cg, cl, cm, cv, d1, C5, k45, dC⟩ := e20 (n := n) (by omega) A4 hR lk3
  have A5 := A4.keep0 k45
  have lb5 := lb4.keep0 k45
  have apAC := apart_new A4 dC
  have apBC := apart_new lb4 dC
  obtain ⟨σ6, vC, g1, C6, F6, lk6, k56, w6⟩ := e19 (n := n) (by omega) z' more t1 t2 (b := 0 + ops.length) (by omega) C5 F3 lk3
  have A6 := A5.apart apAC.symm k56
  have lb6 := lb5.apart apBC.symm k56
  have apCA6 := apart_step A5 apAC.symm w6
  obtain ⟨σ7, g2, k67⟩ := e21 (n := n) (by omega) A6 lb6 hR hR rfl
  have A7 := A6.keep0 k67
  have C7 := C6.keep0 k67
  obtain ⟨σ8, vA8, g3, A8, F8, lk8, k78, w8⟩ := e19 (n := n) (by omega) z' more t1 t2 (b := 0 + ops.length) (by omega) A7 F3 lk3
  have C8 := C7.apart apCA6.symm k78
  have hR8 : Room (playV (playV M0 ops) more) := F8.room (by omega)
  obtain ⟨σ9, g4, -⟩ := e21 (n := n) (by omega) A8 C8 hR8 hR8 rfl
  generalize opsD z ops = X at *
  generalize opsD z' more = Y at *
  simp -implicitDefEqProofs [D5, h7, h7', h8, h9, hseal, hseal', hov, hov', a1, b1, c1, c2, d1, g1, g2, g3, g4, -jwrSem.eq_1, -fldSem.eq_1]
end Go.Proofs.YtagkgekpfgepoaaDoor
