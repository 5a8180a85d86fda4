/- Operations that only compute: from the small language's result to the model's run. -/
import Derived.Test.YtdnoonnanhnkaaaDoorSimEq
import Derived.WalkSpells
set_option linter.unusedVariables false
set_option linter.unusedSimpArgs false
namespace Go.Proofs.YtdnoonnanhnkaaaDoor
open Go

/-- What an operation may hand back: the result reads as d, the roots hold L', the store σ'. -/
def Res (V : Vw) (w : World) (L' : Nat → Nat × DVal) (σ' : Sto) (d : DVal) (v : Value) (w' : World) : Prop :=
  ∃ V', Adv V w V' w' ∧ Inv V' L' σ' w' ∧ VRel V' w' 0 d v

def OpWp (P : Program) (o : Oper) (a : Act) (w : World) (R : Value → World → Prop) : Prop :=
  ∀ (next : Act → World → Prop) (Q : Exit → Act → World → Prop), (∀ v w', R v w' → next (a.put o.dst v) w') → o.wp P a w next Q

section
variable {P : Program} {o : Oper} {a : Act} {w w' : World} {R : Value → World → Prop}

theorem OpWp.value {v : Value} (h : (execOp a.eval o).run P w = .ok (.value v) w') (hR : R v w') : OpWp P o a w R := fun next Q hn => by
  unfold Oper.wp
  rw [h]
  exact hn v w' hR

theorem OpWp.skip (h : (execOp a.eval o).run P w = .ok .skip w') (hR : R Go.undef w') : OpWp P o a w R := fun next Q hn => by
  unfold Oper.wp
  rw [h]
  exact hn _ w' hR

theorem OpWp.call {f : FuncId} {args : Array Value} (h : (execOp a.eval o).run P w = .ok (.enter f args) w)
    (hc : Calls P f args w fun e w' => ∃ v, e = .returned v ∧ R v w') : OpWp P o a w R := fun next Q hn => by
  unfold Oper.wp
  rw [h, Oper.upon_enter]
  refine hc.mono ?_
  rintro e w' ⟨v, rfl, hR⟩
  exact hn v w' hR

theorem OpWp.mono {R' : Value → World → Prop} (h : OpWp P o a w R) (hR : ∀ v w', R v w' → R' v w') : OpWp P o a w R' :=
  fun next Q hn => h next Q fun v w' hv => hn v w' (hR v w' hv)
end

section
variable {V : Vw} {w : World} {L : Nat → Nat × DVal} {σ : Sto} {d : DVal} {v : Value}
theorem Res.same (hi : Inv V L σ w) (h : VRel V w 0 d v) : Res V w L σ d v w := ⟨V, .refl V w, hi, h⟩
end

theorem VRels.one {V : Vw} {w : World} {cl : Nat} {x : DVal} {vs : List Value} (h : VRels V w cl [x] vs) : ∃ v, vs = [v] ∧ VRel V w cl x v := by
  simp only [VRels] at h
  obtain ⟨v, us, rfl, h1, rfl⟩ := h
  exact ⟨v, rfl, h1⟩
theorem VRels.two {V : Vw} {w : World} {cl : Nat} {x y : DVal} {vs : List Value} (h : VRels V w cl [x, y] vs) : ∃ v u, vs = [v, u] ∧ VRel V w cl x v ∧ VRel V w cl y u := by
  simp only [VRels] at h
  obtain ⟨v, us, rfl, h1, u, _, rfl, h2, rfl⟩ := h
  exact ⟨v, u, rfl, h1, h2⟩
theorem VRels.three {V : Vw} {w : World} {cl : Nat} {x y z : DVal} {vs : List Value} (h : VRels V w cl [x, y, z] vs) : ∃ v u t, vs = [v, u, t] ∧ VRel V w cl x v ∧ VRel V w cl y u ∧ VRel V w cl z t := by
  simp only [VRels] at h
  obtain ⟨v, us, rfl, h1, u, _, rfl, h2, t, _, rfl, h3, rfl⟩ := h
  exact ⟨v, u, t, rfl, h1, h2, h3⟩

/-- What the operands are: a list of values that reads as the small language's. -/
theorem one_inv {x : Operand} {f iop : IOp} {xs : List Opd} (h : one x f = some (iop, xs)) : ∃ q, opd x = some q ∧ iop = f ∧ xs = [q] := by
  simp only [one, Option.map_eq_some_iff, Prod.mk.injEq] at h
  obtain ⟨q, h1, h2, h3⟩ := h
  exact ⟨q, h1, h2.symm, h3.symm⟩
theorem two_inv {x y : Operand} {f iop : IOp} {xs : List Opd} (h : two x y f = some (iop, xs)) : ∃ p q, opd x = some p ∧ opd y = some q ∧ iop = f ∧ xs = [p, q] := by
  unfold two at h
  split at h
  · rename_i p q h1 h2
    simp only [Option.some.injEq, Prod.mk.injEq] at h
    exact ⟨p, q, h1, h2, h.1.symm, h.2.symm⟩
  · cases h

/-- Reading cells. -/
theorem readCells_agg {V : Vw} {w : World} {cl : Nat} {cs : List DVal} {vs : List Value} (h : VRels V w cl cs vs) {off n : Nat} {d : DVal} (hr : readCells cs off (some n) = some d) :
    off + n ≤ vs.length ∧ VRel V w cl d (.agg ((vs.drop off).take n).toArray) := by
  simp only [readCells] at hr
  split at hr
  · rename_i hl
    simp only [Option.some.injEq] at hr
    subst hr
    simp only [VRel]
    exact ⟨by rw [h.length]; exact hl, _, rfl, by simpa using (h.drop off).take n⟩
  · cases hr
theorem readCells_one {V : Vw} {w : World} {cl : Nat} {cs : List DVal} {vs : List Value} (h : VRels V w cl cs vs) {off : Nat} {d : DVal} (hr : readCells cs off none = some d) :
    ∃ v, vs[off]? = some v ∧ VRel V w cl d v := h.get hr

theorem RowRel.get {V : Vw} {w : World} {cl : Nat} {b : Nat} : ∀ {cs : List DVal} {off : Nat}, RowRel V w cl b off cs → ∀ {i : Nat} {d : DVal}, cs[i]? = some d → V.imm b (off + i) ∧ ∃ v, w.cell? ⟨b, off + i, none⟩ = some v ∧ VRel V w cl d v
  | [], _, _, i, d, hd => by simp at hd
  | c :: cs, off, h, i, d, hd => by
    simp only [RowRel] at h
    obtain ⟨h1, ⟨v, h2, -, h4⟩, h3⟩ := h
    cases i with
    | zero => simp at hd; subst hd; exact ⟨h1, v, h2, h4⟩
    | succ i =>
      have := RowRel.get h3 (i := i) (by simpa using hd)
      rw [show off + 1 + i = off + (i + 1) by omega] at this
      exact this

/-- The cells of a row, as values. -/
theorem RowRel.vals {V : Vw} {w : World} {cl : Nat} {b : Nat} : ∀ {cs : List DVal} {off : Nat}, RowRel V w cl b off cs → ∃ vs : List Value, VRels V w cl cs vs ∧ ∀ i v, vs[i]? = some v → w.cell? ⟨b, off + i, none⟩ = some v ∧ v.oneCell' = true
  | [], off, _ => ⟨[], by simp [VRels], fun i v h => by simp at h⟩
  | c :: cs, off, h => by
    simp only [RowRel] at h
    obtain ⟨h1, ⟨v, h2, h0, h3⟩, h4⟩ := h
    obtain ⟨vs, h5, h6⟩ := RowRel.vals h4
    refine ⟨v :: vs, by simp only [VRels]; exact ⟨v, vs, rfl, h3, h5⟩, fun i u hu => ?_⟩
    cases i with
    | zero => simp at hu; subst hu; exact ⟨h2, h0⟩
    | succ i =>
      have := h6 i u (by simpa using hu)
      rw [show off + 1 + i = off + (i + 1) by omega] at this
      exact this

theorem RowsRel.get {V : Vw} {w : World} {cl : Nat} {b sz : Nat} : ∀ {es : List (List DVal)} {off : Nat}, RowsRel V w cl b sz off es → ∀ {i : Nat} {e : List DVal}, es[i]? = some e → e.length = sz ∧ RowRel V w cl b (off + i * sz) e
  | [], _, _, i, e, he => by simp at he
  | f :: es, off, h, i, e, he => by
    simp only [RowsRel] at h
    obtain ⟨h1, h2, h3⟩ := h
    cases i with
    | zero => simp at he; subst he; exact ⟨h1, by simpa using h2⟩
    | succ i =>
      have := RowsRel.get h3 (i := i) (by simpa using he)
      rw [show off + sz + i * sz = off + (i + 1) * sz by rw [Nat.add_mul]; omega] at this
      exact this

/-- The address of a cell. -/
theorem add_mk (b o n : Nat) : (⟨b, o, none⟩ : Addr).add n = ⟨b, o + n, none⟩ := by
  unfold Addr.add; split <;> simp_all

theorem shift_rel {V : Vw} {w : World} {x y : DVal} {v : Value} {n : Nat} (h : VRel V w 0 x v) (hs : x.shift n = some y) :
    ∃ b o, v = .pointer (some ⟨b, o, none⟩) ∧ VRel V w 0 y (.pointer (some ⟨b, o + n, none⟩)) ∨ ∃ A, v = .pointer (some A) ∧ VRel V w 0 y (.pointer (some (A.add n))) := by
  cases x <;> simp only [DVal.shift, Option.some.injEq, reduceCtorEq] at hs <;> subst hs
  · rename_i r ep off
    simp only [VRel] at h
    obtain ⟨-, h0, h1, A, rfl, h2⟩ := h
    refine ⟨0, 0, .inr ⟨A, rfl, ?_⟩⟩
    simp only [VRel]
    refine ⟨trivial, h0, h1, _, rfl, fun e => ?_⟩
    rw [h2 e, add_mk]
  · rename_i id off
    simp only [VRel] at h
    obtain ⟨-, h1, rfl⟩ := h
    refine ⟨0, 0, .inr ⟨_, rfl, ?_⟩⟩
    simp only [VRel]
    exact ⟨by omega, h1, by rw [add_mk]⟩
  · rename_i cs off
    simp only [VRel] at h
    obtain ⟨-, b, o, rfl, h1⟩ := h
    refine ⟨0, 0, .inr ⟨_, rfl, ?_⟩⟩
    simp only [VRel]
    exact ⟨trivial, b, o, by rw [add_mk, Nat.add_assoc], h1⟩

theorem shift_rel' {V : Vw} {w : World} {x y : DVal} {v : Value} {n : Nat} (h : VRel V w 0 x v) (hs : x.shift n = some y) :
    ∃ A, v = .pointer (some A) ∧ VRel V w 0 y (.pointer (some (A.add n))) := by
  rcases shift_rel h hs with ⟨b, o, ⟨rfl, h2⟩ | h2⟩
  · exact ⟨_, rfl, by rw [add_mk]; exact h2⟩
  · exact h2

section
variable {P : Program} {h : Hint} {V : Vw} {w : World} {L : Nat → Nat × DVal} {σ : Sto} {env : Nat → DVal} {a : Act} {d : DVal} {o : Oper}

theorem mv_sound (hi : Inv V L σ w) (he : EnvRel V w env a.tmps) {x : Operand} {q : Opd} (ho : o.op = .move x ∨ o.op = .assign x) (hq : opd x = some q) (hs : mvSem [q.val env] = some d) : OpWp P o a w (Res V w L σ d) := by
  simp only [mvSem, Option.some.injEq] at hs
  subst hs
  refine OpWp.value (v := a.eval x) (w' := w) ?_ (Res.same hi (opd_rel he hq))
  rcases ho with ho | ho <;> simp [execOp, ho]

theorem pick_sound (hi : Inv V L σ w) (he : EnvRel V w env a.tmps) {c x y : Operand} {qs : List Opd} (ho : o.op = .pick c x y) (hq : opds [c, x, y] = some qs) (hs : pickSem (qs.map (Opd.val env)) = some d) : OpWp P o a w (Res V w L σ d) := by
  have hr := opds_rel (a := a) he hq
  generalize qs.map (Opd.val env) = ds at hr hs
  unfold pickSem at hs
  split at hs
  · rename_i b x' y'
    simp only [Option.some.injEq] at hs
    subst hs
    obtain ⟨v, u, t, hv, h1, h2, h3⟩ := hr.three
    simp only [List.map_cons, List.map_nil, List.cons.injEq, and_true] at hv
    obtain ⟨e1, e2, e3⟩ := hv
    simp only [VRel] at h1
    refine OpWp.value (v := if b then u else t) (w' := w) ?_ (Res.same hi (by cases b <;> simpa))
    simp [execOp, ho, e1, e2, e3, h1, asBool]
  · cases hs

theorem bin_sound (hi : Inv V L σ w) (he : EnvRel V w env a.tmps) {op : BinOp} {t ty : TypeId} {x y : Operand} {p q : Opd} (ho : o.op = .binOp op t x y ty) (hp : opd x = some p) (hq : opd y = some q)
    (hs : bin2Sem op [p.val env, q.val env] = some d) : OpWp P o a w (Res V w L σ d) := by
  have h1 := opd_rel (a := a) he hp
  have h2 := opd_rel (a := a) he hq
  simp only [bin2Sem] at hs
  obtain ⟨r1, r2⟩ := binSem_run (P := P) t x y h1 h2 hs
  refine OpWp.value (v := toV d) (w' := w) ?_ (Res.same hi r2)
  simp only [execOp, ho, Sem.run_bind] at r1 ⊢
  rw [r1]
  simp

theorem eqb_sound (hi : Inv V L σ w) (he : EnvRel V w env a.tmps) {op : BinOp} {t ty : TypeId} {x y : Operand} {p q : Opd} (ho : o.op = .binOp op t x y ty) (hp : opd x = some p) (hq : opd y = some q)
    (ht : P.underlying t = some .bool) (hop : op = .eql ∨ op = .neq) (hs : eqbSem (isNeq op) [p.val env, q.val env] = some d) : OpWp P o a w (Res V w L σ d) := by
  have h1 := opd_rel (a := a) he hp
  have h2 := opd_rel (a := a) he hq
  generalize p.val env = x' at h1 hs
  generalize q.val env = y' at h2 hs
  unfold eqbSem at hs
  split at hs
  · rename_i b c e
    simp only [List.cons.injEq, and_true] at e
    obtain ⟨rfl, rfl⟩ := e
    simp only [Option.some.injEq] at hs
    subst hs
    simp only [VRel] at h1 h2
    rcases hop with rfl | rfl
    · refine OpWp.value (v := .bool (b == c)) (w' := w) ?_ (Res.same hi (by simp [VRel, isNeq]))
      simp [execOp, ho, h1, h2, run_eql_bool w t b c ht, eqGuard_at_bool]
    · refine OpWp.value (v := .bool (!(b == c))) (w' := w) ?_ (Res.same hi (by simp [VRel, isNeq]))
      simp [execOp, ho, h1, h2, run_neq_bool w t b c ht, eqGuard_at_bool]
  · cases hs

theorem eqa_sound (hi : Inv V L σ w) (he : EnvRel V w env a.tmps) {op : BinOp} {t ty : TypeId} {x y : Operand} {p q : Opd} {ks : List CK} (ho : o.op = .binOp op t x y ty) (hp : opd x = some p) (hq : opd y = some q)
    (hk : eqKinds P 100 t = some ks) (hg : P.eqGuardType P.depth t = false) (hu : (∃ fs, P.underlying t = some (.struct fs)) ∨ ∃ n e, P.underlying t = some (.array n e)) (hop : op = .eql ∨ op = .neq)
    (hs : eqaSem (isNeq op) ks [p.val env, q.val env] = some d) : OpWp P o a w (Res V w L σ d) := by
  have h1 := opd_rel (a := a) he hp
  have h2 := opd_rel (a := a) he hq
  generalize p.val env = x' at h1 hs
  generalize q.val env = y' at h2 hs
  unfold eqaSem at hs
  split at hs
  · rename_i X Y e
    simp only [List.cons.injEq, and_true] at e
    obtain ⟨rfl, rfl⟩ := e
    simp only [Option.map_eq_some_iff] at hs
    obtain ⟨b, hb, rfl⟩ := hs
    obtain ⟨r1, r2⟩ := eqa_run hk hg x y h1 h2 hb hu
    rcases hop with rfl | rfl
    · refine OpWp.value (v := .bool b) (w' := w) ?_ (Res.same hi (by simp [VRel, isNeq]))
      simp only [execOp, ho, Sem.run_bind] at r1 ⊢
      rw [r1]
      simp
    · refine OpWp.value (v := .bool !b) (w' := w) ?_ (Res.same hi (by simp [VRel, isNeq]))
      simp only [execOp, ho, Sem.run_bind] at r2 ⊢
      rw [r2]
      simp
  · cases hs

theorem run_eql_func_nil {P : Program} (w : World) (t : TypeId) (ps rs : Array TypeId) (va : Bool) (f : Fn) (x c : Array Value) (h : P.underlying t = some (.func ps rs va)) :
    (binOp .eql t (.func f x c) .nilFunc).run P w = .ok (.bool false) w ∧ (binOp .neq t (.func f x c) .nilFunc).run P w = .ok (.bool true) w ∧
    (binOp .eql t .nilFunc .nilFunc).run P w = .ok (.bool true) w ∧ (binOp .neq t .nilFunc .nilFunc).run P w = .ok (.bool false) w := by
  have g1 : ∀ n, (Op.equalIn (n + 1) t (.func f x c) .nilFunc).run P w = .ok false w := fun n => by
    simp only [Op.equalIn, Sem.run_bind, run_underlying h, Result.andThen_ok, Sem.run_pure]
  have g2 : ∀ n, (Op.equalIn (n + 1) t .nilFunc .nilFunc).run P w = .ok true w := fun n => by
    simp only [Op.equalIn, Sem.run_bind, run_underlying h, Result.andThen_ok, Sem.run_pure]
  have e1 : (Op.equal t (.func f x c) .nilFunc).run P w = .ok false w := g1 9999
  have e2 : (Op.equal t .nilFunc .nilFunc).run P w = .ok true w := g2 9999
  refine ⟨?_, ?_, ?_, ?_⟩ <;> simp only [binOp, Sem.run_bind, e1, e2, Result.andThen_ok, Sem.run_pure, Bool.not_true, Bool.not_false]

theorem isnil_run {P : Program} {V : Vw} {w : World} {t : TypeId} {td : TypeDesc} {y : Operand} {k : Nat} {x : DVal} {v : Value} {b : Bool} (X : Operand) (ht : P.underlying t = some td) (hk : nilKind td y = some k)
    (hx : VRel V w 0 x v) (hb : x.isNil k = some b) (a : Act) :
    (do eqGuard .eql t X y v (a.eval y); binOp .eql t v (a.eval y) : Sem Value).run P w = .ok (.bool b) w ∧ (do eqGuard .neq t X y v (a.eval y); binOp .neq t v (a.eval y) : Sem Value).run P w = .ok (.bool !b) w := by
  unfold nilKind at hk
  split at hk <;> simp only [Option.some.injEq, reduceCtorEq] at hk <;> subst hk
  · rename_i e
    cases x <;> simp [DVal.isNil] at hb <;> subst hb <;> simp only [VRel] at hx
    · subst hx
      simp only [Act.eval, eqGuard_at_slice, Sem.run_bind, Sem.run_pure, Result.andThen_ok]
      exact ⟨by rw [Lib.run_eql_slice_nil w t e none 0 0 0 0 ht]; rfl, by rw [run_neq_slice_nil_any w t e none 0 0 0 0 ht]; rfl⟩
    · obtain ⟨-, b, off, cap, rfl, -⟩ := hx
      simp only [Act.eval, eqGuard_at_slice, Sem.run_bind, Sem.run_pure, Result.andThen_ok]
      exact ⟨by rw [Lib.run_eql_slice_nil w t e _ _ _ 0 0 ht]; rfl, by rw [run_neq_slice_nil_any w t e _ _ _ 0 0 ht]; rfl⟩
    · obtain ⟨-, -, -, rfl⟩ := hx
      simp only [Act.eval, eqGuard_at_slice, Sem.run_bind, Sem.run_pure, Result.andThen_ok]
      exact ⟨by rw [Lib.run_eql_slice_nil w t e _ _ _ 0 0 ht]; rfl, by rw [run_neq_slice_nil_any w t e _ _ _ 0 0 ht]; rfl⟩
  · rename_i e
    have hp : P.underlying t = some (.pointer (P.pointee t)) := by rw [ht]; simp [Program.pointee, ht]
    have hv : ∃ p, v = .pointer p ∧ b = p.isNone := by
      cases x <;> simp [DVal.isNil] at hb <;> subst hb <;> simp only [VRel] at hx
      · subst hx; exact ⟨none, rfl, rfl⟩
      · obtain ⟨-, -, -, A, rfl, -⟩ := hx; exact ⟨some A, rfl, rfl⟩
      · obtain ⟨-, -, rfl⟩ := hx; exact ⟨_, rfl, rfl⟩
      · obtain ⟨-, b, o, rfl, -⟩ := hx; exact ⟨_, rfl, rfl⟩
    obtain ⟨p, rfl, rfl⟩ := hv
    simp only [Act.eval, eqGuard_at_pointer, Sem.run_bind, Sem.run_pure, Result.andThen_ok]
    exact ⟨by rw [run_eql_pointer_nil w t p hp], by rw [run_neq_pointer_nil w t p hp]⟩
  · rename_i k e
    have hv : ∃ p, v = .map p ∧ b = p.isNone := by
      cases x <;> simp [DVal.isNil] at hb <;> subst hb <;> simp only [VRel] at hx
      · subst hx; exact ⟨none, rfl, rfl⟩
      · obtain ⟨-, -, rfl⟩ := hx; exact ⟨_, rfl, rfl⟩
    obtain ⟨p, rfl, rfl⟩ := hv
    simp only [Act.eval, eqGuard_at_map, Sem.run_bind, Sem.run_pure, Result.andThen_ok]
    exact ⟨by rw [run_eql_map_nil w t k e p ht], by rw [run_neq_map_nil w t k e p ht]⟩
  · rename_i ps rs va
    have hf := run_eql_func_nil (P := P) w t ps rs va (.func 0) #[] #[] ht
    cases x <;> simp [DVal.isNil] at hb <;> subst hb <;> simp only [VRel] at hx
    · subst hx
      simp only [Act.eval, eqGuard_at_nilFunc, Sem.run_bind, Sem.run_pure, Result.andThen_ok]
      exact ⟨hf.2.2.1, hf.2.2.2⟩
    · obtain ⟨-, vs, rfl, -⟩ := hx
      have hf := run_eql_func_nil (P := P) w t ps rs va (.func ‹Nat›) #[] vs ht
      simp only [Act.eval, eqGuard_at_func, Sem.run_bind, Sem.run_pure, Result.andThen_ok]
      exact ⟨hf.1, hf.2.1⟩

theorem isnil_sound (hi : Inv V L σ w) (he : EnvRel V w env a.tmps) {op : BinOp} {t ty : TypeId} {td : TypeDesc} {x y : Operand} {q : Opd} {k : Nat} (ho : o.op = .binOp op t x y ty) (hq : opd x = some q)
    (ht : P.underlying t = some td) (hk : nilKind td y = some k) (hop : op = .eql ∨ op = .neq) (hs : isnilSem k (isNeq op) [q.val env] = some d) : OpWp P o a w (Res V w L σ d) := by
  have h1 := opd_rel (a := a) he hq
  simp only [isnilSem, Option.map_eq_some_iff] at hs
  obtain ⟨b, hb, rfl⟩ := hs
  obtain ⟨r1, r2⟩ := isnil_run (P := P) x ht hk h1 hb a
  rcases hop with rfl | rfl
  · refine OpWp.value (v := .bool b) (w' := w) ?_ (Res.same hi (by simp [VRel, isNeq]))
    simp only [execOp, ho, Sem.run_bind] at r1 ⊢
    rw [r1]
    simp
  · refine OpWp.value (v := .bool !b) (w' := w) ?_ (Res.same hi (by simp [VRel, isNeq]))
    simp only [execOp, ho, Sem.run_bind] at r2 ⊢
    rw [r2]
    simp

theorem un_sound (hi : Inv V L σ w) (he : EnvRel V w env a.tmps) {op : UnOp} {t : TypeId} {x : Operand} {q : Opd} (ho : o.op = .unOp op t x) (hq : opd x = some q) (hs : unSem op [q.val env] = some d) : OpWp P o a w (Res V w L σ d) := by
  have h1 := opd_rel (a := a) he hq
  generalize q.val env = x' at h1 hs
  unfold unSem at hs
  split at hs
  · rename_i b e
    simp only [List.cons.injEq, and_true] at e
    subst e
    split at hs <;> simp only [Option.some.injEq, reduceCtorEq] at hs
    subst hs
    simp only [VRel] at h1
    refine OpWp.value (v := .bool !b) (w' := w) ?_ (Res.same hi (by simp [VRel]))
    simp [execOp, ho, h1, Op.unary]
  · rename_i k n e
    simp only [List.cons.injEq, and_true] at e
    subst e
    simp only [VRel] at h1
    split at hs <;> simp only [Option.some.injEq, reduceCtorEq] at hs <;> subst hs
    · refine OpWp.value (v := .int k (k.wrap (0 - n))) (w' := w) ?_ (Res.same hi (by simp only [VRel]))
      simp only [execOp, ho, h1, Op.unary, Op.intArith, Sem.run_bind, Sem.run_pure, Result.andThen_ok]
    · refine OpWp.value (v := .int k (intBits .xor k (if k.signed then -1 else k.max) n)) (w' := w) ?_ (Res.same hi (by simp only [VRel]))
      simp only [execOp, ho, h1, Op.unary, Op.intBits, Sem.run_bind, Sem.run_pure, Result.andThen_ok, intBits]
  · cases hs

theorem conv_sound (hi : Inv V L σ w) (he : EnvRel V w env a.tmps) {s t : TypeId} {k k' : IntKind} {x : Operand} {q : Opd} (ho : o.op = .convert s t x) (hq : opd x = some q)
    (h1 : P.underlying s = some (.int k')) (h2 : P.underlying t = some (.int k)) (hs : convSem k [q.val env] = some d) : OpWp P o a w (Res V w L σ d) := by
  have hr := opd_rel (a := a) he hq
  generalize q.val env = x' at hr hs
  unfold convSem at hs
  split at hs
  · rename_i k2 n e
    simp only [List.cons.injEq, and_true] at e
    subst e
    simp only [Option.some.injEq] at hs
    subst hs
    simp only [VRel] at hr
    refine OpWp.value (v := .int k (k.wrap n)) (w' := w) ?_ (Res.same hi (by simp only [VRel]))
    simp [execOp, ho, hr, convert, run_underlying h1, run_underlying h2, Conv.intToInt]
  · cases hs

theorem convStr_sound (hi : Inv V L σ w) (he : EnvRel V w env a.tmps) {s t : TypeId} {x : Operand} {q : Opd} (ho : o.op = .convert s t x) (hq : opd x = some q)
    (h1 : P.underlying s = some .string) (h2 : P.underlying t = some .string) (hs : convSSem [q.val env] = some d) : OpWp P o a w (Res V w L σ d) := by
  have hr := opd_rel (a := a) he hq
  generalize q.val env = x' at hr hs
  unfold convSSem at hs
  split at hs
  · rename_i l e
    simp only [List.cons.injEq, and_true] at e
    subst e
    simp only [Option.some.injEq] at hs
    subst hs
    have hr' := hr
    simp only [VRel] at hr'
    refine OpWp.value (v := a.eval x) (w' := w) ?_ (Res.same hi hr)
    simp [execOp, ho, hr', convert, run_underlying h1, run_underlying h2]
  · cases hs

theorem off_sound (hi : Inv V L σ w) (he : EnvRel V w env a.tmps) {t : TypeId} {x : Operand} {f : Nat} {q : Opd} {fl : Field} {n : Nat} (ho : o.op = .fieldAddr t x f) (hq : opd x = some q)
    (hf : compField P t f = some fl) (hz : szOf P fl.type = some (n + 1)) (hs : offSem fl.offset [q.val env] = some d) : OpWp P o a w (Res V w L σ d) := by
  have h1 := opd_rel (a := a) he hq
  simp only [offSem] at hs
  obtain ⟨A, hA, h2⟩ := shift_rel' h1 hs
  refine OpWp.value (v := .pointer (some (A.add fl.offset))) (w' := w) ?_ (Res.same hi h2)
  unfold compField at hf
  split at hf
  · rename_i fs hu
    simp [execOp, ho, hA, Instr.fieldAt, run_underlying hu, hf, Instr.sureAddr, fieldPlace, run_sizeOf hz]
  · cases hf

theorem idxS_sound (hi : Inv V L σ w) (he : EnvRel V w env a.tmps) {t e : TypeId} {x i : Operand} {p q : Opd} {sz : Nat} (ho : o.op = .indexAddr t x i) (hp : opd x = some p) (hq : opd i = some q)
    (hu : P.underlying t = some (.slice e)) (hz : szOf P e = some sz) (hs : idxSSem sz [p.val env, q.val env] = some d) : OpWp P o a w (Res V w L σ d) := by
  have h1 := opd_rel (a := a) he hp
  have h2 := opd_rel (a := a) he hq
  generalize p.val env = x' at h1 hs
  generalize q.val env = y' at h2 hs
  unfold idxSSem at hs
  split at hs
  · rename_i pt own sz' es k i e'
    simp only [List.cons.injEq, and_true] at e'
    obtain ⟨rfl, rfl⟩ := e'
    split at hs
    · rename_i hc
      obtain ⟨rfl, h0⟩ := hc
      simp only [Option.map_eq_some_iff] at hs
      obtain ⟨el, hel, rfl⟩ := hs
      simp only [VRel] at h1 h2
      obtain ⟨-, b, off, cap, hv, -, -, hrows⟩ := h1
      obtain ⟨-, hrow⟩ := hrows.get hel
      have hlt : i.toNat < es.length := (List.getElem?_eq_some_iff.1 hel).1
      refine OpWp.value (v := .pointer (some ⟨b, off + i.toNat * sz', none⟩)) (w' := w) ?_ (Res.same hi ?_)
      · have e1 : P.elem t = e := by simp [Program.elem, hu]
        have hlt' : i < es.length := by omega
        simp [execOp, ho, hv, h2, run_indexAt_slice w t ⟨b, off, none⟩ es.length cap k i (by rw [hu, e1]), h0, hlt', e1, run_sizeOf hz, add_mk]
      · simp only [VRel]
        exact ⟨trivial, b, off + i.toNat * sz', rfl, hrow.lower (emode_pos _)⟩
    · cases hs
  · rename_i id off len cap k i e'
    simp only [List.cons.injEq, and_true] at e'
    obtain ⟨rfl, rfl⟩ := e'
    split at hs
    · rename_i hc
      obtain ⟨h0, hlt⟩ := hc
      simp only [Option.some.injEq] at hs
      subst hs
      simp only [VRel] at h1 h2
      obtain ⟨-, hid, -, hv⟩ := h1
      refine OpWp.value (v := .pointer (some ⟨V.phi id, off + i.toNat * sz, none⟩)) (w' := w) ?_ (Res.same hi ?_)
      · have e1 : P.elem t = e := by simp [Program.elem, hu]
        simp [execOp, ho, hv, h2, run_indexAt_slice w t ⟨V.phi id, off, none⟩ len cap k i (by rw [hu, e1]), h0, hlt, e1, run_sizeOf hz, add_mk]
      · simp [VRel, hid]
    · cases hs
  · cases hs

theorem idxA_sound (hi : Inv V L σ w) (he : EnvRel V w env a.tmps) {t e : TypeId} {x i : Operand} {p q : Opd} {n sz : Nat} (ho : o.op = .indexAddr t x i) (hp : opd x = some p) (hq : opd i = some q)
    (hu : P.underlying t = some (.array n e)) (hz : szOf P e = some sz) (hs : idxASem n sz [p.val env, q.val env] = some d) : OpWp P o a w (Res V w L σ d) := by
  have h1 := opd_rel (a := a) he hp
  have h2 := opd_rel (a := a) he hq
  generalize p.val env = x' at h1 hs
  generalize q.val env = y' at h2 hs
  unfold idxASem at hs
  split at hs
  · rename_i z k i e'
    simp only [List.cons.injEq, and_true] at e'
    obtain ⟨rfl, rfl⟩ := e'
    split at hs
    · rename_i hc
      obtain ⟨A, hA, h3⟩ := shift_rel' h1 hs
      simp only [VRel] at h2
      refine OpWp.value (v := .pointer (some (A.add (i.toNat * sz)))) (w' := w) ?_ (Res.same hi h3)
      have e1 : P.elem t = e := by simp [Program.elem, hu]
      have e2 : P.arrayLen t = n := by simp [Program.arrayLen, hu]
      have hlt : 0 ≤ i ∧ i < P.arrayLen t := by rw [e2]; exact hc
      simp [execOp, ho, hA, h2, run_indexAt_array w t A k i (by rw [hu, e1, e2]), hlt, e1, run_sizeOf hz]
    · cases hs
  · cases hs

theorem idxStr_sound (hi : Inv V L σ w) (he : EnvRel V w env a.tmps) {t : TypeId} {x i : Operand} {p q : Opd} (ho : o.op = .index t x i) (hp : opd x = some p) (hq : opd i = some q)
    (hu : P.underlying t = some .string) (hs : idxStrSem [p.val env, q.val env] = some d) : OpWp P o a w (Res V w L σ d) := by
  have h1 := opd_rel (a := a) he hp
  have h2 := opd_rel (a := a) he hq
  generalize p.val env = x' at h1 hs
  generalize q.val env = y' at h2 hs
  unfold idxStrSem at hs
  split at hs
  · rename_i s k i e'
    simp only [List.cons.injEq, and_true] at e'
    obtain ⟨rfl, rfl⟩ := e'
    split at hs
    · rename_i hc
      simp only [Option.map_eq_some_iff] at hs
      obtain ⟨c, hcc, rfl⟩ := hs
      simp only [VRel] at h1 h2
      obtain ⟨hlt, hget⟩ := List.getElem?_eq_some_iff.1 hcc
      refine OpWp.value (v := .int .u8 c.toNat) (w' := w) ?_ (Res.same hi (by simp [VRel]))
      have e1 : 0 ≤ i ∧ i < (ByteArray.mk s.toArray).size := by rw [size_mk]; omega
      have e2 : ((ByteArray.mk s.toArray)[i.toNat]'(by omega)) = c := by
        show (s.toArray[i.toNat]'_) = c
        simpa using hget
      simp only [execOp, ho, h1, h2, Sem.run_bind, run_index_string w t _ k i hu, e1, dif_pos, Result.andThen_ok, e2, Sem.run_pure, and_self]
    · cases hs
  · cases hs

/-- A field out of a struct's value. -/
theorem part_rel {t : TypeId} {sz : Option Nat} {cs : List DVal} {vs : Array Value} {off : Nat} (hz : aggSz P t = some sz) (h : VRels V w 0 cs vs.toList) (hr : readCells cs off sz = some d) :
    ∃ v, (part t vs off).run P w = .ok v w ∧ VRel V w 0 d v := by
  unfold aggSz at hz
  cases sz with
  | some n =>
    obtain ⟨hl, hrel⟩ := readCells_agg h hr
    have hu : (∃ fs, P.underlying t = some (.struct fs)) ∨ ∃ m e, P.underlying t = some (.array m e) := by
      split at hz
      · rename_i fs hu; exact .inl ⟨fs, hu⟩
      · rename_i m e hu; exact .inr ⟨m, e, hu⟩
      · simp at hz
      · cases hz
    have hi : ∃ i, P.info? t = some i ∧ i.size = n := by
      rcases hu with ⟨fs, hu⟩ | ⟨m, e, hu⟩ <;> rw [hu] at hz <;> simpa using hz
    obtain ⟨i, hi, rfl⟩ := hi
    refine ⟨_, ?_, hrel⟩
    have hx : vs.extract off (off + i.size) = ((vs.toList.drop off).take i.size).toArray := by
      apply Array.ext'; simp [List.extract_eq_take_drop]
    rcases hu with ⟨fs, hu⟩ | ⟨m, e, hu⟩ <;> simp [part, isAgg, run_underlying hu, sizeOf, typeInfo, hi, hx]
  | none =>
    obtain ⟨v, hv, hrel⟩ := readCells_one h hr
    refine ⟨v, ?_, hrel⟩
    have hv' : vs[off]? = some v := by simpa using hv
    unfold part isAgg
    split at hz
    · simp at hz
    · simp at hz
    · rename_i td n1 n2 hu
      simp only [Sem.run_bind, run_underlying hu, Result.andThen_ok]
      cases td <;> first | exact absurd rfl (n1 _) | exact absurd rfl (n2 _ _) | simp [hv']
    · cases hz

theorem fld_sound (hi : Inv V L σ w) (he : EnvRel V w env a.tmps) {t : TypeId} {x : Operand} {f : Nat} {q : Opd} {fl : Field} {sz : Option Nat} (ho : o.op = .field t x f) (hq : opd x = some q)
    (hf : compField P t f = some fl) (hz : aggSz P fl.type = some sz) (hs : fldSem fl.offset sz [q.val env] = some d) : OpWp P o a w (Res V w L σ d) := by
  have h1 := opd_rel (a := a) he hq
  generalize q.val env = x' at h1 hs
  unfold fldSem at hs
  split at hs
  · rename_i cs e
    simp only [List.cons.injEq, and_true] at e
    subst e
    simp only [VRel] at h1
    obtain ⟨vs, hv, h2⟩ := h1
    obtain ⟨v, hr, hrel⟩ := part_rel (P := P) hz h2 hs
    refine OpWp.value (v := v) (w' := w) ?_ (Res.same hi hrel)
    unfold compField at hf
    split at hf
    · rename_i fs hu
      simp [execOp, ho, hv, Instr.field, run_underlying hu, hf, asAgg, hr]
    · cases hf
  · cases hs

/-- Loading a variable out of cells. -/
theorem load_rel {t : TypeId} {sz : Option Nat} {cs : List DVal} {vs : List Value} {b base off : Nat} (hz : aggSz P t = some sz) (h : VRels V w 0 cs vs) (hc : ∀ i v, vs[i]? = some v → w.cell? ⟨b, base + i, none⟩ = some v)
    (hr : readCells cs off sz = some d) : ∃ v, (Instr.loadAt t (.pointer (some ⟨b, base + off, none⟩))).run P w = .ok v w ∧ VRel V w 0 d v := by
  unfold aggSz at hz
  cases sz with
  | some n =>
    obtain ⟨hl, hrel⟩ := readCells_agg h hr
    have hu : (∃ fs, P.underlying t = some (.struct fs)) ∨ ∃ m e, P.underlying t = some (.array m e) := by
      split at hz
      · rename_i fs hu; exact .inl ⟨fs, hu⟩
      · rename_i m e hu; exact .inr ⟨m, e, hu⟩
      · simp at hz
      · cases hz
    have hi : ∃ i, P.info? t = some i ∧ i.size = n := by
      rcases hu with ⟨fs, hu⟩ | ⟨m, e, hu⟩ <;> rw [hu] at hz <;> simpa using hz
    obtain ⟨i, hi, rfl⟩ := hi
    have hlen : ((vs.drop off).take i.size).length = i.size := by simp; omega
    have hload := run_loadCells_list (P := P) w ⟨b, base + off, none⟩ ((vs.drop off).take i.size) (fun j v hj => by
      rw [add_mk, Nat.add_assoc]
      refine hc (off + j) v ?_
      rw [List.getElem?_take] at hj
      split at hj
      · simpa using hj
      · cases hj)
    rw [hlen] at hload
    refine ⟨_, ?_, hrel⟩
    rcases hu with ⟨fs, hu⟩ | ⟨m, e, hu⟩ <;> simp [Instr.loadAt, Instr.sureAddr, loadVar, isAgg, run_underlying hu, sizeOf, typeInfo, hi, hload]
  | none =>
    obtain ⟨v, hv, hrel⟩ := readCells_one h hr
    refine ⟨v, ?_, hrel⟩
    have hcell := hc off v hv
    unfold Instr.loadAt loadVar isAgg
    split at hz
    · simp at hz
    · simp at hz
    · rename_i td n1 n2 hu
      simp only [Instr.sureAddr, Sem.run_bind, Sem.run_pure, run_underlying hu, Result.andThen_ok]
      cases td <;> first | exact absurd rfl (n1 _) | exact absurd rfl (n2 _ _) | simp [hcell]
    · cases hz

theorem ldE_sound (hi : Inv V L σ w) (he : EnvRel V w env a.tmps) {t : TypeId} {x : Operand} {q : Opd} {sz : Option Nat} (ho : o.op = .load t x) (hq : opd x = some q)
    (hz : aggSz P t = some sz) (hs : ldESem sz [q.val env] = some d) : OpWp P o a w (Res V w L σ d) := by
  have h1 := opd_rel (a := a) he hq
  generalize q.val env = x' at h1 hs
  unfold ldESem at hs
  split at hs
  · rename_i cs off e
    simp only [List.cons.injEq, and_true] at e
    subst e
    simp only [VRel] at h1
    obtain ⟨-, b, base, hv, hrow⟩ := h1
    obtain ⟨vs, h2, h3⟩ := hrow.vals
    obtain ⟨v, hr, hrel⟩ := load_rel (P := P) hz h2.open' (fun i v hv => (h3 i v hv).1) hs
    refine OpWp.value (v := v) (w' := w) ?_ (Res.same hi hrel)
    simp [execOp, ho, hv, hr]
  · cases hs

theorem ext_sound (hi : Inv V L σ w) (he : EnvRel V w env a.tmps) {x : Operand} {i : Nat} {q : Opd} (ho : o.op = .extract x i) (hq : opd x = some q) (hs : extSem i [q.val env] = some d) : OpWp P o a w (Res V w L σ d) := by
  have h1 := opd_rel (a := a) he hq
  generalize q.val env = x' at h1 hs
  unfold extSem at hs
  split at hs
  · rename_i ds e
    simp only [List.cons.injEq, and_true] at e
    subst e
    simp only [VRel] at h1
    obtain ⟨vs, hv, h2⟩ := h1
    obtain ⟨v, h3, h4⟩ := h2.get hs
    have h3' : vs[i]? = some v := by simpa using h3
    refine OpWp.value (v := v) (w' := w) ?_ (Res.same hi h4)
    simp [execOp, ho, hv, Instr.extract, h3']
  · cases hs

theorem lenStr_sound (hi : Inv V L σ w) (he : EnvRel V w env a.tmps) {c : Call} {x : Operand} {q : Opd} {t : TypeId} (ho : o.op = .call c) (hc : c.callee = .builtin .len) (hx : c.args = #[x]) (ht : c.argTypes[0]? = some t)
    (hu : P.underlying t = some .string) (hq : opd x = some q) (hs : lenStrSem [q.val env] = some d) : OpWp P o a w (Res V w L σ d) := by
  have h1 := opd_rel (a := a) he hq
  generalize q.val env = x' at h1 hs
  unfold lenStrSem at hs
  split at hs
  · rename_i s e
    simp only [List.cons.injEq, and_true] at e
    subst e
    simp only [Option.some.injEq] at hs
    subst hs
    simp only [VRel] at h1
    refine OpWp.value (v := .int .i64 s.length) (w' := w) ?_ (Res.same hi (by simp [VRel, goI]))
    simp [execOp, ho, resolve, hc, hx, invoke, builtin, Builtin.len_, ht, h1, run_underlying hu, goInt, size_mk]
  · cases hs

theorem lenSl_sound (hi : Inv V L σ w) (he : EnvRel V w env a.tmps) {c : Call} {x : Operand} {q : Opd} {t e : TypeId} (ho : o.op = .call c) (hc : c.callee = .builtin .len) (hx : c.args = #[x]) (ht : c.argTypes[0]? = some t)
    (hu : P.underlying t = some (.slice e)) (hq : opd x = some q) (hs : lenSlSem [q.val env] = some d) : OpWp P o a w (Res V w L σ d) := by
  have h1 := opd_rel (a := a) he hq
  generalize q.val env = x' at h1 hs
  unfold lenSlSem at hs
  split at hs
  · rename_i pt own sz es e'
    simp only [List.cons.injEq, and_true] at e'
    subst e'
    simp only [Option.some.injEq] at hs
    subst hs
    simp only [VRel] at h1
    obtain ⟨-, b, off, cap, hv, -⟩ := h1
    refine OpWp.value (v := .int .i64 es.length) (w' := w) ?_ (Res.same hi (by simp [VRel, goI]))
    simp [execOp, ho, resolve, hc, hx, invoke, builtin, Builtin.len_, ht, hv, run_underlying hu, goInt]
  · rename_i e'
    simp only [List.cons.injEq, and_true] at e'
    subst e'
    simp only [Option.some.injEq] at hs
    subst hs
    simp only [VRel] at h1
    refine OpWp.value (v := .int .i64 0) (w' := w) ?_ (Res.same hi (by simp [VRel, goI]))
    simp [execOp, ho, resolve, hc, hx, invoke, builtin, Builtin.len_, ht, h1, run_underlying hu, goInt]
  · rename_i id off len cap e'
    simp only [List.cons.injEq, and_true] at e'
    subst e'
    simp only [Option.some.injEq] at hs
    subst hs
    simp only [VRel] at h1
    obtain ⟨-, -, -, hv⟩ := h1
    refine OpWp.value (v := .int .i64 len) (w' := w) ?_ (Res.same hi (by simp [VRel, goI]))
    simp [execOp, ho, resolve, hc, hx, invoke, builtin, Builtin.len_, ht, hv, run_underlying hu, goInt]
  · cases hs

theorem lenArr_sound (hi : Inv V L σ w) {c : Call} {x : Operand} {t e : TypeId} {n : Nat} (ho : o.op = .call c) (hc : c.callee = .builtin .len) (hx : c.args = #[x]) (ht : c.argTypes[0]? = some t)
    (hu : P.underlying t = some (.array n e)) (hs : some (goI n) = some d) : OpWp P o a w (Res V w L σ d) := by
  simp only [Option.some.injEq] at hs
  subst hs
  refine OpWp.value (v := .int .i64 n) (w' := w) ?_ (Res.same hi (by simp [VRel, goI]))
  simp [execOp, ho, resolve, hc, hx, invoke, builtin, Builtin.len_, ht, run_underlying hu, goInt]

theorem mx_sound (hi : Inv V L σ w) (he : EnvRel V w env a.tmps) {c : Call} {x y : Operand} {p q : Opd} (ho : o.op = .call c) (hc : c.callee = .builtin .max) (hx : c.args = #[x, y]) (hp : opd x = some p) (hq : opd y = some q)
    (hs : mxSem [p.val env, q.val env] = some d) : OpWp P o a w (Res V w L σ d) := by
  have h1 := opd_rel (a := a) he hp
  have h2 := opd_rel (a := a) he hq
  generalize p.val env = x' at h1 hs
  generalize q.val env = y' at h2 hs
  unfold mxSem at hs
  split at hs
  · rename_i k m k' n e
    simp only [List.cons.injEq, and_true] at e
    obtain ⟨rfl, rfl⟩ := e
    split at hs
    · rename_i hk
      subst hk
      simp only [Option.some.injEq] at hs
      subst hs
      simp only [VRel] at h1 h2
      refine OpWp.value (v := .int k (if n > m then n else m)) (w' := w) ?_ (Res.same hi (by simp [VRel]))
      simp [execOp, ho, resolve, hc, hx, invoke, builtin, Builtin.max_, Builtin.max2, h1, h2]
    · cases hs
  · cases hs

theorem mn_sound (hi : Inv V L σ w) (he : EnvRel V w env a.tmps) {c : Call} {x y : Operand} {p q : Opd} (ho : o.op = .call c) (hc : c.callee = .builtin .min) (hx : c.args = #[x, y]) (hp : opd x = some p) (hq : opd y = some q)
    (hs : mnSem [p.val env, q.val env] = some d) : OpWp P o a w (Res V w L σ d) := by
  have h1 := opd_rel (a := a) he hp
  have h2 := opd_rel (a := a) he hq
  generalize p.val env = x' at h1 hs
  generalize q.val env = y' at h2 hs
  unfold mnSem at hs
  split at hs
  · rename_i k m k' n e
    simp only [List.cons.injEq, and_true] at e
    obtain ⟨rfl, rfl⟩ := e
    split at hs
    · rename_i hk
      subst hk
      simp only [Option.some.injEq] at hs
      subst hs
      simp only [VRel] at h1 h2
      refine OpWp.value (v := .int k (if n < m then n else m)) (w' := w) ?_ (Res.same hi (by simp [VRel]))
      simp [execOp, ho, resolve, hc, hx, invoke, builtin, Builtin.min_, Builtin.min2, h1, h2]
    · cases hs
  · cases hs

theorem okCell_up {d : DVal} {v : Value} (h : VRel V w 0 d v) (hd : d.okCell = true) : VRel V w 1 d v := by
  cases d <;> simp only [DVal.okCell, reduceCtorEq, Bool.false_eq_true] at hd <;> simp only [VRel] at h ⊢
  all_goals first
    | exact h
    | exact ⟨by omega, h.2⟩
    | exact ⟨.inl (by omega), h.2⟩
    | (obtain ⟨u, e, h1⟩ := h; exact ⟨u, e, plain_up h1 hd⟩)

theorem okCells_up : ∀ {ds : List DVal} {vs : List Value}, VRels V w 0 ds vs → ds.all DVal.okCell = true → VRels V w 1 ds vs
  | [], _, h, _ => by simpa only [VRels] using h
  | d :: ds, _, h, hd => by
    simp only [VRels] at h ⊢
    simp only [List.all_cons, Bool.and_eq_true] at hd
    obtain ⟨v, us, rfl, h1, h2⟩ := h
    exact ⟨v, us, rfl, okCell_up h1 hd.1, okCells_up h2 hd.2⟩

theorem mkfunc_sound (hi : Inv V L σ w) (he : EnvRel V w env a.tmps) {f : Nat} {first captured : Array Operand} {qs : List Opd} (ho : o.op = .makeFunc (.func f) first captured) (hf : first = #[]) (hq : opds captured.toList = some qs)
    (hs : (if (qs.map (Opd.val env)).all DVal.okCell then some (DVal.func f (qs.map (Opd.val env))) else none) = some d) : OpWp P o a w (Res V w L σ d) := by
  have h1 := opds_rel (a := a) he hq
  split at hs
  · simp only [Option.some.injEq] at hs
    subst hs
    refine OpWp.value (v := .func (.func f) #[] (captured.map a.eval)) (w' := w) ?_ (Res.same hi ?_)
    · simp [execOp, ho, hf, Instr.makeFunc]
    · simp only [VRel]
      exact ⟨by omega, _, rfl, by simpa using okCells_up h1 ‹_›⟩
  · cases hs

theorem nilchk_sound (hi : Inv V L σ w) (he : EnvRel V w env a.tmps) {x : Operand} {q : Opd} (ho : o.op = .nilCheck x) (hq : opd x = some q) (hs : nilchkSem [q.val env] = some d) : OpWp P o a w (Res V w L σ d) := by
  have h1 := opd_rel (a := a) he hq
  generalize q.val env = x' at h1 hs
  simp only [nilchkSem] at hs
  split at hs <;> simp only [Option.some.injEq, reduceCtorEq] at hs <;> subst hs
  · have h2 := h1
    simp only [VRel] at h2
    obtain ⟨-, -, -, A, hv, -⟩ := h2
    refine OpWp.value (v := a.eval x) (w' := w) ?_ (Res.same hi h1)
    simp [execOp, ho, hv]
  · have h2 := h1
    simp only [VRel] at h2
    obtain ⟨-, -, hv⟩ := h2
    refine OpWp.value (v := a.eval x) (w' := w) ?_ (Res.same hi h1)
    simp [execOp, ho, hv]
  · have h2 := h1
    simp only [VRel] at h2
    obtain ⟨-, b, base, hv, -⟩ := h2
    refine OpWp.value (v := a.eval x) (w' := w) ?_ (Res.same hi h1)
    simp [execOp, ho, hv]
  · have h2 := h1
    simp only [VRel] at h2
    obtain ⟨-, vs, hv, -⟩ := h2
    refine OpWp.value (v := a.eval x) (w' := w) ?_ (Res.same hi h1)
    simp [execOp, ho, hv]

end

end Go.Proofs.YtdnoonnanhnkaaaDoor
