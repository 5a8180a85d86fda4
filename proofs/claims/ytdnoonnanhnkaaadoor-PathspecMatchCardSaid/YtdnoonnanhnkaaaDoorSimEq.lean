/- Equality of structs and arrays goes by their cells. -/
import Derived.Test.YtdnoonnanhnkaaaDoorSimPure
set_option linter.unusedVariables false
set_option linter.unusedSimpArgs false
namespace Go.Proofs.YtdnoonnanhnkaaaDoor
open Go

/-- A value of a type, of its cells. -/
def valT (P : Program) (t : TypeId) (vs : List Value) : Value :=
  match P.underlying t with
  | some (.struct _) | some (.array _ _) => .agg vs.toArray
  | _ => vs.headD Go.undef

theorem szOf_info {P : Program} {t : TypeId} {n : Nat} (h : szOf P t = some n) : ∃ i, P.info? t = some i ∧ i.size = n := by
  simp only [szOf, Option.map_eq_some_iff] at h
  exact h

theorem run_sizeOf {P : Program} {t : TypeId} {n : Nat} (h : szOf P t = some n) (w : World) : (sizeOf t).run P w = .ok n w := by
  obtain ⟨i, h1, rfl⟩ := szOf_info h
  simp [sizeOf, typeInfo, h1]

theorem part_run {P : Program} {w : World} {t : TypeId} {n off : Nat} {cs : List Value} (hs : szOf P t = some n) (hu : (P.underlying t).isSome) (hl : off + n ≤ cs.length)
    (h1 : aggSz P t = some none → n = 1) : (part t cs.toArray off).run P w = .ok (valT P t ((cs.drop off).take n)) w := by
  obtain ⟨d, hd⟩ := Option.isSome_iff_exists.1 hu
  have hsz := run_sizeOf (P := P) hs w
  unfold aggSz at h1
  unfold part isAgg valT
  simp only [Sem.run_bind, run_underlying hd, Result.andThen_ok, hd]
  rw [hd] at h1
  cases d
  case struct fs => simp [hsz, List.drop_take, Nat.add_sub_cancel_left, List.extract_eq_take_drop]
  case array a b => simp [hsz, List.drop_take, Nat.add_sub_cancel_left, List.extract_eq_take_drop]
  all_goals
    have hn : n = 1 := h1 (by rfl)
    subst hn
    have hlt : off < cs.length := by omega
    have e1 : cs.toArray[off]? = some cs[off] := by simp [hlt]
    have e2 : ((cs.drop off).take 1).headD Go.undef = cs[off] := by rw [List.drop_eq_getElem_cons hlt]; rfl
    simp only [Sem.run_pure, Result.andThen_ok, Bool.false_eq_true, if_false, e1, e2]

theorem cellsEq_len : ∀ {ks : List CK} {X Y : List DVal} {b : Bool}, cellsEq ks X Y = some b → X.length = ks.length ∧ Y.length = ks.length
  | [], [], [], _, _ => ⟨rfl, rfl⟩
  | k :: ks, x :: xs, y :: ys, b, h => by
    simp only [cellsEq] at h
    split at h
    · rename_i b1 b2 h1 h2
      have := cellsEq_len h2
      simp [this]
    · cases h
  | [], _ :: _, _, _, h => by simp [cellsEq] at h
  | [], [], _ :: _, _, h => by simp [cellsEq] at h
  | _ :: _, [], _, _, h => by simp [cellsEq] at h
  | _ :: _, _ :: _, [], _, h => by simp [cellsEq] at h

theorem cellsEq_split : ∀ {ks ls : List CK} {X Y : List DVal} {b : Bool}, cellsEq (ks ++ ls) X Y = some b →
    ∃ b1 b2, cellsEq ks (X.take ks.length) (Y.take ks.length) = some b1 ∧ cellsEq ls (X.drop ks.length) (Y.drop ks.length) = some b2 ∧ b = (b1 && b2)
  | [], ls, X, Y, b, h => ⟨true, b, by simp [cellsEq], by simpa using h, by simp⟩
  | k :: ks, ls, x :: xs, y :: ys, b, h => by
    simp only [List.cons_append, cellsEq] at h
    split at h
    · rename_i c d h1 h2
      obtain ⟨b1, b2, h3, h4, h5⟩ := cellsEq_split h2
      simp only [Option.some.injEq] at h
      refine ⟨c && b1, b2, by simp [cellsEq, h1, h3], by simpa using h4, by rw [← h, h5, Bool.and_assoc]⟩
    · cases h
  | _ :: _, _, [], _, _, h => by simp [cellsEq] at h
  | _ :: _, _, _ :: _, [], _, h => by simp [cellsEq] at h

theorem eqKinds_info {P : Program} {n : Nat} {t : TypeId} {ks : List CK} (h : eqKinds P n t = some ks) : (P.underlying t).isSome := by
  cases n with
  | zero => simp [eqKinds] at h
  | succ n =>
    unfold eqKinds at h
    split at h <;> simp_all

theorem eqKinds_one {P : Program} {n : Nat} {t : TypeId} {ks : List CK} (h : eqKinds P n t = some ks) (ha : aggSz P t = some none) : ks.length = 1 := by
  cases n with
  | zero => simp [eqKinds] at h
  | succ n =>
    unfold eqKinds at h
    unfold aggSz at ha
    split at h
    · simp at h; subst h; rfl
    · simp at h; subst h; rfl
    · simp at h; subst h; rfl
    · rename_i e; rw [e] at ha; simp at ha
    · rename_i e; rw [e] at ha; simp at ha
    · cases h

theorem eqArr_run {P : Program} {V : Vw} {w : World} {m : Nat} {e : TypeId} {ks : List CK} (hs : szOf P e = some ks.length) (hu : (P.underlying e).isSome) (h1 : aggSz P e = some none → ks.length = 1)
    (ih : ∀ (X Y : List DVal) (vs us : List Value) (b : Bool), VRels V w 0 X vs → VRels V w 0 Y us → cellsEq ks X Y = some b → (Op.equalIn m e (valT P e vs) (valT P e us)).run P w = .ok b w) :
    ∀ (len i : Nat) (X Y : List DVal) (vs us : List Value) (b : Bool), VRels V w 0 X (vs.drop (i * ks.length)) → VRels V w 0 Y (us.drop (i * ks.length)) → cellsEq (List.replicate len ks).flatten X Y = some b →
    (do
      for i in List.range' i len do
        if !(← Op.equalIn m e (← part e vs.toArray (i * ks.length)) (← part e us.toArray (i * ks.length))) then return false
      pure true : Sem Bool).run P w = .ok b w
  | 0, i, X, Y, vs, us, b, hX, hY, h => by
    have := cellsEq_len h
    simp only [List.replicate_zero, List.flatten_nil, List.length_nil, List.length_eq_zero_iff] at this
    obtain ⟨rfl, rfl⟩ := this
    simp [cellsEq] at h
    subst h
    simp
  | len + 1, i, X, Y, vs, us, b, hX, hY, h => by
    rw [List.replicate_succ, List.flatten_cons] at h
    have hl := cellsEq_len h
    obtain ⟨b1, b2, h2, h3, rfl⟩ := cellsEq_split h
    have lX := hX.length
    have lY := hY.length
    simp only [List.length_append, List.length_drop] at hl lX lY
    have i1 : i * ks.length + ks.length ≤ vs.length := by
      rcases Nat.eq_zero_or_pos ks.length with e | e
      · rw [e]; simp
      · omega
    have i2 : i * ks.length + ks.length ≤ us.length := by
      rcases Nat.eq_zero_or_pos ks.length with e | e
      · rw [e]; simp
      · omega
    have e1 := ih _ _ _ _ b1 (hX.take ks.length) (hY.take ks.length) h2
    have p1 := part_run (P := P) (w := w) (t := e) (off := i * ks.length) (cs := vs) hs hu i1 h1
    have p2 := part_run (P := P) (w := w) (t := e) (off := i * ks.length) (cs := us) hs hu i2 h1
    have hX2 := hX.drop ks.length
    have hY2 := hY.drop ks.length
    rw [List.drop_drop] at hX2 hY2
    have e2 := eqArr_run hs hu h1 ih len (i + 1) _ _ vs us b2 (by rw [Nat.add_mul, Nat.one_mul]; exact hX2) (by rw [Nat.add_mul, Nat.one_mul]; exact hY2) h3
    rw [List.range'_succ]
    cases b1
    · simp [p1, p2, e1]
    · simp only [List.forIn_cons, Sem.run_bind, p1, p2, e1, Result.andThen_ok, Bool.not_true, Bool.false_eq_true, if_false, Bool.true_and, Sem.run_pure] at e2 ⊢
      exact e2

theorem eqField_run {P : Program} {V : Vw} {w : World} {n m : Nat}
    (ih : ∀ (t : TypeId) (ks : List CK), eqKinds P n t = some ks → ∀ (X Y : List DVal) (vs us : List Value) (b : Bool), VRels V w 0 X vs → VRels V w 0 Y us → cellsEq ks X Y = some b → (Op.equalIn m t (valT P t vs) (valT P t us)).run P w = .ok b w) :
    ∀ (fs : List Field) (off : Nat) (ks : List CK) (X Y : List DVal) (vs us : List Value) (b : Bool), Go.Proofs.YtdnoonnanhnkaaaDoor.eqFields P (eqKinds P n) off fs = some ks → VRels V w 0 X (vs.drop off) → VRels V w 0 Y (us.drop off) → cellsEq ks X Y = some b →
    (Op.eqFields m vs.toArray us.toArray fs).run P w = .ok b w
  | [], off, ks, X, Y, vs, us, b, hk, hX, hY, h => by
    simp only [Go.Proofs.YtdnoonnanhnkaaaDoor.eqFields, Option.some.injEq] at hk
    subst hk
    obtain ⟨h1, h2⟩ := cellsEq_len h
    simp only [List.length_nil, List.length_eq_zero_iff] at h1 h2
    subst h1 h2
    simp [cellsEq] at h
    subst h
    simp [Op.eqFields]
  | f :: fs, off, ks, X, Y, vs, us, b, hk, hX, hY, h => by
    simp only [Go.Proofs.YtdnoonnanhnkaaaDoor.eqFields] at hk
    split at hk
    · rename_i hc
      simp only [Bool.and_eq_true, decide_eq_true_eq] at hc
      obtain ⟨⟨⟨hn, ho⟩, hs⟩, hpos⟩ := hc
      split at hk
      · rename_i k1 k2 h1 h2
        simp only [Option.some.injEq] at hk
        subst hk
        rw [h1] at hs hpos
        simp only [Option.getD_some] at hs hpos
        rw [h1] at h2
        simp only [Option.getD_some] at h2
        have hl := cellsEq_len h
        obtain ⟨b1, b2, h3, h4, rfl⟩ := cellsEq_split h
        have lX := hX.length
        have lY := hY.length
        simp only [List.length_append, List.length_drop] at hl lX lY
        have e1 := ih f.type k1 h1 _ _ _ _ b1 (hX.take k1.length) (hY.take k1.length) h3
        have hX2 := hX.drop k1.length
        have hY2 := hY.drop k1.length
        rw [List.drop_drop] at hX2 hY2
        have e2 := eqField_run ih fs (off + k1.length) k2 _ _ vs us b2 h2 hX2 hY2 h4
        have p1 := part_run (P := P) (w := w) (t := f.type) (off := off) (cs := vs) hs (eqKinds_info h1) (by omega) (eqKinds_one h1)
        have p2 := part_run (P := P) (w := w) (t := f.type) (off := off) (cs := us) hs (eqKinds_info h1) (by omega) (eqKinds_one h1)
        subst ho
        cases b1
        · simp [Op.eqFields, hn, p1, p2, e1]
        · simp [Op.eqFields, hn, p1, p2, e1, e2]
      · cases hk
    · cases hk

theorem eq_run {P : Program} {V : Vw} {w : World} : ∀ (n : Nat) (t : TypeId) (ks : List CK), eqKinds P n t = some ks → ∀ (m : Nat), n ≤ m → ∀ (X Y : List DVal) (vs us : List Value) (b : Bool),
    VRels V w 0 X vs → VRels V w 0 Y us → cellsEq ks X Y = some b → (Op.equalIn m t (valT P t vs) (valT P t us)).run P w = .ok b w := by
  intro n
  induction n with
  | zero => intro t ks h; simp [eqKinds] at h
  | succ n ih =>
    intro t ks hk m hm X Y vs us b hX hY h
    obtain ⟨m, rfl⟩ : ∃ m', m = m' + 1 := ⟨m - 1, by omega⟩
    have hl := cellsEq_len h
    unfold eqKinds at hk
    split at hk
    · rename_i hu
      simp only [Option.some.injEq] at hk
      subst hk
      obtain ⟨x, rfl⟩ : ∃ x, X = [x] := by simpa [List.length_eq_one_iff] using hl.1
      obtain ⟨y, rfl⟩ : ∃ y, Y = [y] := by simpa [List.length_eq_one_iff] using hl.2
      simp only [VRels] at hX hY
      obtain ⟨v, _, rfl, h1, rfl⟩ := hX
      obtain ⟨u, _, rfl, h2, rfl⟩ := hY
      cases x <;> cases y <;> simp [cellsEq, cellEq] at h
      simp only [VRel] at h1 h2
      subst h1 h2 h
      simp [valT, hu, Op.equalIn, run_underlying hu]
    · rename_i k hu
      simp only [Option.some.injEq] at hk
      subst hk
      obtain ⟨x, rfl⟩ : ∃ x, X = [x] := by simpa [List.length_eq_one_iff] using hl.1
      obtain ⟨y, rfl⟩ : ∃ y, Y = [y] := by simpa [List.length_eq_one_iff] using hl.2
      simp only [VRels] at hX hY
      obtain ⟨v, _, rfl, h1, rfl⟩ := hX
      obtain ⟨u, _, rfl, h2, rfl⟩ := hY
      cases x <;> cases y <;> simp only [cellsEq, cellEq, reduceCtorEq] at h
      simp only [VRel] at h1 h2
      subst h1 h2
      split at h
      · rename_i b1 b2 e1 e2
        split at e1
        · rename_i hq
          obtain ⟨rfl, rfl⟩ := hq
          simp only [Option.some.injEq] at e1 e2 h
          subst e1 e2 h
          simp [valT, hu, Op.equalIn, run_underlying hu]
        · cases e1
      · cases h
    · rename_i hu
      simp only [Option.some.injEq] at hk
      subst hk
      obtain ⟨x, rfl⟩ : ∃ x, X = [x] := by simpa [List.length_eq_one_iff] using hl.1
      obtain ⟨y, rfl⟩ : ∃ y, Y = [y] := by simpa [List.length_eq_one_iff] using hl.2
      simp only [VRels] at hX hY
      obtain ⟨v, _, rfl, h1, rfl⟩ := hX
      obtain ⟨u, _, rfl, h2, rfl⟩ := hY
      cases x <;> cases y <;> simp [cellsEq, cellEq] at h
      simp only [VRel] at h1 h2
      subst h1 h2 h
      simp [valT, hu, Op.equalIn, run_underlying hu, beq_toListBytes]
    · rename_i len e hu
      split at hk
      · rename_i hs
        simp only [Option.map_eq_some_iff] at hk
        obtain ⟨k1, hk1, rfl⟩ := hk
        rw [hk1] at hs
        simp only [Option.getD_some] at hs
        have := eqArr_run (P := P) (V := V) (w := w) (m := m) hs (eqKinds_info hk1) (eqKinds_one hk1) (fun X Y vs us b hX hY hh => ih e k1 hk1 m (by omega) X Y vs us b hX hY hh) len 0 X Y vs us b (by simpa using hX) (by simpa using hY) h
        simp only [valT, hu]
        simp only [Op.equalIn, Sem.run_bind, run_underlying hu, Result.andThen_ok, run_sizeOf hs, Std.Legacy.Range.forIn_eq_forIn_range', Std.Legacy.Range.size]
        simpa using this
      · cases hk
    · rename_i fs hu
      split at hk
      · cases hk
      · rename_i hst
        have := eqField_run (P := P) (V := V) (w := w) (n := n) (m := m) (fun t ks h1 X Y vs us b hX hY hh => ih t ks h1 m (by omega) X Y vs us b hX hY hh) fs.toList 0 ks X Y vs us b hk (by simpa using hX) (by simpa using hY) h
        have hf : P.fieldsOf t = fs := by simp [Program.fieldsOf, hu]
        simp only [valT, hu]
        rw [run_equalIn_struct w m t vs.toArray us.toArray (by rw [hf, hu]) (by simpa using hst), hf]
        exact this
    · cases hk

/-- '==' of structs and arrays. -/
theorem eqa_run {P : Program} {V : Vw} {w : World} {t : TypeId} {ks : List CK} (hk : eqKinds P 100 t = some ks) (hg : P.eqGuardType P.depth t = false) (X Y : Operand) {x y : List DVal} {v u : Value} {b : Bool}
    (hx : VRel V w 0 (.agg x) v) (hy : VRel V w 0 (.agg y) u) (h : cellsEq ks x y = some b) (hu : (∃ fs, P.underlying t = some (.struct fs)) ∨ ∃ n e, P.underlying t = some (.array n e)) :
    (do eqGuard .eql t X Y v u; binOp .eql t v u : Sem Value).run P w = .ok (.bool b) w ∧ (do eqGuard .neq t X Y v u; binOp .neq t v u : Sem Value).run P w = .ok (.bool !b) w := by
  simp only [VRel] at hx hy
  obtain ⟨vs, rfl, h1⟩ := hx
  obtain ⟨us, rfl, h2⟩ := hy
  have he := eq_run 100 t ks hk 10000 (by omega) x y vs.toList us.toList b h1 h2 h
  have e1 : valT P t vs.toList = .agg vs := by rcases hu with ⟨fs, hu⟩ | ⟨n, e, hu⟩ <;> simp [valT, hu]
  have e2 : valT P t us.toList = .agg us := by rcases hu with ⟨fs, hu⟩ | ⟨n, e, hu⟩ <;> simp [valT, hu]
  rw [e1, e2] at he
  constructor
  · rw [Sem.run_bind, run_eqGuard_agg w .eql t X Y vs us hg, Result.andThen_ok, run_eql_struct w t vs us, he, Result.andThen_ok]
  · rw [Sem.run_bind, run_eqGuard_agg w .neq t X Y vs us hg, Result.andThen_ok, run_neq_struct w t vs us, he, Result.andThen_ok]

end Go.Proofs.YtdnoonnanhnkaaaDoor
