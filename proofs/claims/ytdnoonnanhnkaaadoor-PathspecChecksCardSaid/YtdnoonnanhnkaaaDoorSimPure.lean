/- The pure operations: what the small language says of them is what the model runs. -/
import Derived.Test.YtdnoonnanhnkaaaDoorSimInv
set_option linter.unusedVariables false
set_option linter.unusedSimpArgs false
namespace Go.Proofs.YtdnoonnanhnkaaaDoor
open Go

/-! ## Closed values -/
mutual
theorem VRel.lower {V : Vw} {w : World} : ∀ {d : DVal} {m n : Nat} {v : Value}, n ≤ m → VRel V w m d v → VRel V w n d v
  | .undef, _, _, _, e, h => by simp only [VRel] at h ⊢; exact ⟨by omega, h.2⟩
  | .bool _, _, _, _, _, h => by simpa only [VRel] using h
  | .int _ _, _, _, _, _, h => by simpa only [VRel] using h
  | .str _, _, _, _, _, h => by simpa only [VRel] using h
  | .nilp, _, _, _, _, h => by simpa only [VRel] using h
  | .nils, _, _, _, _, h => by simpa only [VRel] using h
  | .nilm, _, _, _, _, h => by simpa only [VRel] using h
  | .nilf, _, _, _, _, h => by simpa only [VRel] using h
  | .loc .., _, _, _, e, h => by simp only [VRel] at h ⊢; exact ⟨by omega, h.2⟩
  | .obj .., _, _, _, e, h => by simp only [VRel] at h ⊢; exact ⟨by omega, h.2⟩
  | .elem .., _, _, _, e, h => by simp only [VRel] at h ⊢; exact ⟨by omega, h.2⟩
  | .slice .., _, _, _, e, h => by
    simp only [VRel] at h ⊢
    exact ⟨h.1.elim (fun x => .inl (by omega)) .inr, h.2⟩
  | .map .., _, _, _, e, h => by simp only [VRel] at h ⊢; exact ⟨by omega, h.2⟩
  | .func .., _, _, _, e, h => by simp only [VRel] at h ⊢; exact ⟨by omega, h.2⟩
  | .nilI, _, _, _, _, h => by simpa only [VRel] using h
  | .iface t d, _, _, _, e, h => by
    simp only [VRel] at h ⊢
    obtain ⟨u, rfl, h1⟩ := h
    exact ⟨u, rfl, VRel.lower e h1⟩
  | .mslice .., _, _, _, e, h => by simp only [VRel] at h ⊢; exact ⟨by omega, h.2⟩
  | .agg cs, _, _, _, e, h => by
    simp only [VRel] at h ⊢
    obtain ⟨vs, rfl, h1⟩ := h
    exact ⟨vs, rfl, VRels.lower e h1⟩
  | .tup cs, _, _, _, e, h => by
    simp only [VRel] at h ⊢
    obtain ⟨vs, rfl, h1⟩ := h
    exact ⟨vs, rfl, VRels.lower e h1⟩
theorem VRels.lower {V : Vw} {w : World} : ∀ {d : List DVal} {m n : Nat} {v : List Value}, n ≤ m → VRels V w m d v → VRels V w n d v
  | [], _, _, _, _, h => by simpa only [VRels] using h
  | d :: ds, _, _, _, e, h => by
    simp only [VRels] at h ⊢
    obtain ⟨v, us, rfl, h1, h2⟩ := h
    exact ⟨v, us, rfl, VRel.lower e h1, VRels.lower e h2⟩
end

theorem VRel.open' {V : Vw} {w : World} {d : DVal} {m : Nat} {v : Value} (h : VRel V w m d v) : VRel V w 0 d v := h.lower (Nat.zero_le _)
theorem VRels.open' {V : Vw} {w : World} {d : List DVal} {m : Nat} {v : List Value} (h : VRels V w m d v) : VRels V w 0 d v := h.lower (Nat.zero_le _)

theorem RowRel.lower {V : Vw} {w : World} {m n : Nat} {b : Nat} (e : n ≤ m) : ∀ {cs : List DVal} {off : Nat}, RowRel V w m b off cs → RowRel V w n b off cs
  | [], _, _ => by simp only [RowRel]
  | c :: cs, off, h => by
    simp only [RowRel] at h ⊢
    obtain ⟨h1, ⟨v, h2, h0, h3⟩, h4⟩ := h
    exact ⟨h1, ⟨v, h2, h0, h3.lower e⟩, h4.lower e⟩

theorem emode_pos (pt : Bool) : 1 ≤ emode pt := by cases pt <;> simp [emode]

theorem ofCell_rel {V : Vw} {w : World} {v : Value} {d : DVal} (h : ofCell v = some d) : VRel V w 2 d v := by
  unfold ofCell at h
  split at h <;> simp only [Option.some.injEq, reduceCtorEq] at h <;> subst h <;> simp [VRel]

theorem ofCells_rel {V : Vw} {w : World} : ∀ {vs : List Value} {ds : List DVal}, ofCells vs = some ds → VRels V w 2 ds vs
  | [], _, h => by simp only [ofCells, Option.some.injEq] at h; subst h; simp [VRels]
  | v :: vs, ds, h => by
    simp only [ofCells] at h
    split at h
    · rename_i d ds' h1 h2
      simp only [Option.some.injEq] at h
      subst h
      simp only [VRels]
      exact ⟨v, vs, rfl, ofCell_rel h1, ofCells_rel h2⟩
    · cases h

theorem ofVal_rel {V : Vw} {w : World} {v : Value} {d : DVal} (h : ofVal v = some d) : VRel V w 2 d v := by
  unfold ofVal at h
  split at h
  · rename_i cs
    simp only [Option.map_eq_some_iff] at h
    obtain ⟨ds, h1, rfl⟩ := h
    simp only [VRel]
    exact ⟨cs, rfl, ofCells_rel h1⟩
  · exact ofCell_rel h

theorem opd_rel {V : Vw} {w : World} {env : Nat → DVal} {a : Act} (he : EnvRel V w env a.tmps) {x : Operand} {o : Opd} (h : opd x = some o) : VRel V w 0 (o.val env) (a.eval x) := by
  cases x with
  | tmp t => simp only [opd, Option.some.injEq] at h; subst h; exact he t
  | const v =>
    simp only [opd, Option.map_eq_some_iff] at h
    obtain ⟨d, h1, rfl⟩ := h
    exact (ofVal_rel h1).open'
  | global g => cases h
  | func f =>
    simp only [opd, Option.some.injEq] at h
    subst h
    simp only [Opd.val, VRel, Act.eval]
    exact ⟨by omega, #[], rfl, by simp [VRels]⟩

theorem opds_rel {V : Vw} {w : World} {env : Nat → DVal} {a : Act} (he : EnvRel V w env a.tmps) : ∀ {xs : List Operand} {os : List Opd}, opds xs = some os → VRels V w 0 (os.map (Opd.val env)) (xs.map a.eval)
  | [], _, h => by simp only [opds, Option.some.injEq] at h; subst h; simp [VRels]
  | x :: xs, os, h => by
    simp only [opds] at h
    split at h
    · rename_i d ds h1 h2
      simp only [Option.some.injEq] at h
      subst h
      simp only [List.map_cons, VRels]
      exact ⟨_, _, rfl, opd_rel he h1, opds_rel he h2⟩
    · cases h

theorem plainCell_up {V : Vw} {w : World} {d : DVal} {m n : Nat} {v : Value} (h : VRel V w m d v) (hp : d.plainCell = true) : VRel V w n d v := by
  cases d <;> simp only [DVal.plainCell, reduceCtorEq, Bool.false_eq_true] at hp <;> simpa only [VRel] using h

theorem plainCells_up {V : Vw} {w : World} {m n : Nat} : ∀ {ds : List DVal} {vs : List Value}, VRels V w m ds vs → ds.all DVal.plainCell = true → VRels V w n ds vs
  | [], _, h, _ => by simpa only [VRels] using h
  | d :: ds, _, h, hp => by
    simp only [VRels] at h ⊢
    simp only [List.all_cons, Bool.and_eq_true] at hp
    obtain ⟨v, us, rfl, h1, h2⟩ := h
    exact ⟨v, us, rfl, plainCell_up h1 hp.1, plainCells_up h2 hp.2⟩

theorem plain_up {V : Vw} {w : World} {d : DVal} {m n : Nat} {v : Value} (h : VRel V w m d v) (hp : d.plain = true) : VRel V w n d v := by
  cases d with
  | agg cs =>
    simp only [DVal.plain] at hp
    simp only [VRel] at h ⊢
    obtain ⟨vs, rfl, h1⟩ := h
    exact ⟨vs, rfl, plainCells_up h1 hp⟩
  | _ => exact plainCell_up h (by simpa only [DVal.plain] using hp)

theorem sealCell_rel {V : Vw} {w : World} {d e : DVal} {v : Value} (h : VRel V w 0 d v) (hs : d.sealCell = some e) : VRel V w 2 e v := by
  by_cases hif : ∃ t x, d = .iface t x
  · obtain ⟨t, x, rfl⟩ := hif
    simp only [DVal.sealCell] at hs
    split at hs
    · rename_i hp
      simp only [Option.some.injEq] at hs
      subst hs
      simp only [VRel] at h ⊢
      obtain ⟨u, rfl, h1⟩ := h
      exact ⟨u, rfl, plain_up h1 hp⟩
    · cases hs
  unfold DVal.sealCell at hs
  split at hs <;> (try (exact absurd ⟨_, _, rfl⟩ hif)) <;> simp only [Option.some.injEq, reduceCtorEq] at hs <;> subst hs <;> simp only [VRel] at h ⊢ <;> try exact h
  obtain ⟨-, b, off, cap, rfl, h1, h2, h3⟩ := h
  refine ⟨.inr ⟨trivial, by split <;> omega⟩, b, off, cap, rfl, h1, ⟨by split <;> omega, fun e => ?_, fun e => ?_⟩, h3⟩
  · split at e
    · rename_i e'; exact h2.2.1 e'
    · cases e
  · split at e <;> omega

theorem sealCells_rel {V : Vw} {w : World} : ∀ {ds es : List DVal} {vs : List Value}, VRels V w 0 ds vs → sealCells ds = some es → VRels V w 2 es vs
  | [], _, _, h, hs => by simp only [sealCells, Option.some.injEq] at hs; subst hs; simpa only [VRels] using h
  | d :: ds, _, _, h, hs => by
    simp only [sealCells] at hs
    split at hs
    · rename_i e es h1 h2
      simp only [Option.some.injEq] at hs
      subst hs
      simp only [VRels] at h ⊢
      obtain ⟨v, us, rfl, h3, h4⟩ := h
      exact ⟨v, us, rfl, sealCell_rel h3 h1, sealCells_rel h4 h2⟩
    · cases hs

theorem sealVal_rel {V : Vw} {w : World} {d e : DVal} {v : Value} (h : VRel V w 0 d v) (hs : d.sealVal = some e) : VRel V w 2 e v := by
  cases d with
  | agg cs =>
    simp only [DVal.sealVal, Option.map_eq_some_iff] at hs
    obtain ⟨es, h1, rfl⟩ := hs
    simp only [VRel] at h ⊢
    obtain ⟨vs, rfl, h2⟩ := h
    exact ⟨vs, rfl, sealCells_rel h2 h1⟩
  | _ => exact sealCell_rel h hs

theorem sealVals_rel {V : Vw} {w : World} : ∀ {ds es : List DVal} {vs : List Value}, VRels V w 0 ds vs → sealVals ds = some es → VRels V w 2 es vs
  | [], _, _, h, hs => by simp only [sealVals, Option.some.injEq] at hs; subst hs; simpa only [VRels] using h
  | d :: ds, _, _, h, hs => by
    simp only [sealVals] at hs
    split at hs
    · rename_i e es h1 h2
      simp only [Option.some.injEq] at hs
      subst hs
      simp only [VRels] at h ⊢
      obtain ⟨v, us, rfl, h3, h4⟩ := h
      exact ⟨v, us, rfl, sealVal_rel h3 h1, sealVals_rel h4 h2⟩
    · cases hs

/-! ## Numbers, strings, truth values -/

theorem byteArray_eq (s : ByteArray) : s = ⟨s.data.toList.toArray⟩ := by simp
theorem size_mk (l : List UInt8) : (ByteArray.mk l.toArray).size = l.length := by simp [ByteArray.size]

/-- The real value of a number, a text or a truth value. -/
def toV : DVal → Value
  | .int k n => .int k n
  | .bool b => .bool b
  | .str s => .string ⟨s.toArray⟩
  | _ => Go.undef

theorem binInt_run {P : Program} {V : Vw} {w : World} {op : BinOp} {k : IntKind} {a b : Int} {d : DVal} (t : TypeId) (h : binInt op k a b = some d) :
    (binOp op t (.int k a) (.int k b)).run P w = .ok (toV d) w ∧ VRel V w 0 d (toV d) := by
  cases op <;> simp only [binInt, Option.some.injEq, reduceCtorEq] at h
  case quo =>
    split at h
    · cases h
    · rename_i hb; simp only [Option.some.injEq] at h; subst h
      exact ⟨by simp [binOp, Op.intDiv, hb, toV], by simp [VRel, toV]⟩
  case rem =>
    split at h
    · cases h
    · rename_i hb; simp only [Option.some.injEq] at h; subst h
      exact ⟨by simp [binOp, Op.intDiv, hb, toV], by simp [VRel, toV]⟩
  all_goals subst h
  all_goals refine ⟨?_, by simp [VRel, toV]⟩
  all_goals first
    | (simp [binOp, Op.intArith, toV]; done)
    | (simp [binOp, Op.intCmp, toV]; done)
    | (simp [binOp, Op.intBits, intBits, toV]; done)

theorem binStr_run {P : Program} {V : Vw} {w : World} {op : BinOp} {a b : List UInt8} {d : DVal} (t : TypeId) (h : binStr op a b = some d) :
    (binOp op t (.string ⟨a.toArray⟩) (.string ⟨b.toArray⟩)).run P w = .ok (toV d) w ∧ VRel V w 0 d (toV d) := by
  cases op <;> simp only [binStr, Option.some.injEq, reduceCtorEq] at h
  case add =>
    split at h
    · rename_i hl
      simp only [Option.some.injEq] at h
      subst h
      refine ⟨?_, by simp [VRel, toV]⟩
      have h1 : ¬ (9223372036854775807 : Int) < ((a.length : Int) + (b.length : Int)) := by omega
      have h2 : (⟨a.toArray⟩ ++ ⟨b.toArray⟩ : ByteArray) = ⟨(a ++ b).toArray⟩ := by apply ByteArray.ext; simp
      simp [binOp, Op.stringOp, size_mk, h1, h2, toV]
    · cases h
  all_goals subst h
  all_goals exact ⟨by simp [binOp, Op.stringOp, toV], by simp [VRel, toV]⟩

theorem binSem_run {P : Program} {V : Vw} {w : World} {op : BinOp} {x y d : DVal} {v u : Value} (t : TypeId) (X Y : Operand) (hx : VRel V w 0 x v) (hy : VRel V w 0 y u) (h : binSem op x y = some d) :
    (do eqGuard op t X Y v u; binOp op t v u : Sem Value).run P w = .ok (toV d) w ∧ VRel V w 0 d (toV d) := by
  unfold binSem at h
  split at h
  · rename_i k a k' b
    simp only [VRel] at hx hy
    subst hx hy
    simp only [eqGuard_at_int, Sem.run_bind, Sem.run_pure, Result.andThen_ok]
    split at h
    · split at h
      · cases h
      · rename_i hb
        simp only [Option.some.injEq] at h
        subst h
        refine ⟨?_, by simp only [VRel, toV]⟩
        simp [binOp, Op.shift, hb, toV]
    · split at h
      · cases h
      · rename_i hb
        simp only [Option.some.injEq] at h
        subst h
        refine ⟨?_, by simp only [VRel, toV]⟩
        simp [binOp, Op.shift, hb, toV]
    · split at h
      · rename_i hk
        subst hk
        exact binInt_run t h
      · cases h
  · simp only [VRel] at hx hy
    subst hx hy
    simp only [eqGuard_at_string, Sem.run_bind, Sem.run_pure, Result.andThen_ok]
    exact binStr_run t h
  · cases h

end Go.Proofs.YtdnoonnanhnkaaaDoor
