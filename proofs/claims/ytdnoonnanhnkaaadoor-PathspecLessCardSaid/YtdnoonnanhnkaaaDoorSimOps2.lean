/- Structs, written-out slices, parts of strings and slices. -/
import Derived.Test.YtdnoonnanhnkaaaDoorSimOps
set_option linter.unusedVariables false
set_option linter.unusedSimpArgs false
namespace Go.Proofs.YtdnoonnanhnkaaaDoor
open Go

theorem okCell_one {V : Vw} {w : World} {d : DVal} {v : Value} (h : VRel V w 0 d v) (hd : d.okCell = true) : v.oneCell' = true := by
  cases d <;> simp [DVal.okCell] at hd <;> simp only [VRel] at h
  all_goals first
    | (subst h; rfl)
    | (obtain ⟨-, -, rfl⟩ := h; rfl)
    | (obtain ⟨-, b, off, cap, rfl, -⟩ := h; rfl)
    | (obtain ⟨-, vs, rfl, -⟩ := h; rfl)
    | (obtain ⟨u, rfl, -⟩ := h; rfl)
    | (obtain ⟨-, -, -, rfl⟩ := h; rfl)

theorem okCells_one {V : Vw} {w : World} : ∀ {ds : List DVal} {vs : List Value}, VRels V w 0 ds vs → ds.all DVal.okCell = true → ∀ v ∈ vs, v.oneCell' = true
  | [], vs, h, _, v, hv => by simp only [VRels] at h; subst h; simp at hv
  | d :: ds, vs, h, hd, v, hv => by
    simp only [VRels] at h
    obtain ⟨u, us, rfl, h1, h2⟩ := h
    simp only [List.all_cons, Bool.and_eq_true] at hd
    rcases List.mem_cons.1 hv with rfl | hv
    · exact okCell_one h1 hd.1
    · exact okCells_one h2 hd.2 v hv

theorem sealCell_one {V : Vw} {w : World} {d e : DVal} {v : Value} (h : VRel V w 0 d v) (hs : d.sealCell = some e) : v.oneCell' = true := by
  cases d <;> simp only [DVal.sealCell, reduceCtorEq] at hs <;> simp only [VRel] at h
  all_goals first
    | (subst h; rfl)
    | (obtain ⟨-, b, off, cap, rfl, -⟩ := h; rfl)
    | (obtain ⟨u, rfl, -⟩ := h; rfl)

theorem sealCells_one {V : Vw} {w : World} : ∀ {ds es : List DVal} {vs : List Value}, VRels V w 0 ds vs → sealCells ds = some es → ∀ v ∈ vs, v.oneCell' = true
  | [], _, vs, h, _, v, hv => by simp only [VRels] at h; subst h; simp at hv
  | d :: ds, es, vs, h, hs, v, hv => by
    simp only [VRels] at h
    obtain ⟨u, us, rfl, h1, h2⟩ := h
    simp only [sealCells] at hs
    split at hs
    · rename_i e es h3 h4
      rcases List.mem_cons.1 hv with rfl | hv
      · exact sealCell_one h1 h3
      · exact sealCells_one h2 h4 v hv
    · cases hs

theorem mapM_run {α β : Type} {P : Program} {w : World} {g : α → Sem β} {h : α → β} : ∀ {l : List α}, (∀ x ∈ l, (g x).run P w = .ok (h x) w) → (l.mapM g).run P w = .ok (l.map h) w
  | [], _ => by simp
  | x :: l, hl => by
    have h1 := hl x (by simp)
    have h2 := mapM_run (P := P) (w := w) (g := g) (h := h) (l := l) (fun y hy => hl y (by simp [hy]))
    simp [List.mapM_cons, h1, h2]

theorem arrMapM_run {α β : Type} {P : Program} {w : World} {g : α → Sem β} {h : α → β} {l : Array α} (hl : ∀ x ∈ l.toList, (g x).run P w = .ok (h x) w) : (l.mapM g).run P w = .ok (l.map h) w := by
  rw [Array.mapM_eq_mapM_toList]
  simp only [Sem.run_map, mapM_run hl, Result.andThen_ok]
  congr 1
  exact Array.ext' (by simp)

/-- Cells put into others. -/
theorem foldl_put : ∀ (vs : List Value) (k off : Nat) (cs : Array Value), off + k + vs.length ≤ cs.size →
    ((vs.zipIdx k).foldl (fun (cs : Array Value) (x : Value × Nat) => cs.setIfInBounds (off + x.2) x.1) cs).toList = cs.toList.take (off + k) ++ vs ++ cs.toList.drop (off + k + vs.length)
  | [], k, off, cs, _ => by simp
  | v :: vs, k, off, cs, h => by
    simp only [List.length_cons] at h
    have ih := foldl_put vs (k + 1) off (cs.setIfInBounds (off + k) v) (by simp; omega)
    simp only [List.zipIdx_cons, List.foldl_cons]
    rw [ih]
    have hlt : off + k < cs.toList.length := by simp; omega
    simp only [Array.toList_setIfInBounds, List.length_cons]
    rw [List.take_set, List.drop_set]
    rw [show off + (k + 1) = off + k + 1 by omega, List.take_succ_eq_append_getElem hlt]
    rw [if_pos (by omega)]
    rw [List.set_append_right _ _ (by simp; omega)]
    simp only [List.length_take]
    rw [show min (off + k) cs.toList.length = off + k by omega, Nat.sub_self]
    simp [List.append_assoc]
    congr 1
    omega

theorem fill_one {n off : Nat} {v : Value} {cells : Array Value} (hv : v.cells.size = n) (hl : off + n ≤ cells.size) :
    (v.cells.zipIdx.foldl (fun cs (c, j) => cs.setIfInBounds (off + j) c) cells).toList = cells.toList.take off ++ v.cells.toList ++ cells.toList.drop (off + n) := by
  have := foldl_put v.cells.toList 0 off cells (by simp; omega)
  rw [← Array.foldl_toList]
  simp only [Array.toList_zipIdx] at this ⊢
  rw [show off + n = off + 0 + v.cells.toList.length by simp; omega]
  simpa using this

theorem writeCells_rel {V : Vw} {w : World} {cl : Nat} {cs new cs' : List DVal} {vs us : List Value} {off : Nat} (h : VRels V w cl cs vs) (hn : VRels V w cl new us) (hw : writeCells cs off new = some cs') :
    off + us.length ≤ vs.length ∧ VRels V w cl cs' (vs.take off ++ us ++ vs.drop (off + us.length)) := by
  simp only [writeCells] at hw
  split at hw
  · rename_i hl
    simp only [Option.some.injEq] at hw
    subst hw
    have e1 := h.length
    have e2 := hn.length
    refine ⟨by omega, ?_⟩
    rw [← List.append_assoc, e2]
    exact ((h.take off).append hn).append (h.drop _)
  · cases hw

theorem fill_rel {V : Vw} {w : World} {cl : Nat} {place : Nat → Option (Nat × Nat)} : ∀ {is : List Nat} {ps : List (Nat × Nat)} {cs ds cs' : List DVal} {cells : Array Value} {us : List Value},
    (∀ (k i : Nat) (p : Nat × Nat), is[k]? = some i → ps[k]? = some p → place i = some p) → is.length = ps.length → VRels V w cl cs cells.toList → VRels V w cl ds us → fillCells cs ps ds = some cs' →
    ∃ cells', Instr.fill place cells (is.zip us) = some cells' ∧ VRels V w cl cs' cells'.toList
  | [], [], cs, ds, cs', cells, us, _, _, h1, h2, hf => by
    cases ds with
    | nil => simp only [fillCells, Option.some.injEq] at hf; subst hf; exact ⟨cells, by simp [Instr.fill], h1⟩
    | cons d ds => simp [fillCells] at hf
  | i :: is, p :: ps, cs, ds, cs', cells, us, hp, hlen, h1, h2, hf => by
    obtain ⟨off, n⟩ := p
    cases ds with
    | nil => simp [fillCells] at hf
    | cons d ds =>
      simp only [VRels] at h2
      obtain ⟨v, us, rfl, h3, h4⟩ := h2
      simp only [fillCells] at hf
      split at hf
      · rename_i hn
        simp only [Option.bind_eq_some_iff] at hf
        obtain ⟨cs1, hw, hf⟩ := hf
        have hc := h3.cells
        have hsz : v.cells.size = n := by have := hc.length; simp at this; omega
        obtain ⟨hl, hr⟩ := writeCells_rel h1 hc hw
        simp only [Array.length_toList] at hl
        have hfo := fill_one (off := off) (cells := cells) hsz (by omega)
        have hr' : VRels V w cl cs1 (v.cells.zipIdx.foldl (fun cs (c, j) => cs.setIfInBounds (off + j) c) cells).toList := by
          rw [hfo]
          rw [show v.cells.toList.length = n by simp [hsz]] at hr
          exact hr
        obtain ⟨cells', g1, g2⟩ := fill_rel (is := is) (fun k i p hi hp' => hp (k + 1) i p (by simpa using hi) (by simpa using hp')) (by simpa using hlen) hr' h4 hf
        refine ⟨cells', ?_, g2⟩
        have hpl := hp 0 i (off, n) (by simp) (by simp)
        have hno : ¬ (cells.size < off + v.cells.size) := by omega
        simp only [List.zip_cons_cons, Instr.fill, hpl, hsz]
        rw [if_neg (by simp; omega)]
        exact g1
      · cases hf
  | [], _ :: _, _, _, _, _, _, _, h, _, _, _ => by simp at h
  | _ :: _, [], _, _, _, _, _, _, h, _, _, _ => by simp at h

theorem places_get {P : Program} {fs : Array Field} : ∀ {is : List Nat} {ps : List (Nat × Nat)}, places P fs is = some ps → is.length = ps.length ∧ ∀ (k i : Nat) (p : Nat × Nat), is[k]? = some i → ps[k]? = some p → ∃ f n, fs[i]? = some f ∧ szOf P f.type = some n ∧ p = (f.offset, n)
  | [], ps, h => by simp only [places, Option.some.injEq] at h; subst h; exact ⟨rfl, fun k i p hi => by simp at hi⟩
  | j :: is, ps, h => by
    simp only [places] at h
    split at h
    · rename_i f qs h1 h2
      simp only [Option.map_eq_some_iff] at h
      obtain ⟨n, h3, rfl⟩ := h
      obtain ⟨h4, h5⟩ := places_get h2
      refine ⟨by simp [h4], fun k i p hi hp => ?_⟩
      cases k with
      | zero => simp at hi hp; subst hi hp; exact ⟨f, n, h1, h3, rfl⟩
      | succ k => exact h5 k i p (by simpa using hi) (by simpa using hp)
    · cases h

theorem zip_parts (a : Act) : ∀ (l : List (Nat × Operand)), (l.map fun (i, x) => (i, a.eval x)) = (l.map (·.1)).zip ((l.map (·.2)).map a.eval)
  | [] => rfl
  | x :: l => by simp [List.zip_cons_cons, zip_parts a l]

theorem szOf_of {P : Program} {t : TypeId} {i : TypeInfo} (h : P.info? t = some i) : szOf P t = some i.size := by simp [szOf, h]

section
variable {P : Program} {h : Hint} {V : Vw} {w : World} {L : Nat → Nat × DVal} {σ : Sto} {env : Nat → DVal} {a : Act} {d : DVal} {o : Oper}

theorem build_sound (hi : Inv V L σ w) (he : EnvRel V w env a.tmps) {t : TypeId} {parts : Array (Nat × Operand)} {fs : Array Field} {z : List DVal} {ps : List (Nat × Nat)} {qs : List Opd} (ho : o.op = .build t parts)
    (hu : P.underlying t = some (.struct fs)) (hz : ((P.info? t).bind (·.zero)).bind ofVal = some (.agg z)) (hall : ∀ f ∈ fs.toList, (szOf P f.type).isSome = true) (hp : places P fs (parts.toList.map (·.1)) = some ps)
    (hq : opds (parts.toList.map (·.2)) = some qs) (hs : (fillCells z ps (qs.map (Opd.val env))).map DVal.agg = some d) : OpWp P o a w (Res V w L σ d) := by
  have h1 := opds_rel (a := a) he hq
  simp only [Option.bind_eq_some_iff] at hz
  obtain ⟨zv, ⟨i, hi1, hi2⟩, hz2⟩ := hz
  have hzr : VRel V w 0 (.agg z) zv := (ofVal_rel (V := V) (w := w) hz2).open'
  simp only [VRel] at hzr
  obtain ⟨zs, rfl, hzr⟩ := hzr
  simp only [Option.map_eq_some_iff] at hs
  obtain ⟨cs', hf, rfl⟩ := hs
  obtain ⟨hlen, hget⟩ := places_get hp
  obtain ⟨cells', g1, g2⟩ := fill_rel (place := fun k => (fs.map fun (f : Field) => (f.offset, (szOf P f.type).getD 0))[k]?) (fun k i p hi hp' => by
    obtain ⟨f, n, a1, a2, rfl⟩ := hget k i p hi hp'
    simp [a1, a2]) hlen hzr h1 hf
  have hm := arrMapM_run (P := P) (w := w) (l := fs) (g := fun (f : Field) => do pure (f.offset, ← sizeOf f.type)) (h := fun (f : Field) => (f.offset, (szOf P f.type).getD 0)) (fun f hf => by
    obtain ⟨n, hn⟩ := Option.isSome_iff_exists.1 (hall f hf)
    simp [run_sizeOf hn, hn])
  refine OpWp.value (v := .agg cells') (w' := w) ?_ (Res.same hi (by simp only [VRel]; exact ⟨_, rfl, g2⟩))
  have hzip : (parts.map fun (i, x) => (i, a.eval x)).toList = (parts.toList.map (·.1)).zip ((parts.toList.map (·.2)).map a.eval) := by
    rw [Array.toList_map]
    exact zip_parts a parts.toList
  rw [← hzip] at g1
  simp only [execOp, ho, Instr.build, Sem.run_bind, zeroValue, typeInfo, run_program, Result.andThen_ok, hi1, hi2, Sem.run_pure, run_underlying hu, Value.cells]
  rw [hm]
  simp only [Result.andThen_ok, g1, Sem.run_pure]

theorem buildA_sound (hi : Inv V L σ w) (he : EnvRel V w env a.tmps) {t e : TypeId} {len k : Nat} {parts : Array (Nat × Operand)} {z : List DVal} {qs : List Opd} (ho : o.op = .build t parts)
    (hu : P.underlying t = some (.array len e)) (hz : ((P.info? t).bind (·.zero)).bind ofVal = some (.agg z)) (hk : szOf P e = some k)
    (hq : opds (parts.toList.map (·.2)) = some qs) (hs : (fillCells z (parts.toList.map fun p => (p.1 * k, k)) (qs.map (Opd.val env))).map DVal.agg = some d) : OpWp P o a w (Res V w L σ d) := by
  have h1 := opds_rel (a := a) he hq
  simp only [Option.bind_eq_some_iff] at hz
  obtain ⟨zv, ⟨i, hi1, hi2⟩, hz2⟩ := hz
  have hzr : VRel V w 0 (.agg z) zv := (ofVal_rel (V := V) (w := w) hz2).open'
  simp only [VRel] at hzr
  obtain ⟨zs, rfl, hzr⟩ := hzr
  simp only [Option.map_eq_some_iff] at hs
  obtain ⟨cs', hf, rfl⟩ := hs
  obtain ⟨cells', g1, g2⟩ := fill_rel (place := fun i => some (i * k, k)) (is := parts.toList.map (·.1)) (fun j i p hi hp' => by
    rw [List.getElem?_map, Option.map_eq_some_iff] at hi hp'
    obtain ⟨x, hx, rfl⟩ := hi
    obtain ⟨y, hy, rfl⟩ := hp'
    rw [hx] at hy
    cases hy
    rfl) (by simp) hzr h1 hf
  refine OpWp.value (v := .agg cells') (w' := w) ?_ (Res.same hi (by simp only [VRel]; exact ⟨_, rfl, g2⟩))
  have hzip : (parts.map fun (i, x) => (i, a.eval x)).toList = (parts.toList.map (·.1)).zip ((parts.toList.map (·.2)).map a.eval) := by
    rw [Array.toList_map]
    exact zip_parts a parts.toList
  rw [← hzip] at g1
  simp only [execOp, ho, Instr.build, Sem.run_bind, zeroValue, typeInfo, run_program, Result.andThen_ok, hi1, hi2, Sem.run_pure, run_underlying hu, Value.cells, run_sizeOf hk, g1]

theorem RowRel.mk {V : Vw} {w : World} {cl : Nat} {b : Nat} : ∀ {cs : List DVal} {off : Nat} {vs : List Value}, (∀ i, i < cs.length → V.imm b (off + i)) → VRels V w cl cs vs → (∀ i v, vs[i]? = some v → w.cell? ⟨b, off + i, none⟩ = some v ∧ v.oneCell' = true) → RowRel V w cl b off cs
  | [], off, vs, _, _, _ => by simp [RowRel]
  | c :: cs, off, vs, h1, h2, h3 => by
    simp only [VRels] at h2
    obtain ⟨v, us, rfl, h4, h5⟩ := h2
    simp only [RowRel]
    refine ⟨by simpa using h1 0 (by simp), ⟨v, by simpa using (h3 0 v (by simp)).1, (h3 0 v (by simp)).2, h4⟩, RowRel.mk (fun i hi => ?_) h5 (fun i u hu => ?_)⟩
    · rw [show off + 1 + i = off + (i + 1) by omega]; exact h1 (i + 1) (by simpa using hi)
    · rw [show off + 1 + i = off + (i + 1) by omega]; exact h3 (i + 1) u (by simpa using hu)

theorem RowsRel.mk {V : Vw} {w : World} {cl : Nat} {b sz : Nat} : ∀ {es : List (List DVal)} {off : Nat} {vs : List Value}, (∀ e ∈ es, e.length = sz) → (∀ i, i < es.flatten.length → V.imm b (off + i)) → VRels V w cl es.flatten vs →
    (∀ i v, vs[i]? = some v → w.cell? ⟨b, off + i, none⟩ = some v ∧ v.oneCell' = true) → RowsRel V w cl b sz off es
  | [], off, vs, _, _, _, _ => by simp [RowsRel]
  | e :: es, off, vs, h0, h1, h2, h3 => by
    rw [List.flatten_cons] at h1 h2
    obtain ⟨us, ws, rfl, h4, h5⟩ := h2.of_append
    have he := h0 e (by simp)
    have hl := h4.length
    simp only [RowsRel]
    refine ⟨he, RowRel.mk (fun i hi => h1 i (by rw [List.length_append]; omega)) h4 (fun i v hv => h3 i v ?_), RowsRel.mk (fun e' he' => h0 e' (by simp [he'])) (fun i hi => ?_) h5 (fun i v hv => ?_)⟩
    · rw [List.getElem?_append_left (List.getElem?_eq_some_iff.1 hv).1]; exact hv
    · rw [show off + sz + i = off + (sz + i) by omega]; exact h1 (sz + i) (by rw [List.length_append]; omega)
    · rw [show off + sz + i = off + (sz + i) by omega]
      refine h3 (sz + i) v ?_
      rw [List.getElem?_append_right (by omega)]
      rw [show sz + i - us.length = i by omega]
      exact hv

theorem RowsRel.vals {V : Vw} {w : World} {cl : Nat} {b sz : Nat} : ∀ {es : List (List DVal)} {off : Nat}, RowsRel V w cl b sz off es → (∀ e ∈ es, e.length = sz) ∧ (∀ i, i < es.flatten.length → V.imm b (off + i)) ∧
    ∃ vs, VRels V w cl es.flatten vs ∧ ∀ i v, vs[i]? = some v → w.cell? ⟨b, off + i, none⟩ = some v ∧ v.oneCell' = true
  | [], off, _ => ⟨by simp, by simp, [], by simp [VRels], by simp⟩
  | e :: es, off, h => by
    simp only [RowsRel] at h
    obtain ⟨h1, h2, h3⟩ := h
    obtain ⟨k1, k2, ws, k3, k4⟩ := RowsRel.vals h3
    obtain ⟨us, m1, m2⟩ := h2.vals
    have hl := m1.length
    refine ⟨by simpa [h1] using k1, fun i hi => ?_, us ++ ws, by rw [List.flatten_cons]; exact m1.append k3, fun i v hv => ?_⟩
    · rw [List.flatten_cons, List.length_append] at hi
      by_cases hc : i < e.length
      · have hg : e[i]? = some e[i] := List.getElem?_eq_getElem hc
        exact (h2.get hg).1
      · have := k2 (i - e.length) (by omega)
        rw [show off + sz + (i - e.length) = off + i by omega] at this
        exact this
    · by_cases hc : i < us.length
      · rw [List.getElem?_append_left hc] at hv
        exact m2 i v hv
      · rw [List.getElem?_append_right (by omega)] at hv
        have := k4 _ v hv
        rw [show off + sz + (i - us.length) = off + i by omega] at this
        exact this

theorem flatten_length {sz : Nat} : ∀ {es : List (List DVal)}, (∀ e ∈ es, e.length = sz) → es.flatten.length = es.length * sz
  | [], _ => by simp
  | e :: es, h => by
    have h1 := h e (by simp)
    have h2 := flatten_length (es := es) (fun x hx => h x (by simp [hx]))
    simp only [List.flatten_cons, List.length_append, List.length_cons, Nat.add_mul]
    omega

theorem RowsRel.drop {V : Vw} {w : World} {cl : Nat} {b sz : Nat} : ∀ {es : List (List DVal)} {off : Nat} (n : Nat), RowsRel V w cl b sz off es → RowsRel V w cl b sz (off + n * sz) (es.drop n)
  | es, off, 0, h => by simpa using h
  | [], off, n + 1, h => by simp [RowsRel]
  | e :: es, off, n + 1, h => by
    simp only [RowsRel] at h
    have := RowsRel.drop n h.2.2
    rw [show off + sz + n * sz = off + (n + 1) * sz by rw [Nat.add_mul]; omega] at this
    simpa using this

theorem RowsRel.take {V : Vw} {w : World} {cl : Nat} {b sz : Nat} : ∀ {es : List (List DVal)} {off : Nat} (n : Nat), RowsRel V w cl b sz off es → RowsRel V w cl b sz off (es.take n)
  | es, off, 0, h => by simp [RowsRel]
  | [], off, n + 1, h => by simp [RowsRel]
  | e :: es, off, n + 1, h => by
    simp only [RowsRel, List.take_succ_cons] at h ⊢
    exact ⟨h.1, h.2.1, h.2.2.take n⟩

theorem sealElems_rel {V : Vw} {w : World} {pt : Bool} {sz : Nat} : ∀ {ds : List DVal} {us : List Value} {es : List (List DVal)}, VRels V w 0 ds us → sealElems pt sz ds = some es →
    (∀ e ∈ es, e.length = sz) ∧ VRels V w (emode pt) es.flatten (us.flatMap fun u => u.cells.toList) ∧ (∀ u ∈ us, u.cells.size = sz ∧ ∀ c ∈ u.cells.toList, c.oneCell' = true) ∧ es.length = us.length
  | [], us, es, h, hs => by
    simp only [sealElems, Option.some.injEq] at hs
    simp only [VRels] at h
    subst hs h
    simp [VRels]
  | d :: ds, us, es, h, hs => by
    simp only [VRels] at h
    obtain ⟨v, us, rfl, h1, h2⟩ := h
    simp only [sealElems] at hs
    split at hs
    · rename_i hn
      split at hs
      · rename_i e es' he hes
        simp only [Option.some.injEq] at hs
        subst hs
        obtain ⟨k1, k2, k3, k4⟩ := sealElems_rel h2 hes
        have hc := h1.cells
        have hsz : v.cells.size = sz := by have := hc.length; simp at this; omega
        have hel : VRels V w (emode pt) e v.cells.toList ∧ e.length = sz ∧ ∀ c ∈ v.cells.toList, c.oneCell' = true := by
          cases pt with
          | true =>
            simp only [if_true] at he
            split at he
            · rename_i hall
              simp only [Option.some.injEq] at he
              subst he
              exact ⟨okCells_up hc hall, hn, okCells_one hc hall⟩
            · cases he
          | false =>
            simp only [Bool.false_eq_true, if_false] at he
            have hr := sealCells_rel hc he
            exact ⟨hr, by have := hr.length; simp at this; omega, sealCells_one hc he⟩
        refine ⟨by simpa [hel.2.1] using k1, ?_, ?_, by simp [k4]⟩
        rotate_left
        · intro u hu
          rcases List.mem_cons.1 hu with rfl | hu
          · exact ⟨hsz, hel.2.2⟩
          · exact k3 u hu
        rw [List.flatten_cons, List.flatMap_cons]
        exact hel.1.append k2
      · cases hs
    · cases hs

theorem fillAll {sz : Nat} : ∀ {us : List Value} {k : Nat} {cells : Array Value}, (∀ u ∈ us, u.cells.size = sz) → (k + us.length) * sz ≤ cells.size →
    ∃ cells', Instr.fill (fun i => some (i * sz, sz)) cells ((List.range' k us.length).zip us) = some cells' ∧ cells'.toList = cells.toList.take (k * sz) ++ (us.flatMap fun u => u.cells.toList) ++ cells.toList.drop ((k + us.length) * sz)
  | [], k, cells, _, _ => ⟨cells, by simp [Instr.fill], by simp⟩
  | u :: us, k, cells, h, hl => by
    have hu := h u (by simp)
    simp only [List.length_cons] at hl
    have h1 : (k + 1) * sz ≤ (k + (us.length + 1)) * sz := Nat.mul_le_mul_right _ (by omega)
    have h1' : (k + 1) * sz = k * sz + sz := by rw [Nat.add_mul, Nat.one_mul]
    have hf := fill_one (off := k * sz) (cells := cells) hu (by omega)
    have hsize : (u.cells.zipIdx.foldl (fun cs (c, j) => cs.setIfInBounds (k * sz + j) c) cells).size = cells.size := by
      have := congrArg List.length hf
      rw [Array.length_toList] at this
      rw [this]
      simp
      omega
    obtain ⟨cells', g1, g2⟩ := fillAll (us := us) (k := k + 1) (cells := u.cells.zipIdx.foldl (fun cs (c, j) => cs.setIfInBounds (k * sz + j) c) cells) (fun x hx => h x (by simp [hx])) (by rw [hsize, show k + 1 + us.length = k + (us.length + 1) by omega]; exact hl)
    refine ⟨cells', ?_, ?_⟩
    · simp only [List.length_cons, List.range'_succ, List.zip_cons_cons, Instr.fill, hu]
      rw [if_neg (by simp; omega)]
      exact g1
    · rw [g2, hf, List.flatMap_cons]
      simp only [List.length_cons]
      rw [show k + 1 + us.length = k + (us.length + 1) by omega]
      have e1 : (List.take (k * sz) cells.toList ++ u.cells.toList ++ List.drop (k * sz + sz) cells.toList).take ((k + 1) * sz) = List.take (k * sz) cells.toList ++ u.cells.toList := by
        rw [List.take_left']
        simp; omega
      have e2 : (List.take (k * sz) cells.toList ++ u.cells.toList ++ List.drop (k * sz + sz) cells.toList).drop ((k + (us.length + 1)) * sz) = cells.toList.drop ((k + (us.length + 1)) * sz) := by
        rw [List.drop_append]
        have hlen : (List.take (k * sz) cells.toList ++ u.cells.toList).length = (k + 1) * sz := by simp; omega
        rw [List.drop_eq_nil_of_le (by rw [hlen]; exact h1), hlen, List.nil_append, List.drop_drop]
        congr 1
        omega
      rw [e1, e2]
      simp [List.append_assoc]

theorem bslice_sound (hi : Inv V L σ w) (he : EnvRel V w env a.tmps) {t e : TypeId} {len : Nat} {parts : Array (Nat × Operand)} {i : TypeInfo} {pt : Bool} {qs : List Opd} (ho : o.op = .buildSlice t len parts)
    (hu : P.underlying t = some (.slice e)) (hi1 : P.info? e = some i) (hz : i.zero.isSome = true) (hsmall : len * i.size ≤ 2 ^ 24) (hp : parts.toList.map (·.1) = List.range len)
    (hq : opds (parts.toList.map (·.2)) = some qs) (hs : (sealElems pt i.size (qs.map (Opd.val env))).map (fun es => DVal.slice pt 1 i.size es) = some d) : OpWp P o a w (Res V w L σ d) := by
  have h1 := opds_rel (a := a) he hq
  simp only [Option.map_eq_some_iff] at hs
  obtain ⟨es, hes, rfl⟩ := hs
  obtain ⟨k1, k2, k3, k4⟩ := sealElems_rel h1 hes
  obtain ⟨z, hz⟩ := Option.isSome_iff_exists.1 hz
  have hlen : ((parts.toList.map (·.2)).map a.eval).length = len := by
    have := congrArg List.length hp
    simpa using this
  let zeroCells : Array Value := if len * i.size = 0 then #[] else z.cells
  obtain ⟨cells', g1, g2⟩ := fillAll (us := (parts.toList.map (·.2)).map a.eval) (k := 0) (cells := (Array.range (len * i.size)).map (zeroCells[· % zeroCells.size]!)) (fun u hu => (k3 u hu).1) (by simp at hlen ⊢; rw [hlen]; exact Nat.le_refl _)
  rw [hlen] at g1 g2
  have hcells : cells'.toList = ((parts.toList.map (·.2)).map a.eval).flatMap fun u => u.cells.toList := by
    rw [g2]
    rw [List.drop_eq_nil_of_le (by simp)]
    simp
  obtain ⟨ha, hinv⟩ := hi.newImm (.cells cells' e)
  have hzip := zip_parts a parts.toList
  rw [hp] at hzip
  have hk2 := VRels.ext ha.ei _ (emode pt) _ (fun _ => ha.er) (fun _ => ha.el) k2
  refine OpWp.value (v := .slice (some ⟨w.heap.size, 0, none⟩) len len) (w' := w.alloc (.cells cells' e)) ?_ ⟨_, ha, hinv, ?_⟩
  · rw [List.range_eq_range', ← Array.toList_map] at hzip
    rw [← hzip] at g1
    have hno : ¬ (16777216 < len * i.size) := by omega
    simp only [execOp, ho, Instr.buildSlice, Sem.run_bind, run_underlying hu, Result.andThen_ok, run_sizeOf (szOf_of hi1), Sem.run_ite]
    rw [if_neg (by omega)]
    simp only [Sem.run_pure, Result.andThen_ok]
    by_cases h0 : len * i.size = 0
    · simp only [h0, if_true, Sem.run_pure, Result.andThen_ok]
      simp only [zeroCells, h0, if_true] at g1
      simp only [g1, newRow, Sem.run_bind, run_newObj, Result.andThen_ok, Sem.run_pure]
      rfl
    · simp only [h0, if_false, Sem.run_bind, zeroValue, typeInfo, run_program, Result.andThen_ok, hi1, hz, Sem.run_pure]
      simp only [zeroCells, h0, if_false] at g1
      simp only [g1, newRow, Sem.run_bind, run_newObj, Result.andThen_ok, Sem.run_pure]
      rfl
  · have hel : es.length = len := by rw [k4, hlen]
    simp only [VRel]
    refine ⟨.inl (by omega), w.heap.size, 0, len, by rw [hel], by omega, ⟨by omega, fun _ => hel.symm, fun e => by omega⟩, ?_⟩
    refine RowsRel.mk k1 (fun j hj => ?_) hk2 (fun j v hv => ?_)
    · refine .inr ⟨hi.hB, .inl ?_⟩
      simp [upd]
    · constructor
      · rw [cell_of_row _ _ _ _ _ _ (heap_alloc_new w _)]
        rw [← hcells] at hv
        simpa using hv
      · obtain ⟨u, hu, hc⟩ := List.mem_flatMap.1 (List.mem_of_getElem? hv)
        exact (k3 u hu).2 v hc

theorem len2 {α : Type} {xs : List α} (h : xs.length = 2) : ∃ x y, xs = [x, y] := by
  match xs, h with
  | [x, y], _ => exact ⟨x, y, rfl⟩
theorem len3 {α : Type} {xs : List α} (h : xs.length = 3) : ∃ x y z, xs = [x, y, z] := by
  match xs, h with
  | [x, y, z], _ => exact ⟨x, y, z, rfl⟩

theorem slcOwn {V : Vw} {w : World} {own sz len b off cap l h : Nat} {lo m : Bool} (ho : OwnRel V w own sz len b off cap) (h1 : l ≤ h) (h2 : h ≤ len) (h0 : lo = false → l = 0) :
    OwnRel V w (if m then 1 else if lo then 0 else if own = 1 then 0 else own) sz (h - l) b (if lo then off + l * sz else off) ((if m then h else cap) - l) := by
  obtain ⟨o1, o2, o3⟩ := ho
  cases m with
  | true => exact ⟨by simp, fun _ => by simp, fun e => by simp at e⟩
  | false =>
    cases lo with
    | true => exact ⟨by simp, fun e => by simp at e, fun e => by simp at e⟩
    | false =>
      have := h0 rfl
      subst this
      simp only [Bool.false_eq_true, if_false, Nat.sub_zero]
      by_cases e1 : own = 1
      · rw [if_pos e1]
        exact ⟨by simp, fun e => by simp at e, fun e => by simp at e⟩
      · rw [if_neg e1]
        refine ⟨o1, fun e => absurd e e1, fun e => ?_⟩
        obtain ⟨p1, p2, p3⟩ := o3 e
        have hle : h * sz ≤ len * sz := Nat.mul_le_mul_right _ h2
        exact ⟨p1, by omega, fun ez => p3 (by omega)⟩

theorem optCount_some (x : Operand) : optCount (some x) = [x] := rfl
theorem optCount_none : optCount none = [] := rfl

/-- The bounds of a slice expression. -/
theorem bounds_run {isSlice : Bool} {lo hi mx : Option Operand} {len cap : Nat} {xs : List DVal} {l h : Nat} (hcap : len ≤ cap)
    (hr : VRels V w 0 xs ((optCount lo ++ optCount hi ++ optCount mx).map a.eval)) (hb : bounds lo.isSome hi.isSome mx.isSome len xs = some (l, h)) :
    l ≤ h ∧ h ≤ len ∧ (lo = none → l = 0) ∧ (Instr.sliceBounds isSlice len cap (lo.map a.eval) (hi.map a.eval) (mx.map a.eval)).run P w = .ok (l, h, if mx.isSome then h else cap) w := by
  cases lo <;> cases hi <;> cases mx <;> simp only [Option.isSome_none, Option.isSome_some, optCount_some, optCount_none, List.nil_append, List.append_nil, List.cons_append, List.map_cons, List.map_nil] at hr hb
  · -- no bound
    cases xs with
    | nil =>
      simp only [bounds, Option.some.injEq, Prod.mk.injEq] at hb
      obtain ⟨rfl, rfl⟩ := hb
      refine ⟨Nat.zero_le _, Nat.le_refl _, fun _ => rfl, ?_⟩
      simp [Instr.sliceBounds]
    | cons x xs => simp [bounds] at hb
  · -- max alone
    rename_i m
    cases xs <;> simp [bounds] at hb
  · -- high
    rename_i hiO
    obtain ⟨x, rfl⟩ : ∃ x, xs = [x] := by
      have := hr.length
      simp at this
      exact List.length_eq_one_iff.1 (by omega)
    obtain ⟨v, hv, h1⟩ := hr.one
    simp only [List.cons.injEq, and_true] at hv
    cases x <;> simp only [bounds, reduceCtorEq] at hb
    rename_i k j
    simp only [VRel] at h1
    split at hb
    · rename_i hc
      simp only [Option.some.injEq, Prod.mk.injEq] at hb
      obtain ⟨rfl, rfl⟩ := hb
      refine ⟨Nat.zero_le _, by omega, fun _ => rfl, ?_⟩
      rw [h1] at hv
      simp [Instr.sliceBounds, hv, run_sliceBound w k j cap _ hc.1 (by omega)]
    · cases hb
  · -- high and max
    rename_i hiO mO
    obtain ⟨x, y, rfl⟩ : ∃ x y, xs = [x, y] := by
      have := hr.length
      simp at this
      exact len2 (by omega)
    obtain ⟨v, u, hv, h1, h2⟩ := hr.two
    simp only [List.cons.injEq, and_true] at hv
    cases x <;> cases y <;> simp only [bounds, reduceCtorEq] at hb
    rename_i k j k' m
    simp only [VRel] at h1 h2
    split at hb
    · rename_i hc
      obtain ⟨c1, c2, rfl⟩ := hc
      simp only [Option.some.injEq, Prod.mk.injEq] at hb
      obtain ⟨rfl, rfl⟩ := hb
      refine ⟨Nat.zero_le _, by omega, fun _ => rfl, ?_⟩
      rw [h1, h2] at hv
      simp [Instr.sliceBounds, hv.1, hv.2, run_sliceBound w k' m cap _ c1 (by omega), run_sliceBound w k m m.toNat _ c1 (by omega)]
    · cases hb
  · -- low
    rename_i loO
    obtain ⟨x, rfl⟩ : ∃ x, xs = [x] := by
      have := hr.length
      simp at this
      exact List.length_eq_one_iff.1 (by omega)
    obtain ⟨v, hv, h1⟩ := hr.one
    simp only [List.cons.injEq, and_true] at hv
    cases x <;> simp only [bounds, reduceCtorEq] at hb
    rename_i k j
    simp only [VRel] at h1
    split at hb
    · rename_i hc
      simp only [Option.some.injEq, Prod.mk.injEq] at hb
      obtain ⟨rfl, rfl⟩ := hb
      refine ⟨by omega, Nat.le_refl _, fun e => by simp at e, ?_⟩
      rw [h1] at hv
      simp [Instr.sliceBounds, hv, run_sliceBound w k j len _ hc.1 (by omega)]
    · cases hb
  · -- low and max
    rename_i loO mO
    obtain ⟨x, y, rfl⟩ : ∃ x y, xs = [x, y] := by
      have := hr.length
      simp at this
      exact len2 (by omega)
    simp [bounds] at hb
  · -- low and high
    rename_i loO hiO
    obtain ⟨x, y, rfl⟩ : ∃ x y, xs = [x, y] := by
      have := hr.length
      simp at this
      exact len2 (by omega)
    obtain ⟨v, u, hv, h1, h2⟩ := hr.two
    simp only [List.cons.injEq, and_true] at hv
    cases x <;> cases y <;> simp only [bounds, reduceCtorEq, ite_self] at hb
    rename_i k i k' j
    simp only [VRel] at h1 h2
    split at hb
    · rename_i hc
      split at hb
      · rename_i hc2
        simp only [Option.some.injEq, Prod.mk.injEq] at hb
        obtain ⟨rfl, rfl⟩ := hb
        refine ⟨by omega, by omega, fun e => by simp at e, ?_⟩
        rw [h1, h2] at hv
        simp [Instr.sliceBounds, hv.1, hv.2, run_sliceBound w k' j cap _ hc.1 (by omega), run_sliceBound w k i j.toNat _ hc2.1 (by omega)]
      · cases hb
    · cases hb
  · -- all three
    rename_i loO hiO mO
    obtain ⟨x, y, z, rfl⟩ : ∃ x y z, xs = [x, y, z] := by
      have := hr.length
      simp at this
      exact len3 (by omega)
    obtain ⟨v, u, t, hv, h1, h2, h3⟩ := hr.three
    simp only [List.cons.injEq, and_true] at hv
    cases x <;> cases y <;> cases z <;> simp only [bounds, reduceCtorEq, ite_self] at hb
    rename_i k i k' j k2 m
    simp only [VRel] at h1 h2 h3
    split at hb
    · rename_i hc
      obtain ⟨c1, c2, rfl⟩ := hc
      split at hb
      · rename_i hc2
        simp only [Option.some.injEq, Prod.mk.injEq] at hb
        obtain ⟨rfl, rfl⟩ := hb
        refine ⟨by omega, by omega, fun e => by simp at e, ?_⟩
        rw [h1, h2, h3] at hv
        simp [Instr.sliceBounds, hv.1, hv.2.1, hv.2.2, run_sliceBound w k2 m cap _ c1 (by omega), run_sliceBound w k' m m.toNat _ c1 (by omega), run_sliceBound w k i m.toNat _ hc2.1 (by omega)]
      · cases hb
    · cases hb

theorem slcS_sound (hi : Inv V L σ w) (he : EnvRel V w env a.tmps) {t : TypeId} {x : Operand} {lo hi' : Option Operand} {qs : List Opd} (ho : o.op = .slice t x lo hi' none)
    (hu : P.underlying t = some .string) (hq : opds (x :: optCount lo ++ optCount hi') = some qs) (hs : slcSSem lo.isSome hi'.isSome (qs.map (Opd.val env)) = some d) : OpWp P o a w (Res V w L σ d) := by
  have hr := opds_rel (a := a) he hq
  generalize qs.map (Opd.val env) = ds at hr hs
  unfold slcSSem at hs
  split at hs
  · rename_i s xs
    simp only [Option.map_eq_some_iff] at hs
    obtain ⟨⟨l, h⟩, hb, rfl⟩ := hs
    simp only [List.cons_append, List.map_cons, VRels] at hr
    obtain ⟨v, us, hv, h1, h2⟩ := hr
    simp only [List.cons.injEq] at hv
    obtain ⟨hv, rfl⟩ := hv
    simp only [VRel] at h1
    obtain ⟨b1, b2, -, b3⟩ := bounds_run (P := P) (a := a) (isSlice := false) (mx := none) (Nat.le_refl s.length) (by simpa [optCount_none] using h2) (by simpa using hb)
    simp only [Option.isSome_none, Bool.false_eq_true, if_false] at b3
    refine OpWp.value (v := .string ((⟨s.toArray⟩ : ByteArray).extract l h)) (w' := w) ?_ (Res.same hi ?_)
    · rw [h1] at hv
      simp only [Option.map_none] at b3
      simp [execOp, ho, hv, Instr.sliceAt, run_underlying hu, Instr.slice, size_mk, b3]
    · simp only [VRel]
      congr 1
      apply ByteArray.ext
      simp [ByteArray.data_extract, List.extract_eq_take_drop]
  · cases hs

theorem slcV_sound (hi : Inv V L σ w) (he : EnvRel V w env a.tmps) {t e : TypeId} {sz : Nat} {x : Operand} {lo hi' mx : Option Operand} {qs : List Opd} (ho : o.op = .slice t x lo hi' mx)
    (hu : P.underlying t = some (.slice e)) (hz : szOf P e = some sz) (hq : opds (x :: optCount lo ++ optCount hi' ++ optCount mx) = some qs) (hs : slcVSem sz lo.isSome hi'.isSome mx.isSome (qs.map (Opd.val env)) = some d) : OpWp P o a w (Res V w L σ d) := by
  have hr := opds_rel (a := a) he hq
  generalize qs.map (Opd.val env) = ds at hr hs
  unfold slcVSem at hs
  split at hs
  · rename_i pt own sz' es xs
    split at hs
    · rename_i hsz
      subst hsz
      simp only [Option.map_eq_some_iff] at hs
      obtain ⟨⟨l, h⟩, hb, rfl⟩ := hs
      simp only [List.cons_append, List.map_cons, VRels] at hr
      obtain ⟨v, us, hv, h1, h2⟩ := hr
      simp only [List.cons.injEq] at hv
      obtain ⟨hv, rfl⟩ := hv
      simp only [VRel] at h1
      obtain ⟨-, b, off, cap, rfl, hc, hown, hrows⟩ := h1
      obtain ⟨b1, b2, b4, b3⟩ := bounds_run (P := P) (a := a) (isSlice := true) hc h2 hb
      refine OpWp.value (v := .slice (if (if mx.isSome then h else cap) = l then some ⟨b, off, none⟩ else some ⟨b, off + l * sz', none⟩) (h - l) ((if mx.isSome then h else cap) - l)) (w' := w) ?_ (Res.same hi ?_)
      · simp only [execOp, ho, hv, Instr.sliceAt, Sem.run_bind, run_underlying hu, Result.andThen_ok, Instr.slice, b3, run_sizeOf hz, Sem.run_pure, Option.map_some, add_mk]
      · have hel : ((es.drop l).take (h - l)).length = h - l := by simp; omega
        have hd := (hrows.drop l).take (h - l)
        have ho' := slcOwn (lo := lo.isSome) (m := mx.isSome) hown b1 b2 (fun e => b4 (by simpa using e))
        have hcap : h - l ≤ (if mx.isSome then h else cap) - l := by
          have : h ≤ if mx.isSome then h else cap := by cases mx.isSome <;> simp <;> omega
          omega
        simp only [VRel]
        by_cases hm : (if mx.isSome then h else cap) = l
        · have hhl : h = l := by
            have : h ≤ if mx.isSome then h else cap := by cases mx.isSome <;> simp <;> omega
            omega
          have hnil : (es.drop l).take (h - l) = [] := List.eq_nil_of_length_eq_zero (by omega)
          by_cases hlo : lo.isSome = true
          · refine ⟨.inl (by omega), b, off, (if mx.isSome then h else cap) - l, by rw [if_pos hm, hel], by rw [hel]; exact hcap, ?_, by rw [hnil]; simp [RowsRel]⟩
            rw [hel]
            rw [if_pos hlo] at ho' ⊢
            refine ⟨?_, fun e => ?_, fun e => ?_⟩
            · split <;> omega
            · omega
            · split at e <;> omega
          · rw [if_neg hlo] at ho' ⊢
            have hl0 : l = 0 := b4 (by simpa using hlo)
            refine ⟨.inl (by omega), b, off, (if mx.isSome then h else cap) - l, by rw [if_pos hm, hel], by rw [hel]; exact hcap, by rw [hel, if_neg hlo] at *; exact ho', by rw [hnil]; simp [RowsRel]⟩
        · refine ⟨.inl (by omega), b, off + l * sz', (if mx.isSome then h else cap) - l, by rw [if_neg hm, hel], by rw [hel]; exact hcap, ?_, hd⟩
          rw [hel]
          by_cases hlo : lo.isSome = true
          · rw [if_pos hlo] at ho'
            rw [if_pos hlo] at ho'
            simp only [hlo, if_true]
            exact ho'
          · have hl0 : l = 0 := b4 (by simpa using hlo)
            subst hl0
            simp only [hlo] at ho' ⊢
            simpa using ho'
    · cases hs
  · rename_i xs
    simp only [Option.map_eq_some_iff] at hs
    obtain ⟨⟨l, h⟩, hb, rfl⟩ := hs
    simp only [List.cons_append, List.map_cons, VRels] at hr
    obtain ⟨v, us, hv, h1, h2⟩ := hr
    simp only [List.cons.injEq] at hv
    obtain ⟨hv, rfl⟩ := hv
    simp only [VRel] at h1
    obtain ⟨b1, b2, b4, b3⟩ := bounds_run (P := P) (a := a) (isSlice := true) (Nat.le_refl 0) h2 hb
    have hh : h = 0 := by omega
    have hl : l = 0 := by omega
    subst hh hl
    refine OpWp.value (v := .slice none 0 0) (w' := w) ?_ (Res.same hi (by simp [VRel]))
    rw [h1] at hv
    simp only [execOp, ho, hv, Instr.sliceAt, Sem.run_bind, run_underlying hu, Result.andThen_ok, Instr.slice, b3, run_sizeOf hz, Sem.run_pure, Option.map_none]
    congr 2
    split <;> simp
  · cases hs

end

end Go.Proofs.YtdnoonnanhnkaaaDoor
