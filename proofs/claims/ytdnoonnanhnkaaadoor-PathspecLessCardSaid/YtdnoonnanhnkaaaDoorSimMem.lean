/- Operations that read or write memory. -/
import Derived.Test.YtdnoonnanhnkaaaDoorSimOps2
import Derived.Laws.RangeString
set_option linter.unusedVariables false
set_option linter.unusedSimpArgs false
namespace Go.Proofs.YtdnoonnanhnkaaaDoor
open Go

section
variable {P : Program} {h : Hint} {V : Vw} {w : World} {L : Nat → Nat × DVal} {σ : Sto} {env : Nat → DVal} {a : Act} {d : DVal} {o : Oper}

theorem load_block {t : TypeId} {sz : Option Nat} {cs : List DVal} {b off : Nat} (hz : aggSz P t = some sz) (h : ObjRel V w (.agg cs) b) (hr : readCells cs off sz = some d) :
    ∃ v, (Instr.loadAt t (.pointer (some ⟨b, off, none⟩))).run P w = .ok v w ∧ VRel V w 0 d v := by
  obtain ⟨vs, el, h1, h2⟩ := h
  have := load_rel (P := P) (b := b) (base := 0) hz h2.open' (fun i v hv => by rw [Nat.zero_add, cell_of_row w b i vs el (0, 0) h1]; simpa using hv) hr
  simpa using this

theorem lr_sound (hi : Inv V L σ w) (he : EnvRel V w env a.tmps) {t : TypeId} {x : Operand} {q : Opd} {sz : Option Nat} {r : Nat} (ho : o.op = .load t x) (hq : opd x = some q)
    (hz : aggSz P t = some sz) (hs : readLoc r sz (L r) [q.val env] = some d) : OpWp P o a w (Res V w L σ d) := by
  have h1 := opd_rel (a := a) he hq
  generalize q.val env = x' at h1 hs
  unfold readLoc at hs
  split at hs
  · rename_i r' ep off e
    simp only [List.cons.injEq, and_true] at e
    subst e
    split at hs
    · rename_i hc
      obtain ⟨rfl, rfl⟩ := hc
      split at hs
      · rename_i cs hcs
        simp only [VRel] at h1
        obtain ⟨-, h0, -, A, hv, hA⟩ := h1
        have hA := hA (hi.ep r').symm
        have hroot := (hi.root r' (by rw [hi.ep]; exact h0)).2
        rw [hcs] at hroot
        obtain ⟨v, hr, hrel⟩ := load_block (P := P) hz hroot hs
        refine OpWp.value (v := v) (w' := w) ?_ (Res.same hi hrel)
        simp [execOp, ho, hv, hA, hr]
      · cases hs
    · cases hs
  · cases hs

theorem ldO_sound (hi : Inv V L σ w) (he : EnvRel V w env a.tmps) {t : TypeId} {x : Operand} {q : Opd} {sz : Option Nat} {σ' : Sto} (ho : o.op = .load t x) (hq : opd x = some q)
    (hz : aggSz P t = some sz) (hs : ldOSem σ sz [q.val env] = some (d, σ')) : OpWp P o a w (Res V w L σ' d) := by
  have h1 := opd_rel (a := a) he hq
  generalize q.val env = x' at h1 hs
  unfold ldOSem at hs
  split at hs
  · rename_i id off e
    simp only [List.cons.injEq, and_true] at e
    subst e
    split at hs
    · rename_i hid
      split at hs
      · rename_i cs hcs
        simp only [Option.map_eq_some_iff, Prod.mk.injEq] at hs
        obtain ⟨d', hs, rfl, rfl⟩ := hs
        simp only [VRel] at h1
        obtain ⟨-, h0, hv⟩ := h1
        have hobj := (hi.obj id h0).2
        rw [hcs] at hobj
        obtain ⟨v, hr, hrel⟩ := load_block (P := P) hz hobj hs
        refine OpWp.value (v := v) (w' := w) ?_ (Res.same hi hrel)
        simp [execOp, ho, hv, hr]
      · cases hs
    · cases hs
  · rename_i cs off e
    simp only [List.cons.injEq, and_true] at e
    subst e
    simp only [Option.map_eq_some_iff, Prod.mk.injEq] at hs
    obtain ⟨d', hs, rfl, rfl⟩ := hs
    simp only [VRel] at h1
    obtain ⟨-, b, base, hv, hrow⟩ := h1
    obtain ⟨vs, h2, h3⟩ := hrow.vals
    obtain ⟨v, hr, hrel⟩ := load_rel (P := P) hz h2.open' (fun i v hv => (h3 i v hv).1) hs
    refine OpWp.value (v := v) (w' := w) ?_ (Res.same hi hrel)
    simp [execOp, ho, hv, hr]
  · cases hs

/-- Storing into a block of cells. -/
theorem store_block {t : TypeId} {n off b : Nat} {cs cs' : List DVal} {x : DVal} {v : Value} (hz : szOf P t = some n) (hb : ObjRel V w (.agg cs) b) (hx : VRel V w 0 x v) (hn : x.cells.length = n) (hok : x.cells.all DVal.okCell = true)
    (hw : writeCells cs off x.cells = some cs') : ∃ c el, (Instr.storeAt t (.pointer (some ⟨b, off, none⟩)) v).run P w = .ok () (w.setRow b c) ∧ (w.setRow b c).heap[b]? = some (.cells c el (0, 0)) ∧ VRels V w 1 cs' c.toList := by
  obtain ⟨vs, el, h1, h2⟩ := hb
  have hc := hx.cells
  have hsz : v.cells.size = n := by have := hc.length; simp at this; omega
  obtain ⟨hl, hr⟩ := writeCells_rel h2 (okCells_up hc hok) hw
  simp only [Array.length_toList] at hl
  have hst := run_storeCells_at P b off el v.cells.toList 0 vs w h1 (by simp; omega) (okCells_one hc hok)
  refine ⟨(vs.toList.take off ++ v.cells.toList ++ vs.toList.drop (off + v.cells.toList.length)).toArray, el, ?_, setRow_heap w b vs _ el (0, 0) h1, by simpa using hr⟩
  simp only [Instr.storeAt, Instr.sureAddr, storeVar, Sem.run_bind, Sem.run_pure, Result.andThen_ok, run_sizeOf hz, hsz, ne_eq, not_true_eq_false, if_false]
  rw [Nat.add_zero] at hst
  exact hst

theorem stL_sound (hi : Inv V L σ w) (he : EnvRel V w env a.tmps) {t : TypeId} {x y : Operand} {p q : Opd} {n r : Nat} {m' : Nat × DVal} (ho : o.op = .store t x y) (hp : opd x = some p) (hq : opd y = some q)
    (hz : szOf P t = some n) (hs : stLSem r (L r) n [p.val env, q.val env] = some (d, m')) : OpWp P o a w (Res V w (upd L r m') σ d) := by
  have h1 := opd_rel (a := a) he hp
  have h2 := opd_rel (a := a) he hq
  generalize p.val env = x' at h1 hs
  generalize q.val env = y' at h2 hs
  unfold stLSem at hs
  split at hs
  · rename_i r' ep off v e
    simp only [List.cons.injEq, and_true] at e
    obtain ⟨rfl, rfl⟩ := e
    split at hs
    · rename_i hc
      obtain ⟨rfl, rfl, hn, hok⟩ := hc
      split at hs
      · rename_i cs hcs
        simp only [Option.map_eq_some_iff, Prod.mk.injEq] at hs
        obtain ⟨cs', hw, rfl, rfl⟩ := hs
        simp only [VRel] at h1
        obtain ⟨-, h0, -, A, hv, hA⟩ := h1
        have hA := hA (hi.ep r').symm
        have hpos : 0 < V.ep r' := by rw [hi.ep]; exact h0
        have hroot := (hi.root r' hpos).2
        rw [hcs] at hroot
        obtain ⟨c, el, hst, hheap, hrel⟩ := store_block (P := P) hz hroot h2 hn hok hw
        have hup := Upd1.setRow w (V.lam r') c
        have ha := hi.atBlock (.inl (by rw [(hi.root r' hpos).1])) hup
        obtain ⟨ha', hinv⟩ := hi.setRoot hpos hup (d := .agg cs') ⟨c, el, hheap, hrel.adv ha⟩
        refine OpWp.skip (w' := w.setRow (V.lam r') c) ?_ ⟨V, ha', hinv, by simp [VRel]⟩
        simp [execOp, ho, hv, hA, hst]
      · cases hs
    · cases hs
  · cases hs

theorem stO_sound (hi : Inv V L σ w) (he : EnvRel V w env a.tmps) {t : TypeId} {x y : Operand} {p q : Opd} {n : Nat} {σ' : Sto} (ho : o.op = .store t x y) (hp : opd x = some p) (hq : opd y = some q)
    (hz : szOf P t = some n) (hs : stOSem σ n [p.val env, q.val env] = some (d, σ')) : OpWp P o a w (Res V w L σ' d) := by
  have h1 := opd_rel (a := a) he hp
  have h2 := opd_rel (a := a) he hq
  generalize p.val env = x' at h1 hs
  generalize q.val env = y' at h2 hs
  unfold stOSem at hs
  split at hs
  · rename_i id off v e
    simp only [List.cons.injEq, and_true] at e
    obtain ⟨rfl, rfl⟩ := e
    split at hs
    · rename_i hc
      obtain ⟨hid, hn, hok⟩ := hc
      split at hs
      · rename_i cs hcs
        simp only [Option.map_eq_some_iff, Prod.mk.injEq] at hs
        obtain ⟨cs', hw, rfl, rfl⟩ := hs
        simp only [VRel] at h1
        obtain ⟨-, h0, hv⟩ := h1
        have hobj := (hi.obj id h0).2
        rw [hcs] at hobj
        obtain ⟨c, el, hst, hheap, hrel⟩ := store_block (P := P) hz hobj h2 hn hok hw
        have hup := Upd1.setRow w (V.phi id) c
        have ha := hi.atBlock (.inr (by rw [(hi.obj id h0).1])) hup
        obtain ⟨ha', hinv⟩ := hi.setObj h0 hup (d := .agg cs') ⟨c, el, hheap, hrel.adv ha⟩
        refine OpWp.skip (w' := w.setRow (V.phi id) c) ?_ ⟨V, ha', hinv, by simp [VRel]⟩
        simp [execOp, ho, hv, hst]
      · cases hs
    · cases hs
  · cases hs

theorem boxL_sound (hi : Inv V L σ w) (he : EnvRel V w env a.tmps) {t : TypeId} {x : Operand} {q : Opd} {r : Nat} {m' : Nat × DVal} (ho : o.op = .box t x) (hq : opd x = some q)
    (hs : boxLSem r (L r) [q.val env] = some (d, m')) : OpWp P o a w (Res V w (upd L r m') σ d) := by
  have h1 := opd_rel (a := a) he hq
  generalize q.val env = x' at h1 hs
  simp only [boxLSem] at hs
  split at hs
  · rename_i hall
    simp only [Option.some.injEq, Prod.mk.injEq] at hs
    obtain ⟨rfl, rfl⟩ := hs
    obtain ⟨V', ha, hinv, hrel⟩ := hi.newRoot r (.cells (a.eval x).cells t) (.agg x'.cells) (fun V' w' hadv hh => ⟨_, t, hh, (okCells_up h1.cells hall).adv hadv⟩)
    refine OpWp.value (v := .pointer (some ⟨w.heap.size, 0, none⟩)) (w' := w.alloc (.cells (a.eval x).cells t)) ?_ ⟨V', ha, hinv, hrel⟩
    simp [execOp, ho, Instr.box, newVar, newRow]
  · cases hs

theorem boxO_sound (hi : Inv V L σ w) (he : EnvRel V w env a.tmps) {t : TypeId} {x : Operand} {q : Opd} {σ' : Sto} (ho : o.op = .box t x) (hq : opd x = some q)
    (hs : boxOSem σ [q.val env] = some (d, σ')) : OpWp P o a w (Res V w L σ' d) := by
  have h1 := opd_rel (a := a) he hq
  generalize q.val env = x' at h1 hs
  simp only [boxOSem] at hs
  split at hs
  · rename_i hall
    simp only [Option.some.injEq, Prod.mk.injEq] at hs
    obtain ⟨rfl, rfl⟩ := hs
    obtain ⟨V', ha, hinv, hn, hphi⟩ := hi.newObj (.cells (a.eval x).cells t) (.agg x'.cells) (fun V' w' hadv hh => ⟨_, t, hh, (okCells_up h1.cells hall).adv hadv⟩)
    refine OpWp.value (v := .pointer (some ⟨w.heap.size, 0, none⟩)) (w' := w.alloc (.cells (a.eval x).cells t)) ?_ ⟨V', ha, hinv, ?_⟩
    · simp [execOp, ho, Instr.box, newVar, newRow]
    · simp only [VRel]; exact ⟨by omega, by omega, by rw [hphi]⟩
  · cases hs

theorem run_alloc {e : TypeId} {z : Value} (hz : ∃ i, P.info? e = some i ∧ i.zero = some z) (w : World) : (Instr.alloc e true (.tuple #[])).run P w = .ok (.pointer (some ⟨w.heap.size, 0, none⟩)) (w.alloc (.cells z.cells e)) := by
  obtain ⟨i, h1, h2⟩ := hz
  simp [Instr.alloc, zeroValue, typeInfo, h1, h2, newVar, newRow]

theorem allocL_sound (hi : Inv V L σ w) {e : TypeId} {z : DVal} {r : Nat} {m' : Nat × DVal} (ho : o.op = .alloc e) (hz : ((P.info? e).bind (·.zero)).bind ofVal = some z)
    (hs : allocLSem r (L r) z.cells [] = some (d, m')) : OpWp P o a w (Res V w (upd L r m') σ d) := by
  simp only [Option.bind_eq_some_iff] at hz
  obtain ⟨zv, h1, h2⟩ := hz
  simp only [allocLSem, Option.some.injEq, Prod.mk.injEq] at hs
  obtain ⟨rfl, rfl⟩ := hs
  obtain ⟨V', ha, hinv, hrel⟩ := hi.newRoot r (.cells zv.cells e) (.agg z.cells) (fun V' w' hadv hh => ⟨_, e, hh, ((ofVal_rel h2).lower (by omega)).cells⟩)
  refine OpWp.value (v := .pointer (some ⟨w.heap.size, 0, none⟩)) (w' := w.alloc (.cells zv.cells e)) ?_ ⟨V', ha, hinv, hrel⟩
  simp only [execOp, ho, Sem.run_bind, run_alloc h1 w, Result.andThen_ok, Sem.run_pure]

theorem allocO_sound (hi : Inv V L σ w) {e : TypeId} {z : DVal} {σ' : Sto} (ho : o.op = .alloc e) (hz : ((P.info? e).bind (·.zero)).bind ofVal = some z)
    (hs : allocOSem σ z.cells [] = some (d, σ')) : OpWp P o a w (Res V w L σ' d) := by
  simp only [Option.bind_eq_some_iff] at hz
  obtain ⟨zv, h1, h2⟩ := hz
  simp only [allocOSem, Option.some.injEq, Prod.mk.injEq] at hs
  obtain ⟨rfl, rfl⟩ := hs
  obtain ⟨V', ha, hinv, hn, hphi⟩ := hi.newObj (.cells zv.cells e) (.agg z.cells) (fun V' w' hadv hh => ⟨_, e, hh, ((ofVal_rel h2).lower (by omega)).cells⟩)
  refine OpWp.value (v := .pointer (some ⟨w.heap.size, 0, none⟩)) (w' := w.alloc (.cells zv.cells e)) ?_ ⟨V', ha, hinv, ?_⟩
  · simp only [execOp, ho, Sem.run_bind, run_alloc h1 w, Result.andThen_ok, Sem.run_pure]
  · simp only [VRel]; exact ⟨by omega, by omega, by rw [hphi]⟩

theorem rng_sound (hi : Inv V L σ w) (he : EnvRel V w env a.tmps) {t : TypeId} {x : Operand} {q : Opd} {r : Nat} {m' : Nat × DVal} (ho : o.op = .range t x) (hu : P.underlying t = some .string) (hq : opd x = some q)
    (hs : rngSem r (L r) [q.val env] = some (d, m')) : OpWp P o a w (Res V w (upd L r m') σ d) := by
  have h1 := opd_rel (a := a) he hq
  generalize q.val env = x' at h1 hs
  unfold rngSem at hs
  split at hs
  · rename_i s e
    simp only [List.cons.injEq, and_true] at e
    subst e
    simp only [Option.some.injEq, Prod.mk.injEq] at hs
    obtain ⟨rfl, rfl⟩ := hs
    simp only [VRel] at h1
    obtain ⟨V', ha, hinv, hrel⟩ := hi.newRoot r (.stringIter ⟨s.toArray⟩ 0) (.tup [.str s, goI 0]) (fun V' w' hadv hh => ⟨0, rfl, hh⟩)
    refine OpWp.value (v := .pointer (some ⟨w.heap.size, 0, none⟩)) (w' := w.alloc (.stringIter ⟨s.toArray⟩ 0)) ?_ ⟨V', ha, hinv, hrel⟩
    simp [execOp, ho, h1, Instr.range, run_underlying hu]
  · cases hs

theorem next_sound (hi : Inv V L σ w) (he : EnvRel V w env a.tmps) {x : Operand} {q : Opd} {r : Nat} {m' : Nat × DVal} (ho : o.op = .next x true) (hq : opd x = some q)
    (hs : nextSem r (L r) [q.val env] = some (d, m')) : OpWp P o a w (Res V w (upd L r m') σ d) := by
  have h1 := opd_rel (a := a) he hq
  generalize q.val env = x' at h1 hs
  unfold nextSem at hs
  split at hs
  · rename_i r' ep off e
    simp only [List.cons.injEq, and_true] at e
    subst e
    split at hs
    · rename_i hc
      obtain ⟨rfl, rfl, rfl⟩ := hc
      split at hs
      · rename_i s pos hcs
        simp only [VRel] at h1
        obtain ⟨-, h0, -, A, hv, hA⟩ := h1
        have hA := hA (hi.ep r').symm
        subst hA
        have hpos : 0 < V.ep r' := by rw [hi.ep]; exact h0
        have hroot := (hi.root r' hpos).2
        rw [hcs] at hroot
        obtain ⟨n, rfl, hheap⟩ := hroot
        have hlt : V.lam r' < w.heap.size := (Array.getElem?_eq_some_iff.1 hheap).1
        have hget : (getObj (V.lam r')).run P w = .ok (.stringIter ⟨s.toArray⟩ n) w := by simp [getObj, Sem.run, hheap]
        split at hs
        · rename_i hn
          simp only [Option.some.injEq, Prod.mk.injEq] at hs
          obtain ⟨rfl, rfl⟩ := hs
          have hn' : n < s.length := by omega
          let w' : World := { w with heap := w.heap.setIfInBounds (V.lam r') (.stringIter ⟨s.toArray⟩ (n + (Utf8.decode ⟨s.toArray⟩ n).2)) }
          have hup : Upd1 w w' (V.lam r') := ⟨fun k hk => by simp [w', Array.getElem?_setIfInBounds, Ne.symm hk], by simp [w'], rfl, rfl, rfl⟩
          have hset : (setObj (V.lam r') (.stringIter ⟨s.toArray⟩ (n + (Utf8.decode ⟨s.toArray⟩ n).2))).run P w = .ok () w' := by simp [setObj, Sem.run, hheap, w']
          obtain ⟨ha', hinv⟩ := hi.setRoot hpos hup (d := .tup [.str s, goI (n + (Utf8.decode ⟨s.toArray⟩ n).2)]) ⟨n + (Utf8.decode ⟨s.toArray⟩ n).2, rfl, by simp [w', hlt]⟩
          refine OpWp.value (v := .tuple #[.bool true, .int .i64 n, .int .i32 (Utf8.decode ⟨s.toArray⟩ n).1]) (w' := w') ?_ ⟨V, ha', by simpa using hinv, ?_⟩
          · simp only [execOp, ho, hv, Instr.next, Sem.run_bind, hget, Result.andThen_ok, size_mk, hn', if_true, hset, Sem.run_pure, goInt]
          · simp [VRel, VRels]
        · rename_i hn
          simp only [Option.some.injEq, Prod.mk.injEq] at hs
          obtain ⟨rfl, rfl⟩ := hs
          have hn' : ¬ n < s.length := by omega
          have hup : upd L r' (L r') = L := by funext k; simp only [upd]; split <;> simp_all
          rw [hup]
          refine OpWp.value (v := .tuple #[.bool false]) (w' := w) ?_ (Res.same hi (by simp [VRel, VRels]))
          simp only [execOp, ho, hv, Instr.next, Sem.run_bind, hget, Result.andThen_ok, size_mk, hn', if_false, Sem.run_pure]
      · cases hs
    · cases hs
  · cases hs

/-! interface values -/

theorem mkI_sound (hi : Inv V L σ w) (he : EnvRel V w env a.tmps) {t : TypeId} {x : Operand} {q : Opd} {u : TypeDesc} (ho : o.op = .makeInterface t x) (hq : opd x = some q) (hu : P.underlying t = some u) (hni : ∀ m, u ≠ .interface m)
    (hs : mkISem t [q.val env] = some d) : OpWp P o a w (Res V w L σ d) := by
  have h1 := opd_rel (a := a) he hq
  simp only [mkISem, Option.some.injEq] at hs
  subst hs
  refine OpWp.value (v := .iface t (a.eval x)) (w' := w) ?_ (Res.same hi (by simp only [VRel]; exact ⟨_, rfl, h1⟩))
  cases u <;> first
    | exact absurd rfl (hni _)
    | simp [execOp, ho, Instr.makeInterface, run_underlying hu]

theorem tyA_sound (hi : Inv V L σ w) (he : EnvRel V w env a.tmps) {t u : TypeId} {x : Operand} {q : Opd} {td : TypeDesc} {z : DVal} (ho : o.op = .typeAssert x t u true) (hq : opd x = some q) (hu : P.underlying u = some td) (hni : ∀ m, td ≠ .interface m)
    (hz : ((P.info? u).bind (·.zero)).bind ofVal = some z) (hs : tyASem u z [q.val env] = some d) : OpWp P o a w (Res V w L σ d) := by
  have h1 := opd_rel (a := a) he hq
  generalize q.val env = x' at h1 hs
  simp only [Option.bind_eq_some_iff] at hz
  obtain ⟨zv, ⟨i, hi1, hz1⟩, hz2⟩ := hz
  have hzr : VRel V w 0 z zv := (ofVal_rel hz2).open'
  have hrun : ∀ t' v', (Instr.typeAssert (.iface t' v') t u true).run P w = .ok (if t' = u then .tuple #[v', .bool true] else .tuple #[zv, .bool false]) w := by
    intro t' v'
    cases td <;> first
      | exact absurd rfl (hni _)
      | (by_cases e : t' = u <;> simp [Instr.typeAssert, run_underlying hu, e, zeroValue, typeInfo, hi1, hz1])
  have hrunn : (Instr.typeAssert .nilIface t u true).run P w = .ok (.tuple #[zv, .bool false]) w := by
    cases td <;> first
      | exact absurd rfl (hni _)
      | simp [Instr.typeAssert, run_underlying hu, zeroValue, typeInfo, hi1, hz1]
  unfold tyASem at hs
  split at hs
  · rename_i t' d' e
    simp only [List.cons.injEq, and_true] at e
    subst e
    simp only [Option.some.injEq] at hs
    subst hs
    simp only [VRel] at h1
    obtain ⟨v', hv, hr⟩ := h1
    refine OpWp.value (v := if t' = u then .tuple #[v', .bool true] else .tuple #[zv, .bool false]) (w' := w) ?_ (Res.same hi ?_)
    · simp [execOp, ho, hv, hrun]
    · split
      · simp only [VRel]; exact ⟨_, rfl, ⟨_, _, rfl, hr, _, _, rfl, by simp [VRel], by simp [VRels]⟩⟩
      · simp only [VRel]; exact ⟨_, rfl, ⟨_, _, rfl, hzr, _, _, rfl, by simp [VRel], by simp [VRels]⟩⟩
  · rename_i e
    simp only [List.cons.injEq, and_true] at e
    subst e
    simp only [Option.some.injEq] at hs
    subst hs
    simp only [VRel] at h1
    refine OpWp.value (v := .tuple #[zv, .bool false]) (w' := w) ?_ (Res.same hi ?_)
    · simp [execOp, ho, h1, hrunn]
    · simp only [VRel]; exact ⟨_, rfl, ⟨_, _, rfl, hzr, _, _, rfl, by simp [VRel], by simp [VRels]⟩⟩
  · cases hs

theorem range_rep (z : Array Value) : ∀ (n : Nat), ((List.range (n * z.size)).map fun i => z[i % z.size]!) = (List.replicate n z.toList).flatten
  | 0 => by simp
  | n + 1 => by
    rw [Nat.add_mul, Nat.one_mul, List.range_add, List.map_append, range_rep z n, List.replicate_succ', List.flatten_append]
    congr 1
    simp only [List.map_map, List.flatten_cons, List.flatten_nil, List.append_nil]
    apply List.ext_getElem?
    intro i
    by_cases hi : i < z.size
    · simp [hi, Nat.mod_eq_of_lt hi, Nat.mul_comm n, Nat.mul_add_mod]
    · rw [List.getElem?_eq_none (by simpa using hi), List.getElem?_eq_none (by simpa using hi)]

theorem rep_rel {m : Nat} {cs : List DVal} {vs : List Value} (h : VRels V w m cs vs) : ∀ n, VRels V w m (List.replicate n cs).flatten (List.replicate n vs).flatten
  | 0 => by simp [VRels]
  | n + 1 => by
    simp only [List.replicate_succ, List.flatten_cons]
    exact h.append (rep_rel h n)

theorem run_makeSlice {t e : TypeId} {i : TypeInfo} {z : Value} {n : Nat} (hu : P.underlying t = some (.slice e)) (hi1 : P.info? e = some i) (hz : i.zero = some z) (hpos : 0 < i.size) (hby : i.bytes ≤ 1024) (hzs : z.cells.size = i.size) (hn : n ≤ 1048576) :
    (Instr.makeSlice t (.int .i64 n) (.int .i64 n)).run P w = .ok (.slice (some ⟨w.heap.size, 0, none⟩) n n) (w.alloc (.cells (List.replicate n z.cells.toList).flatten.toArray e)) := by
  have hw : IntKind.i64.wrap (n : Int) = n := by unfold IntKind.wrap; simp [IntKind.bits, IntKind.signed] <;> omega
  have hb : ¬ ((281474976710656 : Int) < (i.bytes : Int) * (n : Int)) := by
    have := Nat.mul_le_mul hby hn
    have h2 : (i.bytes : Int) * (n : Int) = ((i.bytes * n : Nat) : Int) := by simp
    rw [h2]; omega
  have ha : ∀ (m : Int) (w : World), (asInt (.int .i64 m)).run P w = .ok m w := fun _ _ => rfl
  have hneg : ¬ ((n : Int) < 0) := by omega
  have hw0 : IntKind.i64.wrap 0 = 0 := by decide
  have hr := range_rep z.cells n
  rw [hzs] at hr
  have hr' : (Array.range (n * i.size)).map (fun j => z.cells[j % z.cells.size]!) = (List.replicate n z.cells.toList).flatten.toArray := by
    apply Array.ext'
    simp only [Array.toList_map, Array.toList_range, hzs, hr]
  by_cases h0 : n = 0
  · subst h0
    simp [Instr.makeSlice, run_underlying hu, typeInfo, hi1, ha, hw0, hb, sizeOf, newRow, zeroValue, hz]
    congr 2
    apply Array.ext'
    simp [Array.toList_range]
  · have h0' : ¬ (n * i.size = 0) := by
      intro h; rcases Nat.mul_eq_zero.1 h with h | h <;> omega
    simp [Instr.makeSlice, run_underlying hu, typeInfo, hi1, ha, hw, hb, sizeOf, newRow, zeroValue, hz, h0', hr', hneg]

theorem makeS_sound (hi : Inv V L σ w) (he : EnvRel V w env a.tmps) {t e : TypeId} {l c : Operand} {p q : Opd} {i : TypeInfo} {zd : DVal} {σ' : Sto} (ho : o.op = .makeSlice t l c) (hu : P.underlying t = some (.slice e)) (hi1 : P.info? e = some i)
    (hz : i.zero.bind ofVal = some zd) (hpos : 0 < i.size) (hby : i.bytes ≤ 1024) (hzs : zd.cells.length = i.size) (hp : opd l = some p) (hq : opd c = some q) (hs : makeSem σ zd.cells [p.val env, q.val env] = some (d, σ')) : OpWp P o a w (Res V w L σ' d) := by
  have h1 := opd_rel (a := a) he hp
  have h2 := opd_rel (a := a) he hq
  generalize p.val env = x' at h1 hs
  generalize q.val env = y' at h2 hs
  simp only [Option.bind_eq_some_iff] at hz
  obtain ⟨z, hz1, hz2⟩ := hz
  have hzr : VRel V w 2 zd z := ofVal_rel hz2
  have hzc := hzr.cells
  have hsz : z.cells.size = i.size := by have := hzc.length; simp at this; omega
  unfold makeSem at hs
  split at hs
  · rename_i n m e'
    simp only [List.cons.injEq, and_true] at e'
    obtain ⟨rfl, rfl⟩ := e'
    split at hs
    · rename_i hc
      obtain ⟨rfl, h0, hn⟩ := hc
      simp only [Option.some.injEq, Prod.mk.injEq] at hs
      obtain ⟨rfl, rfl⟩ := hs
      simp only [VRel] at h1 h2
      obtain ⟨k, rfl⟩ : ∃ k : Nat, n = k := ⟨n.toNat, by omega⟩
      have hrun := run_makeSlice (P := P) (w := w) (n := k) hu hi1 hz1 hpos hby hsz (by omega)
      obtain ⟨V', ha, hinv, hno, hphi⟩ := hi.newObj (.cells (List.replicate k z.cells.toList).flatten.toArray e) (.agg (List.replicate k zd.cells).flatten) (fun V' w' hadv hh => ⟨_, e, hh, by simpa using (rep_rel (hzc.lower (by omega : 1 ≤ 2)) k).adv hadv⟩)
      refine OpWp.value (v := .slice (some ⟨w.heap.size, 0, none⟩) k k) (w' := w.alloc (.cells (List.replicate k z.cells.toList).flatten.toArray e)) ?_ ⟨V', ha, by simpa using hinv, ?_⟩
      · simp [execOp, ho, h1, h2, hrun]
      · simp only [VRel, Int.toNat_natCast]; exact ⟨by omega, by omega, Nat.le_refl _, by rw [hphi]⟩
    · cases hs
  · cases hs

/-! ## append -/

end

end Go.Proofs.YtdnoonnanhnkaaaDoor
