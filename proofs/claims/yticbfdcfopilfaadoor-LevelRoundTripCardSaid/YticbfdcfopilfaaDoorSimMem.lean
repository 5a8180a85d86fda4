/- Operations that read or write memory. -/
import Derived.Test.YticbfdcfopilfaaDoorSimOps2
import Derived.Laws.RangeString
set_option linter.unusedVariables false
set_option linter.unusedSimpArgs false
namespace Go.Proofs.YticbfdcfopilfaaDoor
open Go

section
variable {P : Program} {h : Hint} {V : Vw} {w : World} {L : Nat → Nat × DVal} {σ : Sto} {env : Nat → DVal} {a : Act} {d : DVal} {o : Oper}

theorem load_block {t : TypeId} {sz : Option Nat} {cs : List DVal} {b off : Nat} (hz : aggSz P t = some sz) (h : ObjRel V w (.agg cs) b) (hr : readCells cs off sz = some d) :
    ∃ v, (Instr.loadAt t (.pointer (some ⟨b, off, none⟩))).run P w = .ok v w ∧ VRel V w 0 d v := by
  obtain ⟨vs, el, h1, h2⟩ := h
  have := load_rel (P := P) (b := b) (base := 0) hz h2.open' (fun i v hv => by rw [Nat.zero_add, cell_of_row w b i vs el (0, 0) h1]; simpa using hv) hr
  simpa using this

theorem lr_sound (hi : Inv V L σ w) (he : EnvRel V w env a.tmps) {t : TypeId} {x : Operand} {q : Opd} {sz : Option Nat} {r : Nat} (ho : o.op = .load t x) (hq : opd x = some q)
    (hz : aggSz P t = some sz) (hs : readLoc r sz (L r) [q.val env] = some d) : OpWp P o a w (Res V w L σ d) := by
  have h1 := opd_rel (a := a) he hq
  generalize q.val env = x' at h1 hs
  unfold readLoc at hs
  split at hs
  · rename_i r' ep off e
    simp only [List.cons.injEq, and_true] at e
    subst e
    split at hs
    · rename_i hc
      obtain ⟨rfl, rfl⟩ := hc
      split at hs
      · rename_i cs hcs
        simp only [VRel] at h1
        obtain ⟨-, h0, -, A, hv, hA⟩ := h1
        have hA := hA (hi.ep r').symm
        have hroot := (hi.root r' (by rw [hi.ep]; exact h0)).2
        rw [hcs] at hroot
        obtain ⟨v, hr, hrel⟩ := load_block (P := P) hz hroot hs
        refine OpWp.value (v := v) (w' := w) ?_ (Res.same hi hrel)
        simp [execOp, ho, hv, hA, hr]
      · cases hs
    · cases hs
  · cases hs

theorem ldO_sound (hi : Inv V L σ w) (he : EnvRel V w env a.tmps) {t : TypeId} {x : Operand} {q : Opd} {sz : Option Nat} {σ' : Sto} (ho : o.op = .load t x) (hq : opd x = some q)
    (hz : aggSz P t = some sz) (hs : ldOSem σ sz [q.val env] = some (d, σ')) : OpWp P o a w (Res V w L σ' d) := by
  have h1 := opd_rel (a := a) he hq
  generalize q.val env = x' at h1 hs
  unfold ldOSem at hs
  split at hs
  · rename_i id off e
    simp only [List.cons.injEq, and_true] at e
    subst e
    split at hs
    · rename_i hid
      split at hs
      · rename_i cs hcs
        simp only [Option.map_eq_some_iff, Prod.mk.injEq] at hs
        obtain ⟨d', hs, rfl, rfl⟩ := hs
        simp only [VRel] at h1
        obtain ⟨-, h0, hv⟩ := h1
        have hobj := (hi.obj id h0).2
        rw [hcs] at hobj
        obtain ⟨v, hr, hrel⟩ := load_block (P := P) hz hobj hs
        refine OpWp.value (v := v) (w' := w) ?_ (Res.same hi hrel)
        simp [execOp, ho, hv, hr]
      · cases hs
    · cases hs
  · cases hs

/-- Storing into a block of cells. -/
theorem store_block {t : TypeId} {n off b : Nat} {cs cs' : List DVal} {x : DVal} {v : Value} (hz : szOf P t = some n) (hb : ObjRel V w (.agg cs) b) (hx : VRel V w 0 x v) (hn : x.cells.length = n) (hok : x.cells.all DVal.okCell = true)
    (hw : writeCells cs off x.cells = some cs') : ∃ c el, (Instr.storeAt t (.pointer (some ⟨b, off, none⟩)) v).run P w = .ok () (w.setRow b c) ∧ (w.setRow b c).heap[b]? = some (.cells c el (0, 0)) ∧ VRels V w 1 cs' c.toList := by
  obtain ⟨vs, el, h1, h2⟩ := hb
  have hc := hx.cells
  have hsz : v.cells.size = n := by have := hc.length; simp at this; omega
  obtain ⟨hl, hr⟩ := writeCells_rel h2 (okCells_up hc hok) hw
  simp only [Array.length_toList] at hl
  have hst := run_storeCells_at P b off el v.cells.toList 0 vs w h1 (by simp; omega) (okCells_one hc hok)
  refine ⟨(vs.toList.take off ++ v.cells.toList ++ vs.toList.drop (off + v.cells.toList.length)).toArray, el, ?_, setRow_heap w b vs _ el (0, 0) h1, by simpa using hr⟩
  simp only [Instr.storeAt, Instr.sureAddr, storeVar, Sem.run_bind, Sem.run_pure, Result.andThen_ok, run_sizeOf hz, hsz, ne_eq, not_true_eq_false, if_false]
  rw [Nat.add_zero] at hst
  exact hst

theorem stL_sound (hi : Inv V L σ w) (he : EnvRel V w env a.tmps) {t : TypeId} {x y : Operand} {p q : Opd} {n r : Nat} {m' : Nat × DVal} (ho : o.op = .store t x y) (hp : opd x = some p) (hq : opd y = some q)
    (hz : szOf P t = some n) (hs : stLSem r (L r) n [p.val env, q.val env] = some (d, m')) : OpWp P o a w (Res V w (upd L r m') σ d) := by
  have h1 := opd_rel (a := a) he hp
  have h2 := opd_rel (a := a) he hq
  generalize p.val env = x' at h1 hs
  generalize q.val env = y' at h2 hs
  unfold stLSem at hs
  split at hs
  · rename_i r' ep off v e
    simp only [List.cons.injEq, and_true] at e
    obtain ⟨rfl, rfl⟩ := e
    split at hs
    · rename_i hc
      obtain ⟨rfl, rfl, hn, hok⟩ := hc
      split at hs
      · rename_i cs hcs
        simp only [Option.map_eq_some_iff, Prod.mk.injEq] at hs
        obtain ⟨cs', hw, rfl, rfl⟩ := hs
        simp only [VRel] at h1
        obtain ⟨-, h0, -, A, hv, hA⟩ := h1
        have hA := hA (hi.ep r').symm
        have hpos : 0 < V.ep r' := by rw [hi.ep]; exact h0
        have hroot := (hi.root r' hpos).2
        rw [hcs] at hroot
        obtain ⟨c, el, hst, hheap, hrel⟩ := store_block (P := P) hz hroot h2 hn hok hw
        have hup := Upd1.setRow w (V.lam r') c
        have ha := hi.atBlock (.inl (by rw [(hi.root r' hpos).1])) hup
        obtain ⟨ha', hinv⟩ := hi.setRoot hpos hup (d := .agg cs') ⟨c, el, hheap, hrel.adv ha⟩
        refine OpWp.skip (w' := w.setRow (V.lam r') c) ?_ ⟨V, ha', hinv, by simp [VRel]⟩
        simp [execOp, ho, hv, hA, hst]
      · cases hs
    · cases hs
  · cases hs

theorem stO_sound (hi : Inv V L σ w) (he : EnvRel V w env a.tmps) {t : TypeId} {x y : Operand} {p q : Opd} {n : Nat} {σ' : Sto} (ho : o.op = .store t x y) (hp : opd x = some p) (hq : opd y = some q)
    (hz : szOf P t = some n) (hs : stOSem σ n [p.val env, q.val env] = some (d, σ')) : OpWp P o a w (Res V w L σ' d) := by
  have h1 := opd_rel (a := a) he hp
  have h2 := opd_rel (a := a) he hq
  generalize p.val env = x' at h1 hs
  generalize q.val env = y' at h2 hs
  unfold stOSem at hs
  split at hs
  · rename_i id off v e
    simp only [List.cons.injEq, and_true] at e
    obtain ⟨rfl, rfl⟩ := e
    split at hs
    · rename_i hc
      obtain ⟨hid, hn, hok⟩ := hc
      split at hs
      · rename_i cs hcs
        simp only [Option.map_eq_some_iff, Prod.mk.injEq] at hs
        obtain ⟨cs', hw, rfl, rfl⟩ := hs
        simp only [VRel] at h1
        obtain ⟨-, h0, hv⟩ := h1
        have hobj := (hi.obj id h0).2
        rw [hcs] at hobj
        obtain ⟨c, el, hst, hheap, hrel⟩ := store_block (P := P) hz hobj h2 hn hok hw
        have hup := Upd1.setRow w (V.phi id) c
        have ha := hi.atBlock (.inr (by rw [(hi.obj id h0).1])) hup
        obtain ⟨ha', hinv⟩ := hi.setObj h0 hup (d := .agg cs') ⟨c, el, hheap, hrel.adv ha⟩
        refine OpWp.skip (w' := w.setRow (V.phi id) c) ?_ ⟨V, ha', hinv, by simp [VRel]⟩
        simp [execOp, ho, hv, hst]
      · cases hs
    · cases hs
  · cases hs

theorem boxL_sound (hi : Inv V L σ w) (he : EnvRel V w env a.tmps) {t : TypeId} {x : Operand} {q : Opd} {r : Nat} {m' : Nat × DVal} (ho : o.op = .box t x) (hq : opd x = some q)
    (hs : boxLSem r (L r) [q.val env] = some (d, m')) : OpWp P o a w (Res V w (upd L r m') σ d) := by
  have h1 := opd_rel (a := a) he hq
  generalize q.val env = x' at h1 hs
  simp only [boxLSem] at hs
  split at hs
  · rename_i hall
    simp only [Option.some.injEq, Prod.mk.injEq] at hs
    obtain ⟨rfl, rfl⟩ := hs
    obtain ⟨V', ha, hinv, hrel⟩ := hi.newRoot r (.cells (a.eval x).cells t) (.agg x'.cells) (fun V' w' hadv hh => ⟨_, t, hh, (okCells_up h1.cells hall).adv hadv⟩)
    refine OpWp.value (v := .pointer (some ⟨w.heap.size, 0, none⟩)) (w' := w.alloc (.cells (a.eval x).cells t)) ?_ ⟨V', ha, hinv, hrel⟩
    simp [execOp, ho, Instr.box, newVar, newRow]
  · cases hs

theorem boxO_sound (hi : Inv V L σ w) (he : EnvRel V w env a.tmps) {t : TypeId} {x : Operand} {q : Opd} {σ' : Sto} (ho : o.op = .box t x) (hq : opd x = some q)
    (hs : boxOSem σ [q.val env] = some (d, σ')) : OpWp P o a w (Res V w L σ' d) := by
  have h1 := opd_rel (a := a) he hq
  generalize q.val env = x' at h1 hs
  simp only [boxOSem] at hs
  split at hs
  · rename_i hall
    simp only [Option.some.injEq, Prod.mk.injEq] at hs
    obtain ⟨rfl, rfl⟩ := hs
    obtain ⟨V', ha, hinv, hn, hphi⟩ := hi.newObj (.cells (a.eval x).cells t) (.agg x'.cells) (fun V' w' hadv hh => ⟨_, t, hh, (okCells_up h1.cells hall).adv hadv⟩)
    refine OpWp.value (v := .pointer (some ⟨w.heap.size, 0, none⟩)) (w' := w.alloc (.cells (a.eval x).cells t)) ?_ ⟨V', ha, hinv, ?_⟩
    · simp [execOp, ho, Instr.box, newVar, newRow]
    · simp only [VRel]; exact ⟨by omega, by omega, by rw [hphi]⟩
  · cases hs

theorem run_alloc {e : TypeId} {z : Value} (hz : ∃ i, P.info? e = some i ∧ i.zero = some z) (w : World) : (Instr.alloc e true (.tuple #[])).run P w = .ok (.pointer (some ⟨w.heap.size, 0, none⟩)) (w.alloc (.cells z.cells e)) := by
  obtain ⟨i, h1, h2⟩ := hz
  simp [Instr.alloc, zeroValue, typeInfo, h1, h2, newVar, newRow]

theorem allocL_sound (hi : Inv V L σ w) {e : TypeId} {z : DVal} {r : Nat} {m' : Nat × DVal} (ho : o.op = .alloc e) (hz : ((P.info? e).bind (·.zero)).bind ofVal = some z)
    (hs : allocLSem r (L r) z.cells [] = some (d, m')) : OpWp P o a w (Res V w (upd L r m') σ d) := by
  simp only [Option.bind_eq_some_iff] at hz
  obtain ⟨zv, h1, h2⟩ := hz
  simp only [allocLSem, Option.some.injEq, Prod.mk.injEq] at hs
  obtain ⟨rfl, rfl⟩ := hs
  obtain ⟨V', ha, hinv, hrel⟩ := hi.newRoot r (.cells zv.cells e) (.agg z.cells) (fun V' w' hadv hh => ⟨_, e, hh, ((ofVal_rel h2).lower (by omega)).cells⟩)
  refine OpWp.value (v := .pointer (some ⟨w.heap.size, 0, none⟩)) (w' := w.alloc (.cells zv.cells e)) ?_ ⟨V', ha, hinv, hrel⟩
  simp only [execOp, ho, Sem.run_bind, run_alloc h1 w, Result.andThen_ok, Sem.run_pure]

theorem allocO_sound (hi : Inv V L σ w) {e : TypeId} {z : DVal} {σ' : Sto} (ho : o.op = .alloc e) (hz : ((P.info? e).bind (·.zero)).bind ofVal = some z)
    (hs : allocOSem σ z.cells [] = some (d, σ')) : OpWp P o a w (Res V w L σ' d) := by
  simp only [Option.bind_eq_some_iff] at hz
  obtain ⟨zv, h1, h2⟩ := hz
  simp only [allocOSem, Option.some.injEq, Prod.mk.injEq] at hs
  obtain ⟨rfl, rfl⟩ := hs
  obtain ⟨V', ha, hinv, hn, hphi⟩ := hi.newObj (.cells zv.cells e) (.agg z.cells) (fun V' w' hadv hh => ⟨_, e, hh, ((ofVal_rel h2).lower (by omega)).cells⟩)
  refine OpWp.value (v := .pointer (some ⟨w.heap.size, 0, none⟩)) (w' := w.alloc (.cells zv.cells e)) ?_ ⟨V', ha, hinv, ?_⟩
  · simp only [execOp, ho, Sem.run_bind, run_alloc h1 w, Result.andThen_ok, Sem.run_pure]
  · simp only [VRel]; exact ⟨by omega, by omega, by rw [hphi]⟩

theorem rng_sound (hi : Inv V L σ w) (he : EnvRel V w env a.tmps) {t : TypeId} {x : Operand} {q : Opd} {r : Nat} {m' : Nat × DVal} (ho : o.op = .range t x) (hu : P.underlying t = some .string) (hq : opd x = some q)
    (hs : rngSem r (L r) [q.val env] = some (d, m')) : OpWp P o a w (Res V w (upd L r m') σ d) := by
  have h1 := opd_rel (a := a) he hq
  generalize q.val env = x' at h1 hs
  unfold rngSem at hs
  split at hs
  · rename_i s e
    simp only [List.cons.injEq, and_true] at e
    subst e
    simp only [Option.some.injEq, Prod.mk.injEq] at hs
    obtain ⟨rfl, rfl⟩ := hs
    simp only [VRel] at h1
    obtain ⟨V', ha, hinv, hrel⟩ := hi.newRoot r (.stringIter ⟨s.toArray⟩ 0) (.tup [.str s, goI 0]) (fun V' w' hadv hh => ⟨0, rfl, hh⟩)
    refine OpWp.value (v := .pointer (some ⟨w.heap.size, 0, none⟩)) (w' := w.alloc (.stringIter ⟨s.toArray⟩ 0)) ?_ ⟨V', ha, hinv, hrel⟩
    simp [execOp, ho, h1, Instr.range, run_underlying hu]
  · cases hs

theorem next_sound (hi : Inv V L σ w) (he : EnvRel V w env a.tmps) {x : Operand} {q : Opd} {r : Nat} {m' : Nat × DVal} (ho : o.op = .next x true) (hq : opd x = some q)
    (hs : nextSem r (L r) [q.val env] = some (d, m')) : OpWp P o a w (Res V w (upd L r m') σ d) := by
  have h1 := opd_rel (a := a) he hq
  generalize q.val env = x' at h1 hs
  unfold nextSem at hs
  split at hs
  · rename_i r' ep off e
    simp only [List.cons.injEq, and_true] at e
    subst e
    split at hs
    · rename_i hc
      obtain ⟨rfl, rfl, rfl⟩ := hc
      split at hs
      · rename_i s pos hcs
        simp only [VRel] at h1
        obtain ⟨-, h0, -, A, hv, hA⟩ := h1
        have hA := hA (hi.ep r').symm
        subst hA
        have hpos : 0 < V.ep r' := by rw [hi.ep]; exact h0
        have hroot := (hi.root r' hpos).2
        rw [hcs] at hroot
        obtain ⟨n, rfl, hheap⟩ := hroot
        have hlt : V.lam r' < w.heap.size := (Array.getElem?_eq_some_iff.1 hheap).1
        have hget : (getObj (V.lam r')).run P w = .ok (.stringIter ⟨s.toArray⟩ n) w := by simp [getObj, Sem.run, hheap]
        split at hs
        · rename_i hn
          simp only [Option.some.injEq, Prod.mk.injEq] at hs
          obtain ⟨rfl, rfl⟩ := hs
          have hn' : n < s.length := by omega
          let w' : World := { w with heap := w.heap.setIfInBounds (V.lam r') (.stringIter ⟨s.toArray⟩ (n + (Utf8.decode ⟨s.toArray⟩ n).2)) }
          have hup : Upd1 w w' (V.lam r') := ⟨fun k hk => by simp [w', Array.getElem?_setIfInBounds, Ne.symm hk], by simp [w'], rfl, rfl, rfl⟩
          have hset : (setObj (V.lam r') (.stringIter ⟨s.toArray⟩ (n + (Utf8.decode ⟨s.toArray⟩ n).2))).run P w = .ok () w' := by simp [setObj, Sem.run, hheap, w']
          obtain ⟨ha', hinv⟩ := hi.setRoot hpos hup (d := .tup [.str s, goI (n + (Utf8.decode ⟨s.toArray⟩ n).2)]) ⟨n + (Utf8.decode ⟨s.toArray⟩ n).2, rfl, by simp [w', hlt]⟩
          refine OpWp.value (v := .tuple #[.bool true, .int .i64 n, .int .i32 (Utf8.decode ⟨s.toArray⟩ n).1]) (w' := w') ?_ ⟨V, ha', by simpa using hinv, ?_⟩
          · simp only [execOp, ho, hv, Instr.next, Sem.run_bind, hget, Result.andThen_ok, size_mk, hn', if_true, hset, Sem.run_pure, goInt]
          · simp [VRel, VRels]
        · rename_i hn
          simp only [Option.some.injEq, Prod.mk.injEq] at hs
          obtain ⟨rfl, rfl⟩ := hs
          have hn' : ¬ n < s.length := by omega
          have hup : upd L r' (L r') = L := by funext k; simp only [upd]; split <;> simp_all
          rw [hup]
          refine OpWp.value (v := .tuple #[.bool false]) (w' := w) ?_ (Res.same hi (by simp [VRel, VRels]))
          simp only [execOp, ho, hv, Instr.next, Sem.run_bind, hget, Result.andThen_ok, size_mk, hn', if_false, Sem.run_pure]
      · cases hs
    · cases hs
  · cases hs

/-! ## append -/

end

end Go.Proofs.YticbfdcfopilfaaDoor
