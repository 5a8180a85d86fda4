/- Texts of this proof, part 1: see the card for what is proved. -/
import Derived.Test.YtklepphkbbjbjaaDoorPc00
import Derived.Laws.RangeString
import Derived.Laws.IdiomStrings
import Derived.MapKept
import Derived.Orders
namespace Go.Proofs.YtklepphkbbjbjaaDoor
set_option linter.unusedVariables false
set_option linter.unusedSimpArgs false
open Go
section
variable {P : Program} {h : Hint} {V : Vw} {w : World} {L : Nat → Nat × DVal} {σ : Sto} {env : Nat → DVal} {a : Act} {d : DVal} {o : Oper}
theorem load_block {t : TypeId} {sz : Option Nat} {cs : List DVal} {b off : Nat} (hz : aggSz P t = some sz) (h : ObjRel V w (.agg cs) b) (hr : readCells cs off sz = some d) :
    ∃ v, (Instr.loadAt t (.pointer (some ⟨b, off, none⟩))).run P w = .ok v w ∧ VRel V w 0 d v := by
  obtain ⟨vs, el, us, rest, h1, h0, h2⟩ := h
  have := load_rel (P := P) (b := b) (base := 0) hz h2.open' (fun i v hv => by
    rw [Nat.zero_add, cell_of_row w b i vs el (0, 0) h1, ← Array.getElem?_toList, h0, List.getElem?_append_left (List.getElem?_eq_some_iff.1 hv).1]; exact hv) hr
  simpa using this
theorem lr_sound (hi : Inv V L σ w) (he : EnvRel V w env a.tmps) {t : TypeId} {x : Operand} {q : Opd} {sz : Option Nat} {r : Nat} (ho : o.op = .load t x) (hq : opd x = some q)
    (hz : aggSz P t = some sz) (hs : readLoc r sz (L r) [q.val env] = some d) : OpWp P o a w (Res V w L σ d) := by
  have h1 := opd_rel (a := a) he hq
  generalize q.val env = x' at h1 hs
  unfold readLoc at hs
  split at hs
  · rename_i r' ep off e
    simp only [List.cons.injEq, and_true] at e
    subst e
    split at hs
    · rename_i hc
      obtain ⟨rfl, rfl⟩ := hc
      split at hs
      · rename_i cs hcs
        simp only [VRel] at h1
        obtain ⟨-, h0, -, A, hv, hA⟩ := h1
        have hA := hA (hi.ep r').symm
        have hroot := (hi.root r' (by rw [hi.ep]; exact h0)).2
        rw [hcs] at hroot
        obtain ⟨v, hr, hrel⟩ := load_block (P := P) hz hroot hs
        refine OpWp.value (v := v) (w' := w) ?_ (Res.same hi hrel)
        simp [execOp, ho, hv, hA, hr]
      · cases hs
    · cases hs
  · cases hs
theorem ldO_sound (hi : Inv V L σ w) (he : EnvRel V w env a.tmps) {t : TypeId} {x : Operand} {q : Opd} {sz : Option Nat} {σ' : Sto} (ho : o.op = .load t x) (hq : opd x = some q)
    (hz : aggSz P t = some sz) (hs : ldOSem σ sz [q.val env] = some (d, σ')) : OpWp P o a w (Res V w L σ' d) := by
  have h1 := opd_rel (a := a) he hq
  generalize q.val env = x' at h1 hs
  unfold ldOSem at hs
  split at hs
  · rename_i id off e
    simp only [List.cons.injEq, and_true] at e
    subst e
    split at hs
    · rename_i hid
      split at hs
      · rename_i cs hcs
        simp only [Option.map_eq_some_iff, Prod.mk.injEq] at hs
        obtain ⟨d', hs, rfl, rfl⟩ := hs
        simp only [VRel] at h1
        obtain ⟨-, h0, hv⟩ := h1
        have hobj := (hi.obj id h0).2
        rw [hcs] at hobj
        obtain ⟨v, hr, hrel⟩ := load_block (P := P) hz hobj hs
        refine OpWp.value (v := v) (w' := w) ?_ (Res.same hi hrel)
        simp [execOp, ho, hv, hr]
      · cases hs
    · cases hs
  · rename_i cs off e
    simp only [List.cons.injEq, and_true] at e
    subst e
    simp only [Option.map_eq_some_iff, Prod.mk.injEq] at hs
    obtain ⟨d', hs, rfl, rfl⟩ := hs
    simp only [VRel] at h1
    obtain ⟨-, b, base, hv, hrow⟩ := h1
    obtain ⟨vs, h2, h3⟩ := hrow.vals
    obtain ⟨v, hr, hrel⟩ := load_rel (P := P) hz h2.open' (fun i v hv => (h3 i v hv).1) hs
    refine OpWp.value (v := v) (w' := w) ?_ (Res.same hi hrel)
    simp [execOp, ho, hv, hr]
  · cases hs
theorem store_block {t : TypeId} {n off b : Nat} {cs cs' : List DVal} {x : DVal} {v : Value} (hz : szOf P t = some n) (hb : ObjRel V w (.agg cs) b) (hx : VRel V w 0 x v) (hn : x.cells.length = n) (hok : x.cells.all DVal.okCell = true)
    (hw : writeCells cs off x.cells = some cs') : ∃ c el us rest, (Instr.storeAt t (.pointer (some ⟨b, off, none⟩)) v).run P w = .ok () (w.setRow b c) ∧ (w.setRow b c).heap[b]? = some (.cells c el (0, 0)) ∧ c.toList = us ++ rest ∧ VRels V w 1 cs' us ∧ SameSz w (w.setRow b c) b := by
  obtain ⟨vs, el, us, rest, h1, h0, h2⟩ := hb
  have hc := hx.cells
  have hsz : v.cells.size = n := by have := hc.length; simp at this; omega
  obtain ⟨hl, hr⟩ := writeCells_rel h2 (okCells_up hc hok) hw
  have hvl : vs.size = us.length + rest.length := by rw [← Array.length_toList, h0, List.length_append]
  have hst := run_storeCells_at P b off el v.cells.toList 0 vs w h1 (by simp at hl ⊢; omega) (okCells_one hc hok)
  refine ⟨(vs.toList.take off ++ v.cells.toList ++ vs.toList.drop (off + v.cells.toList.length)).toArray, el, us.take off ++ (v.cells.toList ++ us.drop (off + v.cells.toList.length)), rest, ?_, setRow_heap w b vs _ el (0, 0) h1, ?_, by simpa using hr, SameSz.setRow fun cur e he => ?_⟩
  · simp only [Instr.storeAt, Instr.sureAddr, storeVar, Sem.run_bind, Sem.run_pure, Result.andThen_ok, run_sizeOf hz, hsz, ne_eq, not_true_eq_false, if_false]
    rw [Nat.add_zero] at hst
    exact hst
  · rw [h0, List.take_append_of_le_length (by omega), List.drop_append_of_le_length (by omega)]
    simp
  · rw [h1] at he
    simp only [Option.some.injEq, Obj.cells.injEq] at he
    obtain ⟨rfl, -⟩ := he
    simp only [List.size_toArray, List.length_append, List.length_take, List.length_drop, Array.length_toList]
    simp at hl
    omega
theorem stL_sound (hi : Inv V L σ w) (he : EnvRel V w env a.tmps) {t : TypeId} {x y : Operand} {p q : Opd} {n r : Nat} {m' : Nat × DVal} (ho : o.op = .store t x y) (hp : opd x = some p) (hq : opd y = some q)
    (hz : szOf P t = some n) (hs : stLSem r (L r) n [p.val env, q.val env] = some (d, m')) : OpWp P o a w (Res V w (upd L r m') σ d) := by
  have h1 := opd_rel (a := a) he hp
  have h2 := opd_rel (a := a) he hq
  generalize p.val env = x' at h1 hs
  generalize q.val env = y' at h2 hs
  unfold stLSem at hs
  split at hs
  · rename_i r' ep off v e
    simp only [List.cons.injEq, and_true] at e
    obtain ⟨rfl, rfl⟩ := e
    split at hs
    · rename_i hc
      obtain ⟨rfl, rfl, hn, hok⟩ := hc
      split at hs
      · rename_i cs hcs
        simp only [Option.map_eq_some_iff, Prod.mk.injEq] at hs
        obtain ⟨cs', hw, rfl, rfl⟩ := hs
        simp only [VRel] at h1
        obtain ⟨-, h0, -, A, hv, hA⟩ := h1
        have hA := hA (hi.ep r').symm
        have hpos : 0 < V.ep r' := by rw [hi.ep]; exact h0
        have hroot := (hi.root r' hpos).2
        rw [hcs] at hroot
        obtain ⟨c, el, us', rest', hst, hheap, hcl, hrel, hsame⟩ := store_block (P := P) hz hroot h2 hn hok hw
        have hup := Upd1.setRow w (V.lam r') c
        have ha := hi.atBlock (.inl (by rw [(hi.root r' hpos).1])) hup hsame
        obtain ⟨ha', hinv⟩ := hi.setRoot hpos hup hsame (d := .agg cs') ⟨c, el, us', rest', hheap, hcl, hrel.adv ha⟩
        refine OpWp.skip (w' := w.setRow (V.lam r') c) ?_ ⟨V, ha', hinv, by simp [VRel]⟩
        simp [execOp, ho, hv, hA, hst]
      · cases hs
    · cases hs
  · cases hs
theorem stO_sound (hi : Inv V L σ w) (he : EnvRel V w env a.tmps) {t : TypeId} {x y : Operand} {p q : Opd} {n : Nat} {σ' : Sto} (ho : o.op = .store t x y) (hp : opd x = some p) (hq : opd y = some q)
    (hz : szOf P t = some n) (hs : stOSem σ n [p.val env, q.val env] = some (d, σ')) : OpWp P o a w (Res V w L σ' d) := by
  have h1 := opd_rel (a := a) he hp
  have h2 := opd_rel (a := a) he hq
  generalize p.val env = x' at h1 hs
  generalize q.val env = y' at h2 hs
  unfold stOSem at hs
  split at hs
  · rename_i id off v e
    simp only [List.cons.injEq, and_true] at e
    obtain ⟨rfl, rfl⟩ := e
    split at hs
    · rename_i hc
      obtain ⟨hid, hn, hok⟩ := hc
      split at hs
      · rename_i cs hcs
        simp only [Option.map_eq_some_iff, Prod.mk.injEq] at hs
        obtain ⟨cs', hw, rfl, rfl⟩ := hs
        simp only [VRel] at h1
        obtain ⟨-, h0, hv⟩ := h1
        have hobj := (hi.obj id h0).2
        rw [hcs] at hobj
        obtain ⟨c, el, us', rest', hst, hheap, hcl, hrel, hsame⟩ := store_block (P := P) hz hobj h2 hn hok hw
        have hup := Upd1.setRow w (V.phi id) c
        have ha := hi.atBlock (.inr (by rw [(hi.obj id h0).1 (by rw [hcs]; simp)])) hup hsame
        obtain ⟨ha', hinv⟩ := hi.setObj h0 (by rw [hcs]; simp) hup hsame (d := .agg cs') ⟨c, el, us', rest', hheap, hcl, hrel.adv ha⟩
        refine OpWp.skip (w' := w.setRow (V.phi id) c) ?_ ⟨V, ha', hinv, by simp [VRel]⟩
        simp [execOp, ho, hv, hst]
      · cases hs
    · cases hs
  · cases hs
theorem boxL_sound (hi : Inv V L σ w) (he : EnvRel V w env a.tmps) {t : TypeId} {x : Operand} {q : Opd} {r : Nat} {m' : Nat × DVal} (ho : o.op = .box t x) (hq : opd x = some q)
    (hs : boxLSem r (L r) [q.val env] = some (d, m')) : OpWp P o a w (Res V w (upd L r m') σ d) := by
  have h1 := opd_rel (a := a) he hq
  generalize q.val env = x' at h1 hs
  simp only [boxLSem] at hs
  split at hs
  · rename_i hall
    simp only [Option.some.injEq, Prod.mk.injEq] at hs
    obtain ⟨rfl, rfl⟩ := hs
    obtain ⟨V', ha, hinv, hrel⟩ := hi.newRoot r (.cells (a.eval x).cells t) (.agg x'.cells) (fun V' w' hadv hh => ⟨_, t, _, [], hh, (List.append_nil _).symm, (okCells_up h1.cells hall).adv hadv⟩)
    refine OpWp.value (v := .pointer (some ⟨w.heap.size, 0, none⟩)) (w' := w.alloc (.cells (a.eval x).cells t)) ?_ ⟨V', ha, hinv, hrel⟩
    simp [execOp, ho, Instr.box, newVar, newRow]
  · cases hs
theorem boxO_sound (hi : Inv V L σ w) (he : EnvRel V w env a.tmps) {t : TypeId} {x : Operand} {q : Opd} {σ' : Sto} (ho : o.op = .box t x) (hq : opd x = some q)
    (hs : boxOSem σ [q.val env] = some (d, σ')) : OpWp P o a w (Res V w L σ' d) := by
  have h1 := opd_rel (a := a) he hq
  generalize q.val env = x' at h1 hs
  simp only [boxOSem] at hs
  split at hs
  · rename_i hall
    simp only [Option.some.injEq, Prod.mk.injEq] at hs
    obtain ⟨rfl, rfl⟩ := hs
    obtain ⟨V', ha, hinv, hn, hphi⟩ := hi.newObj (.cells (a.eval x).cells t) (.agg x'.cells) (fun V' w' hadv hh => ⟨_, t, _, [], hh, (List.append_nil _).symm, (okCells_up h1.cells hall).adv hadv⟩)
    refine OpWp.value (v := .pointer (some ⟨w.heap.size, 0, none⟩)) (w' := w.alloc (.cells (a.eval x).cells t)) ?_ ⟨V', ha, hinv, ?_⟩
    · simp [execOp, ho, Instr.box, newVar, newRow]
    · simp only [VRel]; exact ⟨by omega, by omega, by rw [hphi]⟩
  · cases hs
theorem run_alloc {e : TypeId} {z : Value} (hz : ∃ i, P.info? e = some i ∧ i.zero = some z) (w : World) : (Instr.alloc e true (.tuple #[])).run P w = .ok (.pointer (some ⟨w.heap.size, 0, none⟩)) (w.alloc (.cells z.cells e)) := by
  obtain ⟨i, h1, h2⟩ := hz
  simp [Instr.alloc, zeroValue, typeInfo, h1, h2, newVar, newRow]
theorem allocL_sound (hi : Inv V L σ w) {e : TypeId} {z : DVal} {r : Nat} {m' : Nat × DVal} (ho : o.op = .alloc e) (hz : ((P.info? e).bind (·.zero)).bind ofVal = some z)
    (hs : allocLSem r (L r) z.cells [] = some (d, m')) : OpWp P o a w (Res V w (upd L r m') σ d) := by
  simp only [Option.bind_eq_some_iff] at hz
  obtain ⟨zv, h1, h2⟩ := hz
  simp only [allocLSem, Option.some.injEq, Prod.mk.injEq] at hs
  obtain ⟨rfl, rfl⟩ := hs
  obtain ⟨V', ha, hinv, hrel⟩ := hi.newRoot r (.cells zv.cells e) (.agg z.cells) (fun V' w' hadv hh => ⟨_, e, _, [], hh, (List.append_nil _).symm, ((ofVal_rel h2).lower (by omega)).cells⟩)
  refine OpWp.value (v := .pointer (some ⟨w.heap.size, 0, none⟩)) (w' := w.alloc (.cells zv.cells e)) ?_ ⟨V', ha, hinv, hrel⟩
  simp only [execOp, ho, Sem.run_bind, run_alloc h1 w, Result.andThen_ok, Sem.run_pure]
theorem allocO_sound (hi : Inv V L σ w) {e : TypeId} {z : DVal} {σ' : Sto} (ho : o.op = .alloc e) (hz : ((P.info? e).bind (·.zero)).bind ofVal = some z)
    (hs : allocOSem σ z.cells [] = some (d, σ')) : OpWp P o a w (Res V w L σ' d) := by
  simp only [Option.bind_eq_some_iff] at hz
  obtain ⟨zv, h1, h2⟩ := hz
  simp only [allocOSem, Option.some.injEq, Prod.mk.injEq] at hs
  obtain ⟨rfl, rfl⟩ := hs
  obtain ⟨V', ha, hinv, hn, hphi⟩ := hi.newObj (.cells zv.cells e) (.agg z.cells) (fun V' w' hadv hh => ⟨_, e, _, [], hh, (List.append_nil _).symm, ((ofVal_rel h2).lower (by omega)).cells⟩)
  refine OpWp.value (v := .pointer (some ⟨w.heap.size, 0, none⟩)) (w' := w.alloc (.cells zv.cells e)) ?_ ⟨V', ha, hinv, ?_⟩
  · simp only [execOp, ho, Sem.run_bind, run_alloc h1 w, Result.andThen_ok, Sem.run_pure]
  · simp only [VRel]; exact ⟨by omega, by omega, by rw [hphi]⟩
theorem rng_sound (hi : Inv V L σ w) (he : EnvRel V w env a.tmps) {t : TypeId} {x : Operand} {q : Opd} {r : Nat} {m' : Nat × DVal} (ho : o.op = .range t x) (hu : P.underlying t = some .string) (hq : opd x = some q)
    (hs : rngSem r (L r) [q.val env] = some (d, m')) : OpWp P o a w (Res V w (upd L r m') σ d) := by
  have h1 := opd_rel (a := a) he hq
  generalize q.val env = x' at h1 hs
  unfold rngSem at hs
  split at hs
  · rename_i s e
    simp only [List.cons.injEq, and_true] at e
    subst e
    simp only [Option.some.injEq, Prod.mk.injEq] at hs
    obtain ⟨rfl, rfl⟩ := hs
    simp only [VRel] at h1
    obtain ⟨V', ha, hinv, hrel⟩ := hi.newRoot r (.stringIter ⟨s.toArray⟩ 0) (.tup [.str s, goI 0]) (fun V' w' hadv hh => ⟨0, rfl, hh⟩)
    refine OpWp.value (v := .pointer (some ⟨w.heap.size, 0, none⟩)) (w' := w.alloc (.stringIter ⟨s.toArray⟩ 0)) ?_ ⟨V', ha, hinv, hrel⟩
    simp [execOp, ho, h1, Instr.range, run_underlying hu]
  · cases hs
theorem next_sound (hi : Inv V L σ w) (he : EnvRel V w env a.tmps) {x : Operand} {q : Opd} {r : Nat} {m' : Nat × DVal} (ho : o.op = .next x true) (hq : opd x = some q)
    (hs : nextSem r (L r) [q.val env] = some (d, m')) : OpWp P o a w (Res V w (upd L r m') σ d) := by
  have h1 := opd_rel (a := a) he hq
  generalize q.val env = x' at h1 hs
  unfold nextSem at hs
  split at hs
  · rename_i r' ep off e
    simp only [List.cons.injEq, and_true] at e
    subst e
    split at hs
    · rename_i hc
      obtain ⟨rfl, rfl, rfl⟩ := hc
      split at hs
      · rename_i s pos hcs
        simp only [VRel] at h1
        obtain ⟨-, h0, -, A, hv, hA⟩ := h1
        have hA := hA (hi.ep r').symm
        subst hA
        have hpos : 0 < V.ep r' := by rw [hi.ep]; exact h0
        have hroot := (hi.root r' hpos).2
        rw [hcs] at hroot
        obtain ⟨n, rfl, hheap⟩ := hroot
        have hlt : V.lam r' < w.heap.size := (Array.getElem?_eq_some_iff.1 hheap).1
        have hget : (getObj (V.lam r')).run P w = .ok (.stringIter ⟨s.toArray⟩ n) w := by simp [getObj, Sem.run, hheap]
        split at hs
        · rename_i hn
          simp only [Option.some.injEq, Prod.mk.injEq] at hs
          obtain ⟨rfl, rfl⟩ := hs
          have hn' : n < s.length := by omega
          let w' : World := { w with heap := w.heap.setIfInBounds (V.lam r') (.stringIter ⟨s.toArray⟩ (n + (Utf8.decode ⟨s.toArray⟩ n).2)) }
          have hup : Upd1 w w' (V.lam r') := ⟨fun k hk => by simp [w', Array.getElem?_setIfInBounds, Ne.symm hk], by simp [w'], rfl, rfl, rfl⟩
          have hset : (setObj (V.lam r') (.stringIter ⟨s.toArray⟩ (n + (Utf8.decode ⟨s.toArray⟩ n).2))).run P w = .ok () w' := by simp [setObj, Sem.run, hheap, w']
          obtain ⟨ha', hinv⟩ := hi.setRoot hpos hup (SameSz.noCells hheap (by intro c el f h; cases h)) (d := .tup [.str s, goI (n + (Utf8.decode ⟨s.toArray⟩ n).2)]) ⟨n + (Utf8.decode ⟨s.toArray⟩ n).2, rfl, by simp [w', hlt]⟩
          refine OpWp.value (v := .tuple #[.bool true, .int .i64 n, .int .i32 (Utf8.decode ⟨s.toArray⟩ n).1]) (w' := w') ?_ ⟨V, ha', by simpa using hinv, ?_⟩
          · simp only [execOp, ho, hv, Instr.next, Sem.run_bind, hget, Result.andThen_ok, size_mk, hn', if_true, hset, Sem.run_pure, goInt]
          · simp [VRel, VRels]
        · rename_i hn
          simp only [Option.some.injEq, Prod.mk.injEq] at hs
          obtain ⟨rfl, rfl⟩ := hs
          have hn' : ¬ n < s.length := by omega
          have hup : upd L r' (L r') = L := by funext k; simp only [upd]; split <;> simp_all
          rw [hup]
          refine OpWp.value (v := .tuple #[.bool false]) (w' := w) ?_ (Res.same hi (by simp [VRel, VRels]))
          simp only [execOp, ho, hv, Instr.next, Sem.run_bind, hget, Result.andThen_ok, size_mk, hn', if_false, Sem.run_pure]
      · cases hs
    · cases hs
  · cases hs
theorem mkI_sound (hi : Inv V L σ w) (he : EnvRel V w env a.tmps) {t : TypeId} {x : Operand} {q : Opd} {u : TypeDesc} (ho : o.op = .makeInterface t x) (hq : opd x = some q) (hu : P.underlying t = some u) (hni : ∀ m, u ≠ .interface m)
    (hs : mkISem t [q.val env] = some d) : OpWp P o a w (Res V w L σ d) := by
  have h1 := opd_rel (a := a) he hq
  simp only [mkISem, Option.some.injEq] at hs
  subst hs
  refine OpWp.value (v := .iface t (a.eval x)) (w' := w) ?_ (Res.same hi (by simp only [VRel]; exact ⟨_, rfl, h1⟩))
  cases u <;> first
    | exact absurd rfl (hni _)
    | simp [execOp, ho, Instr.makeInterface, run_underlying hu]
theorem tyA_sound (hi : Inv V L σ w) (he : EnvRel V w env a.tmps) {t u : TypeId} {x : Operand} {q : Opd} {td : TypeDesc} {z : DVal} (ho : o.op = .typeAssert x t u true) (hq : opd x = some q) (hu : P.underlying u = some td) (hni : ∀ m, td ≠ .interface m)
    (hz : ((P.info? u).bind (·.zero)).bind ofVal = some z) (hs : tyASem u z [q.val env] = some d) : OpWp P o a w (Res V w L σ d) := by
  have h1 := opd_rel (a := a) he hq
  generalize q.val env = x' at h1 hs
  simp only [Option.bind_eq_some_iff] at hz
  obtain ⟨zv, ⟨i, hi1, hz1⟩, hz2⟩ := hz
  have hzr : VRel V w 0 z zv := (ofVal_rel hz2).open'
  have hrun : ∀ t' v', (Instr.typeAssert (.iface t' v') t u true).run P w = .ok (if t' = u then .tuple #[v', .bool true] else .tuple #[zv, .bool false]) w := by
    intro t' v'
    cases td <;> first
      | exact absurd rfl (hni _)
      | (by_cases e : t' = u <;> simp [Instr.typeAssert, run_underlying hu, e, zeroValue, typeInfo, hi1, hz1])
  have hrunn : (Instr.typeAssert .nilIface t u true).run P w = .ok (.tuple #[zv, .bool false]) w := by
    cases td <;> first
      | exact absurd rfl (hni _)
      | simp [Instr.typeAssert, run_underlying hu, zeroValue, typeInfo, hi1, hz1]
  unfold tyASem at hs
  split at hs
  · rename_i t' d' e
    simp only [List.cons.injEq, and_true] at e
    subst e
    simp only [Option.some.injEq] at hs
    subst hs
    simp only [VRel] at h1
    obtain ⟨v', hv, hr⟩ := h1
    refine OpWp.value (v := if t' = u then .tuple #[v', .bool true] else .tuple #[zv, .bool false]) (w' := w) ?_ (Res.same hi ?_)
    · simp [execOp, ho, hv, hrun]
    · split
      · simp only [VRel]; exact ⟨_, rfl, ⟨_, _, rfl, hr, _, _, rfl, by simp [VRel], by simp [VRels]⟩⟩
      · simp only [VRel]; exact ⟨_, rfl, ⟨_, _, rfl, hzr, _, _, rfl, by simp [VRel], by simp [VRels]⟩⟩
  · rename_i e
    simp only [List.cons.injEq, and_true] at e
    subst e
    simp only [Option.some.injEq] at hs
    subst hs
    simp only [VRel] at h1
    refine OpWp.value (v := .tuple #[zv, .bool false]) (w' := w) ?_ (Res.same hi ?_)
    · simp [execOp, ho, h1, hrunn]
    · simp only [VRel]; exact ⟨_, rfl, ⟨_, _, rfl, hzr, _, _, rfl, by simp [VRel], by simp [VRels]⟩⟩
  · cases hs
theorem range_rep (z : Array Value) : ∀ (n : Nat), ((List.range (n * z.size)).map fun i => z[i % z.size]!) = (List.replicate n z.toList).flatten
  | 0 => by simp
  | n + 1 => by
    rw [Nat.add_mul, Nat.one_mul, List.range_add, List.map_append, range_rep z n, List.replicate_succ', List.flatten_append]
    congr 1
    simp only [List.map_map, List.flatten_cons, List.flatten_nil, List.append_nil]
    apply List.ext_getElem?
    intro i
    by_cases hi : i < z.size
    · simp [hi, Nat.mod_eq_of_lt hi, Nat.mul_comm n, Nat.mul_add_mod]
    · rw [List.getElem?_eq_none (by simpa using hi), List.getElem?_eq_none (by simpa using hi)]
theorem rep_rel {m : Nat} {cs : List DVal} {vs : List Value} (h : VRels V w m cs vs) : ∀ n, VRels V w m (List.replicate n cs).flatten (List.replicate n vs).flatten
  | 0 => by simp [VRels]
  | n + 1 => by
    simp only [List.replicate_succ, List.flatten_cons]
    exact h.append (rep_rel h n)
theorem run_makeSlice {t e : TypeId} {i : TypeInfo} {z : Value} {n : Nat} (hu : P.underlying t = some (.slice e)) (hi1 : P.info? e = some i) (hz : i.zero = some z) (hpos : 0 < i.size) (hby : i.bytes ≤ 1024) (hzs : z.cells.size = i.size) (hn : n ≤ 1048576) :
    (Instr.makeSlice t (.int .i64 n) (.int .i64 n)).run P w = .ok (.slice (some ⟨w.heap.size, 0, none⟩) n n) (w.alloc (.cells (List.replicate n z.cells.toList).flatten.toArray e)) := by
  have hw : IntKind.i64.wrap (n : Int) = n := by unfold IntKind.wrap; simp [IntKind.bits, IntKind.signed] <;> omega
  have hb : ¬ ((281474976710656 : Int) < (i.bytes : Int) * (n : Int)) := by
    have := Nat.mul_le_mul hby hn
    have h2 : (i.bytes : Int) * (n : Int) = ((i.bytes * n : Nat) : Int) := by simp
    rw [h2]; omega
  have ha : ∀ (m : Int) (w : World), (asInt (.int .i64 m)).run P w = .ok m w := fun _ _ => rfl
  have hneg : ¬ ((n : Int) < 0) := by omega
  have hw0 : IntKind.i64.wrap 0 = 0 := by decide
  have hr := range_rep z.cells n
  rw [hzs] at hr
  have hr' : (Array.range (n * i.size)).map (fun j => z.cells[j % z.cells.size]!) = (List.replicate n z.cells.toList).flatten.toArray := by
    apply Array.ext'
    simp only [Array.toList_map, Array.toList_range, hzs, hr]
  by_cases h0 : n = 0
  · subst h0
    simp [Instr.makeSlice, run_underlying hu, typeInfo, hi1, ha, hw0, hb, sizeOf, newRow, zeroValue, hz]
    congr 2
    apply Array.ext'
    simp [Array.toList_range]
  · have h0' : ¬ (n * i.size = 0) := by
      intro h; rcases Nat.mul_eq_zero.1 h with h | h <;> omega
    simp [Instr.makeSlice, run_underlying hu, typeInfo, hi1, ha, hw, hb, sizeOf, newRow, zeroValue, hz, h0', hr', hneg]
theorem makeS_sound (hi : Inv V L σ w) (he : EnvRel V w env a.tmps) {t e : TypeId} {l c : Operand} {p q : Opd} {i : TypeInfo} {zd : DVal} {σ' : Sto} (ho : o.op = .makeSlice t l c) (hu : P.underlying t = some (.slice e)) (hi1 : P.info? e = some i)
    (hz : i.zero.bind ofVal = some zd) (hpos : 0 < i.size) (hby : i.bytes ≤ 1024) (hzs : zd.cells.length = i.size) (hp : opd l = some p) (hq : opd c = some q) (hs : makeSem σ zd.cells [p.val env, q.val env] = some (d, σ')) : OpWp P o a w (Res V w L σ' d) := by
  have h1 := opd_rel (a := a) he hp
  have h2 := opd_rel (a := a) he hq
  generalize p.val env = x' at h1 hs
  generalize q.val env = y' at h2 hs
  simp only [Option.bind_eq_some_iff] at hz
  obtain ⟨z, hz1, hz2⟩ := hz
  have hzr : VRel V w 2 zd z := ofVal_rel hz2
  have hzc := hzr.cells
  have hsz : z.cells.size = i.size := by have := hzc.length; simp at this; omega
  unfold makeSem at hs
  split at hs
  · rename_i n m e'
    simp only [List.cons.injEq, and_true] at e'
    obtain ⟨rfl, rfl⟩ := e'
    split at hs
    · rename_i hc
      obtain ⟨rfl, h0, hn⟩ := hc
      simp only [Option.some.injEq, Prod.mk.injEq] at hs
      obtain ⟨rfl, rfl⟩ := hs
      simp only [VRel] at h1 h2
      obtain ⟨k, rfl⟩ : ∃ k : Nat, n = k := ⟨n.toNat, by omega⟩
      have hrun := run_makeSlice (P := P) (w := w) (n := k) hu hi1 hz1 hpos hby hsz (by omega)
      obtain ⟨V', ha, hinv, hno, hphi⟩ := hi.newObj (.cells (List.replicate k z.cells.toList).flatten.toArray e) (.agg (List.replicate k zd.cells).flatten) (fun V' w' hadv hh => ⟨_, e, _, [], hh, (List.append_nil _).symm, by simpa using (rep_rel (hzc.lower (by omega : 1 ≤ 2)) k).adv hadv⟩)
      refine OpWp.value (v := .slice (some ⟨w.heap.size, 0, none⟩) k k) (w' := w.alloc (.cells (List.replicate k z.cells.toList).flatten.toArray e)) ?_ ⟨V', ha, by simpa using hinv, ?_⟩
      · simp [execOp, ho, h1, h2, hrun]
      · simp only [VRel, Int.toNat_natCast]; exact ⟨by omega, by omega, k, by rw [hphi], Nat.le_refl _, fun q hq => by simpa using hq, _, e, by rw [hphi]; exact heap_alloc_new w _, by
          have : (List.replicate k z.cells.toList).flatten.length = k * zd.cells.length := by
            rw [List.length_flatten, List.map_replicate, List.sum_replicate_nat, Array.length_toList, hsz, hzs]
          simp only [List.size_toArray, this]
          omega⟩
    · cases hs
  · cases hs
end
end Go.Proofs.YtklepphkbbjbjaaDoor
namespace Go.Proofs.YtklepphkbbjbjaaDoor
set_option linter.unusedVariables false
set_option linter.unusedSimpArgs false
open Go
section
variable {P : Program} {w : World}
theorem run_append_nothing {t ty e : TypeId} {n : Nat} (ht : P.underlying t = some (.slice e)) (hz : szOf P e = some n) (base : Option Addr) (l c : Nat) (hl : l ≤ c) (x : Value) (hx : x = .slice none 0 0 ∨ ∃ a k, x = .slice (some a) 0 k) :
    (Builtin.append_ #[t, t] ty #[.slice base l c, x]).run P w = .ok (.slice base l c) w := by
  obtain ⟨i, h1, rfl⟩ := szOf_info hz
  rcases hx with rfl | ⟨a, k, rfl⟩ <;> cases base <;>
    simp [Builtin.append_, run_underlying ht, sizeOf, typeInfo, h1, Builtin.lenOf, hl, Builtin.firstCells, loadCells, loadCellsFrom, storeCells]
theorem run_append_room' (t ty e el : TypeId) (i : TypeInfo) (ht : P.underlying t = some (.slice e)) (hi : P.info? e = some i)
    (g sLen sCap : Nat) (cur : Array Value) (hg : w.heap[g]? = some (.cells cur el (0, 0)))
    (a : Addr) (m c : Nat) (news : List Value) (hl : news.length = m * i.size) (hnews : ∀ j u, news[j]? = some u → w.cell? (a.add j) = some u) (h1 : ∀ u ∈ news, u.oneCell' = true)
    (hroom : sLen + m ≤ sCap) (hfit : sLen * i.size + news.length ≤ cur.size) :
    (Builtin.append_ #[t, t] ty #[.slice (some ⟨g, 0, none⟩) sLen sCap, .slice (some a) m c]).run P w =
      .ok (.slice (some ⟨g, 0, none⟩) (sLen + m) sCap) (w.setRow g (cur.toList.take (sLen * i.size) ++ news ++ cur.toList.drop (sLen * i.size + news.length)).toArray) := by
  have hf := run_firstCells_some (P := P) w i.size m a m c news hl hnews
  have hst := run_storeCells_at P g (sLen * i.size) el news 0 cur w hg (by simpa using hfit) h1
  simp only [Nat.add_zero] at hst
  simp [Builtin.append_, run_underlying ht, sizeOf, typeInfo, hi, Builtin.lenOf, hroom, hf, Addr.add_lit, hst]
end
theorem rows_block {V : Vw} {w : World} {cl : Nat} {b sz : Nat} {es : List (List DVal)} {vs rest : List Value} {c : Array Value} {el : TypeId} (hb : w.heap[b]? = some (.cells c el (0, 0))) (hc : c.toList = vs ++ rest)
    (hes : ∀ e ∈ es, e.length = sz) (hv : VRels V w cl es.flatten vs) (h1 : ∀ v ∈ vs, v.oneCell' = true) (himm : ∀ i, i < es.flatten.length → V.imm b i) : RowsRel V w cl b sz 0 es :=
  RowsRel.mk hes (fun i hi => by rw [Nat.zero_add]; exact himm i hi) hv (fun i v hi => by
    refine ⟨?_, h1 v (List.mem_of_getElem? hi)⟩
    rw [Nat.zero_add, cell_of_row w b i c el (0, 0) hb, ← Array.getElem?_toList, hc, List.getElem?_append_left (List.getElem?_eq_some_iff.1 hi).1]
    exact hi)
theorem VRels.weak {V : Vw} {w : World} {px pt : Bool} {ds : List DVal} {vs : List Value} (h : VRels V w (emode px) ds vs) (hp : px = true → pt = true) : VRels V w (emode pt) ds vs := by
  refine h.lower ?_
  cases pt <;> cases px <;> simp [emode] at hp ⊢
section
variable {P : Program} {h : Hint} {V : Vw} {w : World} {L : Nat → Nat × DVal} {σ : Sto} {env : Nat → DVal} {a : Act} {d : DVal} {o : Oper}
theorem elemsOf_rel {x : DVal} {v : Value} {px : Bool} {new : List (List DVal)} {sz : Nat} (hx : VRel V w 0 x v) (he : elemsOf x = some (px, new)) (hsz : ∀ pt own sz' es, x = .slice pt own sz' es → sz' = sz) :
    (v = .slice none 0 0 ∧ new = []) ∨ ∃ ad cap vs, v = .slice (some ad) new.length cap ∧ (∀ e ∈ new, e.length = sz) ∧ VRels V w (emode px) new.flatten vs ∧ (∀ j u, vs[j]? = some u → w.cell? (ad.add j) = some u) ∧ (∀ u ∈ vs, u.oneCell' = true) ∧ vs.length = new.length * sz := by
  cases x <;> simp only [elemsOf, Option.some.injEq, Prod.mk.injEq, reduceCtorEq] at he
  · obtain ⟨rfl, rfl⟩ := he
    simp only [VRel] at hx
    exact .inl ⟨hx, rfl⟩
  · rename_i pt own sz' es
    obtain ⟨rfl, rfl⟩ := he
    have := hsz _ _ _ _ rfl
    subst this
    simp only [VRel] at hx
    obtain ⟨-, b, off, cap, rfl, -, -, hrows⟩ := hx
    obtain ⟨k1, -, vs, k3, k4⟩ := hrows.vals
    refine .inr ⟨⟨b, off, none⟩, cap, vs, rfl, k1, k3, fun j u hu => by rw [add_mk]; exact (k4 j u hu).1, fun u hu => ?_, by rw [k3.length, flatten_length k1]⟩
    obtain ⟨j, hj⟩ := List.mem_iff_getElem?.1 hu
    exact (k4 j u hj).2
  · obtain ⟨rfl, rfl⟩ := he
    simp only [VRel] at hx
    obtain ⟨A, rfl⟩ := hx
    exact .inr ⟨A, 0, [], rfl, by simp, by simp [VRels], by simp, by simp, by simp⟩
theorem snapRows_rel {sz : Nat} : ∀ {n : Nat} {cs : List DVal} {es : List (List DVal)} {us : List Value}, VRels V w 1 cs us → snapRows sz n cs = some es →
    (∀ e ∈ es, e.length = sz) ∧ es.length = n ∧ n * sz ≤ us.length ∧ VRels V w 2 es.flatten (us.take (n * sz)) ∧ ∀ u ∈ us.take (n * sz), u.oneCell' = true
  | 0, cs, es, us, h, hs => by
    simp only [snapRows, Option.some.injEq] at hs
    subst hs
    simp [VRels]
  | n + 1, cs, es, us, h, hs => by
    simp only [snapRows] at hs
    split at hs
    · rename_i hle
      split at hs
      · rename_i e es' h1 h2
        simp only [Option.some.injEq] at hs
        subst hs
        have hl := h.length
        have a1 := h.take sz
        have a2 := h.drop sz
        have b1 := sealCells_rel (a1.lower (by omega : 0 ≤ 1)) h1
        obtain ⟨c1, c2, c3, c4, c5⟩ := snapRows_rel a2 h2
        have le : e.length = sz := by have := b1.length; simp at this; omega
        have hsplit : us.take ((n + 1) * sz) = us.take sz ++ (us.drop sz).take (n * sz) := by
          rw [Nat.add_mul, Nat.one_mul, Nat.add_comm, List.take_add]
        have one1 : ∀ u ∈ us.take sz, u.oneCell' = true := sealCells_one (a1.lower (by omega : 0 ≤ 1)) h1
        refine ⟨?_, by simp [c2], ?_, ?_, ?_⟩
        · intro x hx
          rcases List.mem_cons.1 hx with rfl | hx
          · exact le
          · exact c1 x hx
        · simp only [List.length_drop] at c3
          rw [Nat.add_mul, Nat.one_mul]; omega
        · rw [hsplit, List.flatten_cons]
          exact b1.append c4
        · rw [hsplit]
          intro u hu
          rcases List.mem_append.1 hu with hu | hu
          · exact one1 u hu
          · exact c5 u hu
      · cases hs
    · cases hs
theorem snapM_ne {σ : Sto} {sz id off len : Nat} {es : List (List DVal)} (hs : snapM σ sz id off len = some es) : σ.obj id ≠ .undef := by
  intro he
  unfold snapM at hs
  rw [he] at hs
  split at hs <;> cases hs
theorem snapM_rel (hi : Inv V L σ w) {sz id off len : Nat} {es : List (List DVal)} (hid : id < V.nobj) (hs : snapM σ sz id off len = some es) :
    ∃ vs, (∀ e ∈ es, e.length = sz) ∧ es.length = len ∧ VRels V w 2 es.flatten vs ∧ (∀ j u, vs[j]? = some u → w.cell? ⟨V.phi id, off + j, none⟩ = some u) ∧ (∀ u ∈ vs, u.oneCell' = true) ∧ vs.length = len * sz := by
  unfold snapM at hs
  split at hs
  · split at hs
    · rename_i cs hcs
      have hobj := (hi.obj id hid).2
      rw [hcs] at hobj
      obtain ⟨c, el, us, rest, h1, h0, h2⟩ := hobj
      obtain ⟨a1, a2, a3, a4, a5⟩ := snapRows_rel (h2.drop off) hs
      refine ⟨_, a1, a2, a4, fun j u hu => ?_, a5, by rw [List.length_take]; omega⟩
      rw [List.getElem?_take] at hu
      split at hu
      · rw [List.getElem?_drop] at hu
        rw [cell_of_row w _ _ c el (0, 0) h1, ← Array.getElem?_toList, h0, List.getElem?_append_left (List.getElem?_eq_some_iff.1 hu).1]
        exact hu
      · cases hu
    · cases hs
  · cases hs
theorem elemsM_rel (hi : Inv V L σ w) {x : DVal} {v : Value} {px : Bool} {new : List (List DVal)} {sz : Nat} (hx : VRel V w 0 x v) (he : elemsM σ x = some (px, new)) (hsz : x.szOk sz = true) :
    (v = .slice none 0 0 ∧ new = []) ∨ ∃ ad cap vs, v = .slice (some ad) new.length cap ∧ (∀ e ∈ new, e.length = sz) ∧ VRels V w (emode px) new.flatten vs ∧ (∀ j u, vs[j]? = some u → w.cell? (ad.add j) = some u) ∧ (∀ u ∈ vs, u.oneCell' = true) ∧ vs.length = new.length * sz := by
  cases x
  case mslice sz' id off len cap =>
    have e : sz' = sz := by simpa [DVal.szOk] using hsz
    subst e
    simp only [elemsM, Option.map_eq_some_iff, Prod.mk.injEq] at he
    obtain ⟨es, hes, rfl, rfl⟩ := he
    simp only [VRel] at hx
    obtain ⟨-, hid, c, rfl, hc, -⟩ := hx
    obtain ⟨vs, a1, a2, a3, a4, a5, a6⟩ := snapM_rel hi hid hes
    exact .inr ⟨⟨V.phi id, off, none⟩, c, vs, by rw [a2], a1, by simpa [emode] using a3, fun j u hu => by rw [add_mk]; exact a4 j u hu, a5, by rw [a2]; exact a6⟩
  all_goals
    refine elemsOf_rel hx he ?_
    intro pt own sz' es h
    first
      | (cases h; simpa [DVal.szOk] using hsz)
      | cases h
theorem convBytes_sound (hi : Inv V L σ w) (he : EnvRel V w env a.tmps) {s t e : TypeId} {x : Operand} {q : Opd} (ho : o.op = .convert s t x) (hq : opd x = some q)
    (h1 : P.underlying s = some (.slice e)) (h3 : P.underlying e = some (.int .u8)) (h2 : P.underlying t = some .string) (hs : convBSem [q.val env] = some d) : OpWp P o a w (Res V w L σ d) := by
  have hr := opd_rel (a := a) he hq
  generalize q.val env = x' at hr hs
  unfold convBSem at hs
  split at hs
  · rename_i pt own es e2
    simp only [List.cons.injEq, and_true] at e2
    subst e2
    simp only [Option.map_eq_some_iff] at hs
    obtain ⟨l, hl, rfl⟩ := hs
    simp only [VRel] at hr
    obtain ⟨-, b, off, cap, hv, -, -, hrows⟩ := hr
    obtain ⟨k1, -, vs, k3, k4⟩ := hrows.vals
    obtain ⟨g1, g2⟩ := bytes_vals hl k3
    have hrun := run_convert_bytes_back (P := P) w s t e ⟨b, off, none⟩ cap l h1 h3 h2 (fun j hj => by
      rw [add_mk]
      refine (k4 j _ ?_).1
      rw [g2]
      simp [hj])
    refine OpWp.value (v := .string ⟨l.toArray⟩) (w' := w) ?_ (Res.same hi (by simp only [VRel]))
    simp [execOp, ho, hv, g1, hrun]
  · cases hs
theorem exec_append {c : Call} {s x : Operand} {t : TypeId} (ho : o.op = .call c) (hc : c.callee = .builtin .append) (hargs : c.args = #[s, x]) (ht : c.argTypes = #[t, t]) {v : Value} {w' : World}
    (hr : (Builtin.append_ #[t, t] o.type #[a.eval s, a.eval x]).run P w = .ok v w') : (execOp a.eval o).run P w = .ok (.value v) w' := by
  simp [execOp, ho, resolve, hc, hargs, ht, invoke, builtin, hr]
theorem newArr (hi : Inv V L σ w) {pt : Bool} {sz need cap : Nat} {E : List (List DVal)} {vals : List Value} {e : TypeId} {rest : List Value} (hsz : 0 < sz) (hE : ∀ x ∈ E, x.length = sz) (hlen : E.length = need) (hpos : 0 < need) (hv : VRels V w (emode pt) E.flatten vals)
    (h1 : ∀ u ∈ vals, u.oneCell' = true) (hcap : need ≤ cap) {c : Array Value} (hcl : c.toList = vals ++ rest) (hcs : c.size = cap * sz) {w1 : World} (hw1 : w1.heap = w.heap) (ho : w1.os = w.os) (htape : w1.tape = w.tape) (hout : w1.output = w.output) :
    Res V w L { σ with ntok := σ.ntok + 1, fr := upd σ.fr σ.ntok (need * sz) } (.slice pt (σ.ntok + 3) sz E) (.slice (some ⟨w.heap.size, 0, none⟩) need cap) (w1.alloc (.cells c e)) := by
  obtain ⟨ha1, hi1⟩ := hi.drew hw1 ho htape hout
  have hvl : vals.length = need * sz := by rw [hv.length, flatten_length hE, hlen]
  obtain ⟨V', ha2, hi2, e1, e2, e3, e4⟩ := hi1.newTok c e (need * sz) (by rw [hcs]; exact Nat.mul_le_mul_right _ hcap)
  have ha := ha1.trans ha2
  rw [hw1] at e2 e4
  have hheap : (w1.alloc (.cells c e)).heap[w.heap.size]? = some (.cells c e (0, 0)) := by rw [← hw1]; exact heap_alloc_new w1 _
  refine ⟨V', ha, hi2, ?_⟩
  simp only [VRel]
  refine ⟨.inl (by omega), w.heap.size, 0, cap, by rw [hlen], by omega, ⟨by omega, fun e => by omega, fun _ => ⟨by omega, ?_, fun _ => ⟨by simpa using e2, rfl, c, e, hheap, hcs⟩⟩⟩, ?_⟩
  · rw [e3, hlen]; simp [upd]
  · refine rows_block hheap hcl hE (VRels.ext ha.ei _ _ _ (fun _ => ha.er) (fun _ => ha.el) hv) h1 (fun i hi' => ?_)
    rw [flatten_length hE, hlen] at hi'
    have hB : V'.B ≤ w.heap.size := by rw [ha.B]; exact hi.hB
    refine .inr ⟨hB, .inr ⟨by rw [e4]; simp [upd], ?_⟩⟩
    rw [e4, e3]
    simp only [upd, if_true]
    exact hi'
set_option maxHeartbeats 1000000 in
theorem app_sound (hi : Inv V L σ w) (he : EnvRel V w env a.tmps) {c : Call} {s x : Operand} {p q : Opd} {t e : TypeId} {i : TypeInfo} {z : Value} {pt : Bool} {σ' : Sto} (ho : o.op = .call c) (hc : c.callee = .builtin .append)
    (hargs : c.args = #[s, x]) (hts : c.argTypes = #[t, t]) (ht : P.underlying t = some (.slice e)) (hi1 : P.info? e = some i) (hsz : 0 < i.size) (hby : i.bytes ≤ 1024) (hz : i.zero = some z) (hzs : z.cells.size = i.size)
    (hp : opd s = some p) (hq : opd x = some q) (hs : app2Sem pt i.size σ [p.val env, q.val env] = some (d, σ')) : OpWp P o a w (Res V w L σ' d) := by
  have h1 := opd_rel (a := a) he hp
  have h2 := opd_rel (a := a) he hq
  generalize p.val env = s' at h1 hs
  generalize q.val env = x' at h2 hs
  simp only [app2Sem, appSem] at hs
  split at hs
  · rename_i px new hel
    split at hs
    · cases hs
    · rename_i hcond
      simp only [Bool.or_eq_true, Bool.and_eq_true, Bool.not_eq_true', not_or, not_and, Bool.not_eq_false, Bool.not_eq_true] at hcond
      obtain ⟨hpx, hxsz⟩ := hcond
      have hx := elemsM_rel hi h2 hel hxsz
      have hxe : new = [] → a.eval x = .slice none 0 0 ∨ ∃ ad k, a.eval x = .slice (some ad) 0 k := by
        rintro rfl
        rcases hx with ⟨hv, -⟩ | ⟨ad, cap, vs, hv, -⟩
        · exact .inl hv
        · exact .inr ⟨ad, cap, hv⟩
      split at hs
      · -- nil
        split at hs
        · rename_i hemp
          simp only [Option.some.injEq, Prod.mk.injEq] at hs
          obtain ⟨rfl, rfl⟩ := hs
          have hnil : new = [] := by simpa using hemp
          simp only [VRel] at h1
          refine OpWp.value (w' := w) (exec_append ho hc hargs hts ?_) (Res.same hi (by simp only [VRel]; exact h1))
          rw [h1]
          exact run_append_nothing ht (szOf_of hi1) none 0 0 (Nat.le_refl _) _ (hxe hnil)
        · rename_i hemp
          split at hs
          · rename_i hmax
            simp only [Option.some.injEq, Prod.mk.injEq] at hs
            obtain ⟨rfl, rfl⟩ := hs
            rcases hx with ⟨-, rfl⟩ | ⟨ad, cap, vs, hv, k1, k2, k3, k4, k5⟩
            · simp at hemp
            · have hpos : 0 < new.length := by
                rcases Nat.eq_zero_or_pos new.length with e0 | e0
                · exact absurd (by simpa using e0) (by simpa using hemp)
                · exact e0
              simp only [VRel] at h1
              simp only [maxAppend] at hmax
              have hrun := run_append_nil (P := P) w t o.type e i z ht hi1 hz ad new.length cap vs k5 k3 hpos (by omega)
                (by have := Nat.mul_le_mul hmax hby; omega)
              refine OpWp.value (exec_append ho hc hargs hts (by rw [h1, hv]; exact hrun)) ?_
              refine newArr hi hsz k1 rfl hpos (k2.weak hpx) k4 (grownCap_ge w new.length 0 e) (rest := (Builtin.zeroCells z.cells (grownCap w new.length 0 e - new.length)).toList) (by simp) ?_ rfl rfl rfl rfl
              have := grownCap_ge w new.length 0 e
              simp only [Array.size_append, List.size_toArray, size_zeroCells, hzs, k5, ← Nat.add_mul]
              congr 1
              omega
          · cases hs
      · -- a slice
        rename_i ps own sz' es
        split at hs
        · rename_i hcc
          obtain ⟨rfl, rfl, hmax⟩ := hcc
          simp only [VRel] at h1
          obtain ⟨-, b, off, cap, hv1, hcap, hown, hrows⟩ := h1
          obtain ⟨m1, m2, olds, m3, m4⟩ := hrows.vals
          have mol : olds.length = es.length * i.size := by rw [m3.length, flatten_length m1]
          have mone : ∀ u ∈ olds, u.oneCell' = true := fun u hu => by
            obtain ⟨j, hj⟩ := List.mem_iff_getElem?.1 hu
            exact (m4 j u hj).2
          have mcell : ∀ j u, olds[j]? = some u → w.cell? ((⟨b, off, none⟩ : Addr).add j) = some u := fun j u hu => by rw [add_mk]; exact (m4 j u hu).1
          split at hs
          · rename_i hemp
            simp only [Option.some.injEq, Prod.mk.injEq] at hs
            obtain ⟨rfl, rfl⟩ := hs
            have hnil : new = [] := by simpa using hemp
            refine OpWp.value (w' := w) (exec_append ho hc hargs hts (v := .slice (some ⟨b, off, none⟩) es.length cap) ?_) (Res.same hi ?_)
            · rw [hv1]
              exact run_append_nothing ht (szOf_of hi1) _ _ _ hcap _ (hxe hnil)
            · simp only [VRel]
              exact ⟨.inl (by omega), b, off, cap, rfl, hcap, hown, hrows⟩
          · rename_i hemp
            rcases hx with ⟨-, rfl⟩ | ⟨ad, xcap, vs, hv, k1, k2, k3, k4, k5⟩
            · simp at hemp
            · have hpos : 0 < new.length := by
                rcases Nat.eq_zero_or_pos new.length with e0 | e0
                · exact absurd (by simpa using e0) (by simpa using hemp)
                · exact e0
              simp only [maxAppend] at hmax
              have hfit : Builtin.nextslicecap (es.length + new.length) cap * i.bytes ≤ 281474976710656 ∨ ¬ cap < es.length + new.length := by
                by_cases hlt : cap < es.length + new.length
                · left
                  exact growslice_fits hlt (by have := Nat.mul_le_mul hmax hby; omega)
                · exact .inr hlt
              have hE : ∀ y ∈ es ++ new, y.length = i.size := fun y hy => by
                rcases List.mem_append.1 hy with hy | hy
                · exact m1 y hy
                · exact k1 y hy
              have hVals : VRels V w (emode ps) (es ++ new).flatten (olds ++ vs) := by
                rw [List.flatten_append]
                exact m3.append (k2.weak hpx)
              have hOne : ∀ u ∈ olds ++ vs, u.oneCell' = true := fun u hu => by
                rcases List.mem_append.1 hu with hu | hu
                · exact mone u hu
                · exact k4 u hu
              have hgc := grownCap_ge w (es.length + new.length) cap e
              have hcsize : (olds.toArray ++ vs.toArray ++ Builtin.zeroCells z.cells (grownCap w (es.length + new.length) cap e - (es.length + new.length))).size = grownCap w (es.length + new.length) cap e * i.size := by
                simp only [Array.size_append, List.size_toArray, size_zeroCells, hzs, k5, mol, ← Nat.add_mul]
                congr 1
                omega
              split at hs
              · rename_i hown1
                simp only [Option.some.injEq, Prod.mk.injEq] at hs
                obtain ⟨rfl, rfl⟩ := hs
                have hce := hown.2.1 hown1
                have hlt : cap < es.length + new.length := by omega
                have hrun := run_append_grow (P := P) w t o.type e i z ht hi1 hz ⟨b, off, none⟩ es.length cap olds mol mcell ad new.length xcap vs k5 k3 hlt (by omega) (hfit.resolve_right (fun hn => hn hlt))
                refine OpWp.value (exec_append ho hc hargs hts (by rw [hv1, hv]; exact hrun)) ?_
                exact newArr hi hsz hE (by simp) (by omega) hVals hOne hgc (rest := (Builtin.zeroCells z.cells (grownCap w (es.length + new.length) cap e - (es.length + new.length))).toList) (by simp) hcsize rfl rfl rfl rfl
              · split at hs
                · rename_i hown1 htok
                  obtain ⟨ho3, hfr⟩ := htok
                  simp only [Option.some.injEq, Prod.mk.injEq] at hs
                  obtain ⟨rfl, rfl⟩ := hs
                  obtain ⟨g1, g2, g3⟩ := hown.2.2 ho3
                  have hfrV : V.fr (own - 3) = es.length * i.size := by rw [hi.fr]; exact hfr
                  obtain ⟨t1, t2, cur, el, t3, t4⟩ := g3 hfrV.symm
                  subst t2
                  have ttag := (hi.tok _ g1).1
                  by_cases hlt : cap < es.length + new.length
                  · -- a new array
                    have hrun := run_append_grow (P := P) w t o.type e i z ht hi1 hz ⟨b, 0, none⟩ es.length cap olds mol mcell ad new.length xcap vs k5 k3 hlt (by omega) (hfit.resolve_right (fun hn => hn hlt))
                    refine OpWp.value (exec_append ho hc hargs hts (by rw [hv1, hv]; exact hrun)) ?_
                    obtain ⟨ha1, hi2⟩ := hi.drew (w' := w.drew) rfl rfl rfl rfl
                    have hnew : 0 < new.length * i.size := Nat.mul_pos hpos hsz
                    obtain ⟨V', ha2, hi3, e1, e2, e3, e4, e5⟩ := hi2.regrow g1 (olds.toArray ++ vs.toArray ++ Builtin.zeroCells z.cells (grownCap w (es.length + new.length) cap e - (es.length + new.length))) e (f := (es.length + new.length) * i.size)
                      (by rw [hfrV, Nat.add_mul]; omega) (by rw [hcsize]; exact Nat.mul_le_mul_right _ hgc)
                    have ha := ha1.trans ha2
                    have hheap := heap_alloc_new w.drew (.cells (olds.toArray ++ vs.toArray ++ Builtin.zeroCells z.cells (grownCap w (es.length + new.length) cap e - (es.length + new.length))) e)
                    refine ⟨V', ha, hi3, ?_⟩
                    simp only [VRel]
                    refine ⟨.inl (by omega), w.heap.size, 0, grownCap w (es.length + new.length) cap e, by simp, by simpa using hgc, ⟨hown.1, fun e => absurd e hown1, fun _ => ⟨by omega, by rw [e3]; simp, fun _ => ⟨e2, rfl, _, e, hheap, hcsize⟩⟩⟩, ?_⟩
                    refine rows_block hheap (rest := (Builtin.zeroCells z.cells (grownCap w (es.length + new.length) cap e - (es.length + new.length))).toList) (by simp) hE (VRels.ext ha.ei _ _ _ (fun _ => ha.er) (fun _ => ha.el) hVals) hOne (fun j hj => ?_)
                    rw [flatten_length hE, List.length_append] at hj
                    refine .inr ⟨by rw [e5]; exact hi.hB, .inr ⟨?_, ?_⟩⟩
                    · have e4' : V'.tag w.heap.size = (4, own - 3) := e4
                      rw [e4']
                    · have e4' : V'.tag w.heap.size = (4, own - 3) := e4
                      rw [e4']
                      show j < V'.fr (own - 3)
                      rw [e3]
                      exact hj
                  · -- in place
                    have hroom : es.length + new.length ≤ cap := by omega
                    have hroom' : (es.length + new.length) * i.size ≤ cap * i.size := Nat.mul_le_mul_right _ hroom
                    rw [Nat.add_mul] at hroom'
                    have hrun := run_append_room' (P := P) (w := w) t o.type e el i ht hi1 b es.length cap cur t3 ad new.length xcap vs k5 k3 k4 hroom (by omega)
                    refine OpWp.value (exec_append ho hc hargs hts (by rw [hv1, hv]; exact hrun)) ?_
                    have hheap := setRow_heap w b cur (cur.toList.take (es.length * i.size) ++ vs ++ cur.toList.drop (es.length * i.size + vs.length)).toArray el (0, 0) t3
                    have htake : cur.toList.take (es.length * i.size) = olds := by
                      apply List.ext_getElem?
                      intro j
                      rw [List.getElem?_take]
                      split
                      · rename_i hj
                        have hjl : j < olds.length := by omega
                        have := mcell j olds[j] (List.getElem?_eq_getElem hjl)
                        rw [add_mk, Nat.zero_add, cell_of_row w b j cur el (0, 0) t3] at this
                        rw [Array.getElem?_toList, this, List.getElem?_eq_getElem hjl]
                      · rename_i hj
                        rw [List.getElem?_eq_none (by omega)]
                    rw [htake] at hheap
                    rw [htake]
                    have hcs' : (olds ++ vs ++ cur.toList.drop (es.length * i.size + vs.length)).toArray.size = cur.size := by
                      simp only [List.size_toArray, List.length_append, List.length_drop, Array.length_toList]
                      omega
                    obtain ⟨ha, hinv⟩ := hi.extend g1 (w' := w.setRow b (olds ++ vs ++ cur.toList.drop (es.length * i.size + vs.length)).toArray) (by rw [t1]; exact Upd1.setRow w b _) (by rw [t1]; exact t3) (by rw [t1]; exact hheap) hcs'
                      (fun j hj => by
                        rw [hfrV] at hj
                        have hjl : j < olds.length := by omega
                        have := mcell j olds[j] (List.getElem?_eq_getElem hjl)
                        rw [add_mk, Nat.zero_add, cell_of_row w b j cur el (0, 0) t3] at this
                        rw [this]
                        simp [List.getElem?_append_left, hjl, List.append_assoc]) (f := (es.length + new.length) * i.size) (by rw [hfrV, Nat.add_mul]; omega) (by rw [Nat.add_mul]; omega)
                    refine ⟨_, ha, hinv, ?_⟩
                    simp only [VRel]
                    refine ⟨.inl (by omega), b, 0, cap, by simp, by simpa using hroom, ⟨hown.1, fun e => absurd e hown1, fun _ => ⟨g1, by simp [upd], fun _ => ⟨t1, rfl, _, el, hheap, by rw [hcs']; exact t4⟩⟩⟩, ?_⟩
                    refine rows_block hheap (rest := cur.toList.drop (es.length * i.size + vs.length)) (by simp) hE (VRels.ext ha.ei _ _ _ (fun _ => ha.er) (fun _ => ha.el) hVals) hOne (fun j hj => ?_)
                    rw [flatten_length hE, List.length_append] at hj
                    refine .inr ⟨by rw [← t1]; exact (hi.tag _ (by rw [ttag]; simp)).1, .inr ⟨?_, ?_⟩⟩
                    · show (V.tag b).1 = 4
                      rw [← t1, ttag]
                    · show j < upd V.fr (own - 3) _ (V.tag b).2
                      rw [← t1, ttag]
                      simpa [upd] using hj
                · cases hs
        · cases hs
      · cases hs
  · cases hs
theorem tightOf_rel (hi : Inv V L σ w) {x : DVal} {v : Value} {es : List (List DVal)} {sz : Nat} (hx : VRel V w 0 x v) (ht : tightOf σ sz x = some es) :
    (v = .slice none 0 0 ∧ es = []) ∨ ∃ ad vs, v = .slice (some ad) es.length es.length ∧ (∀ e ∈ es, e.length = sz) ∧ VRels V w 2 es.flatten vs ∧ (∀ j u, vs[j]? = some u → w.cell? (ad.add j) = some u) ∧ (∀ u ∈ vs, u.oneCell' = true) ∧ vs.length = es.length * sz := by
  unfold tightOf at ht
  split at ht
  · simp only [Option.some.injEq] at ht
    subst ht
    simp only [VRel] at hx
    exact .inl ⟨hx, rfl⟩
  · simp only [Option.some.injEq] at ht
    subst ht
    simp only [VRel] at hx
    obtain ⟨A, rfl⟩ := hx
    exact .inr ⟨A, [], rfl, by simp, by simp [VRels], by simp, by simp, by simp⟩
  · rename_i own sz' es'
    split at ht
    · rename_i hc
      obtain ⟨rfl, rfl⟩ := hc
      simp only [Option.some.injEq] at ht
      subst ht
      simp only [VRel] at hx
      obtain ⟨-, b, off, cap, rfl, -, hown, hrows⟩ := hx
      obtain ⟨k1, -, vs, k3, k4⟩ := hrows.vals
      have hcap := hown.2.1 rfl
      subst hcap
      refine .inr ⟨⟨b, off, none⟩, vs, rfl, k1, by simpa [emode] using k3, fun j u hu => by rw [add_mk]; exact (k4 j u hu).1, fun u hu => ?_, by rw [k3.length, flatten_length k1]⟩
      obtain ⟨j, hj⟩ := List.mem_iff_getElem?.1 hu
      exact (k4 j u hj).2
    · cases ht
  · rename_i sz' id off len cap
    split at ht
    · rename_i hc
      obtain ⟨rfl, rfl⟩ := hc
      simp only [VRel] at hx
      obtain ⟨-, hid, c, rfl, -, hcap, -⟩ := hx
      have := hcap len rfl
      subst this
      obtain ⟨vs, a1, a2, a3, a4, a5, a6⟩ := snapM_rel hi hid ht
      exact .inr ⟨⟨V.phi id, off, none⟩, vs, by rw [a2], a1, a3, fun j u hu => by rw [add_mk]; exact a4 j u hu, a5, by rw [a2]; exact a6⟩
    · cases ht
  · cases ht
theorem newArrM (hi : Inv V L σ w) {sz need cap : Nat} {E : List (List DVal)} {vals rest : List Value} {e : TypeId} (hlen : E.length = need) (hcap : need ≤ cap) (hv : VRels V w 2 E.flatten vals)
    {c : Array Value} (hcl : c.toList = vals ++ rest) (hcs : cap * sz ≤ c.size) {w1 : World} (hw1 : w1.heap = w.heap) (ho : w1.os = w.os) (htape : w1.tape = w.tape) (hout : w1.output = w.output) :
    Res V w L { σ with nobj := σ.nobj + 1, obj := upd σ.obj σ.nobj (.agg E.flatten) } (.mslice sz σ.nobj 0 need none) (.slice (some ⟨w.heap.size, 0, none⟩) need cap) (w1.alloc (.cells c e)) := by
  obtain ⟨ha1, hi1⟩ := hi.drew hw1 ho htape hout
  obtain ⟨V', ha2, hi2, e1, e2⟩ := hi1.newObj (.cells c e) (.agg E.flatten) (fun V' w' hadv hh => ⟨c, e, vals, rest, hh, hcl, ((hv.adv ha1).lower (by omega : 1 ≤ 2)).adv hadv⟩)
  have ha := ha1.trans ha2
  rw [hw1] at e2
  refine ⟨V', ha, hi2, ?_⟩
  simp only [VRel]
  exact ⟨by omega, by omega, cap, by rw [e2], hcap, (fun k hk => by cases hk), c, e, by rw [e2, ← hw1]; exact heap_alloc_new w1 _, by omega⟩
set_option maxHeartbeats 1000000 in
theorem appM_sound (hi : Inv V L σ w) (he : EnvRel V w env a.tmps) {c : Call} {s x : Operand} {p q : Opd} {t e : TypeId} {i : TypeInfo} {z : Value} {σ' : Sto} (ho : o.op = .call c) (hc : c.callee = .builtin .append)
    (hargs : c.args = #[s, x]) (hts : c.argTypes = #[t, t]) (ht : P.underlying t = some (.slice e)) (hi1 : P.info? e = some i) (hby : i.bytes ≤ 1024) (hz : i.zero = some z) (hzs : z.cells.size = i.size)
    (hp : opd s = some p) (hq : opd x = some q) (hs : appMSem i.size σ [p.val env, q.val env] = some (d, σ')) : OpWp P o a w (Res V w L σ' d) := by
  have h1 := opd_rel (a := a) he hp
  have h2 := opd_rel (a := a) he hq
  generalize p.val env = s' at h1 hs
  generalize q.val env = x' at h2 hs
  simp only [appMSem] at hs
  split at hs
  · rename_i new hel
    split at hs
    · cases hs
    · rename_i hcond
      have hxsz : x'.szOk i.size = true := by simpa using hcond
      have hx := elemsM_rel hi h2 hel hxsz
      have hxe : new = [] → a.eval x = .slice none 0 0 ∨ ∃ ad k, a.eval x = .slice (some ad) 0 k := by
        rintro rfl
        rcases hx with ⟨hv, -⟩ | ⟨ad, cap, vs, hv, -⟩
        · exact .inl hv
        · exact .inr ⟨ad, cap, hv⟩
      split at hs
      · rename_i es htight
        have hT := tightOf_rel hi h1 htight
        split at hs
        · rename_i hemp
          simp only [Option.some.injEq, Prod.mk.injEq] at hs
          obtain ⟨rfl, rfl⟩ := hs
          have hnil : new = [] := by simpa using hemp
          refine OpWp.value (v := a.eval s) (w' := w) (exec_append ho hc hargs hts ?_) (Res.same hi h1)
          rcases hT with ⟨hv1, -⟩ | ⟨ad, vs, hv1, -⟩ <;> rw [hv1]
          · exact run_append_nothing ht (szOf_of hi1) none 0 0 (Nat.le_refl _) _ (hxe hnil)
          · exact run_append_nothing ht (szOf_of hi1) _ _ _ (Nat.le_refl _) _ (hxe hnil)
        · rename_i hemp
          split at hs
          · rename_i hmax
            simp only [Option.some.injEq, Prod.mk.injEq] at hs
            obtain ⟨rfl, rfl⟩ := hs
            simp only [maxAppend] at hmax
            have hpos : 0 < new.length := by
              rcases Nat.eq_zero_or_pos new.length with e0 | e0
              · exact absurd (by simpa using e0) (by simpa using hemp)
              · exact e0
            rcases hx with ⟨-, rfl⟩ | ⟨ad, xcap, vs, hv, k1, k2, k3, k4, k5⟩
            · simp at hemp
            · have k2' : VRels V w 2 new.flatten vs := by simpa [emode] using k2
              rcases hT with ⟨hv1, rfl⟩ | ⟨ad1, olds, hv1, m1, m3, mcell, mone, mol⟩
              · have hrun := run_append_nil (P := P) w t o.type e i z ht hi1 hz ad new.length xcap vs k5 k3 hpos (by simp at hmax; omega)
                  (by have := Nat.mul_le_mul (by simpa using hmax : new.length ≤ 4294967296) hby; omega)
                refine OpWp.value (exec_append ho hc hargs hts (by rw [hv1, hv]; exact hrun)) ?_
                have := newArrM (σ := σ) hi (sz := i.size) (need := new.length) (E := new) (e := e) rfl (grownCap_ge w new.length 0 e) k2' (rest := (Builtin.zeroCells z.cells (grownCap w new.length 0 e - new.length)).toList) (c := vs.toArray ++ Builtin.zeroCells z.cells (grownCap w new.length 0 e - new.length)) (by simp) (by
                  have := grownCap_ge w new.length 0 e
                  simp only [Array.size_append, List.size_toArray, size_zeroCells, hzs, k5, ← Nat.add_mul]
                  exact Nat.mul_le_mul_right _ (by omega)) (w1 := w.drew) rfl rfl rfl rfl
                simpa using this
              · have hlt : es.length < es.length + new.length := by omega
                have hfit : Builtin.nextslicecap (es.length + new.length) es.length * i.bytes ≤ 281474976710656 := growslice_fits hlt (by have := Nat.mul_le_mul hmax hby; omega)
                have hrun := run_append_grow (P := P) w t o.type e i z ht hi1 hz ad1 es.length es.length olds mol mcell ad new.length xcap vs k5 k3 hlt (by omega) hfit
                refine OpWp.value (exec_append ho hc hargs hts (by rw [hv1, hv]; exact hrun)) ?_
                exact newArrM (σ := σ) hi (sz := i.size) (need := es.length + new.length) (E := es ++ new) (e := e) (by simp) (grownCap_ge w (es.length + new.length) es.length e) (by rw [List.flatten_append]; exact m3.append k2')
                  (rest := (Builtin.zeroCells z.cells (grownCap w (es.length + new.length) es.length e - (es.length + new.length))).toList) (by simp) (by
                    have := grownCap_ge w (es.length + new.length) es.length e
                    simp only [Array.size_append, List.size_toArray, size_zeroCells, hzs, k5, mol, ← Nat.add_mul]
                    exact Nat.mul_le_mul_right _ (by omega)) (w1 := w.drew) rfl rfl rfl rfl
          · cases hs
      · cases hs
  · cases hs
set_option maxHeartbeats 1000000 in
theorem appX_sound (hi : Inv V L σ w) (he : EnvRel V w env a.tmps) {c : Call} {s x : Operand} {p q : Opd} {t e : TypeId} {i : TypeInfo} {z : Value} {σ' : Sto} (ho : o.op = .call c) (hc : c.callee = .builtin .append)
    (hargs : c.args = #[s, x]) (hts : c.argTypes = #[t, t]) (ht : P.underlying t = some (.slice e)) (hi1 : P.info? e = some i) (hby : i.bytes ≤ 1024) (hz : i.zero = some z) (hzs : z.cells.size = i.size)
    (hp : opd s = some p) (hq : opd x = some q) (hs : appXSem i.size σ [p.val env, q.val env] = some (d, σ')) : OpWp P o a w (Res V w L σ' d) := by
  unfold appXSem at hs
  split at hs
  case h_2 => exact appM_sound hi he ho hc hargs hts ht hi1 hby hz hzs hp hq hs
  rename_i sz' id off len cap x' e0
  have h1 := opd_rel (a := a) he hp
  have h2 := opd_rel (a := a) he hq
  simp only [List.cons.injEq, and_true] at e0
  obtain ⟨e1, e2⟩ := e0
  rw [e1] at h1
  rw [e2] at h2
  split at hs
  · rename_i new cs hel hcs
    split at hs
    · rename_i hcond
      obtain ⟨rfl, rfl, hidσ, hxsz, hemp, hlen, hmax⟩ := hcond
      simp only [Option.some.injEq, Prod.mk.injEq] at hs
      obtain ⟨rfl, rfl⟩ := hs
      simp only [maxAppend] at hmax
      simp only [VRel] at h1
      obtain ⟨-, hid, cap', hv1, hcap, -, cur, el, hheap, hroom⟩ := h1
      have hx := elemsOf_rel (sz := i.size) h2 hel (fun pt own sz' es e => by rw [e] at hxsz; simpa [DVal.szOk] using hxsz)
      have hnu : σ.obj id ≠ .undef := by rw [hcs]; simp
      obtain ⟨htag, hobj⟩ := hi.obj id hid
      have htag := htag hnu
      rw [hcs] at hobj
      obtain ⟨cur', el', us, rest, g1, g2, g3⟩ := hobj
      rw [hheap] at g1
      simp only [Option.some.injEq, Obj.cells.injEq] at g1
      obtain ⟨rfl, rfl, -⟩ := g1
      have hul : us.length = len * i.size := by rw [g3.length, hlen]
      have hcl : cur.size = us.length + rest.length := by rw [← Array.length_toList, g2, List.length_append]
      have mcell : ∀ j u, us[j]? = some u → w.cell? ((⟨V.phi id, 0, none⟩ : Addr).add j) = some u := fun j u hu => by
        rw [add_mk, Nat.zero_add, cell_of_row w _ _ cur el (0, 0) hheap, ← Array.getElem?_toList, g2, List.getElem?_append_left (List.getElem?_eq_some_iff.1 hu).1]
        exact hu
      have hpos : 0 < new.length := by
        rcases Nat.eq_zero_or_pos new.length with e0 | e0
        · rw [List.length_eq_zero_iff.1 e0] at hemp; cases hemp
        · exact e0
      rcases hx with ⟨-, rfl⟩ | ⟨ad, xcap, vs, hv, k1, k2, k3, k4, k5⟩
      · simp at hpos
      · have k2' : VRels V w 1 new.flatten vs := VRels.lower (by simp [emode]) k2
        have hk := hi.kill id (by rw [hcs]; simp)
        by_cases hlt : cap' < len + new.length
        · -- a new array
          have hfit : Builtin.nextslicecap (len + new.length) cap' * i.bytes ≤ 281474976710656 := growslice_fits hlt (by have := Nat.mul_le_mul hmax hby; omega)
          have hrun := run_append_grow (P := P) w t o.type e i z ht hi1 hz ⟨V.phi id, 0, none⟩ len cap' us hul mcell ad new.length xcap vs k5 k3 hlt (by omega) hfit
          refine OpWp.value (exec_append ho hc hargs hts (by rw [hv1, hv]; exact hrun)) ?_
          have hge := grownCap_ge w (len + new.length) cap' e
          have hsize : (us.toArray ++ vs.toArray ++ Builtin.zeroCells z.cells (grownCap w (len + new.length) cap' e - (len + new.length))).size = grownCap w (len + new.length) cap' e * i.size := by
            simp only [Array.size_append, List.size_toArray, size_zeroCells, hzs, k5, hul, ← Nat.add_mul]
            congr 1
            omega
          obtain ⟨ha1, hk1⟩ := hk.drew (w' := w.drew) rfl rfl rfl rfl
          obtain ⟨V', ha2, hi2, n1, n2⟩ := hk1.newObj (.cells (us.toArray ++ vs.toArray ++ Builtin.zeroCells z.cells (grownCap w (len + new.length) cap' e - (len + new.length))) e) (.agg (cs ++ new.flatten))
            (fun V' w' hadv hh => ⟨_, e, us ++ vs, (Builtin.zeroCells z.cells (grownCap w (len + new.length) cap' e - (len + new.length))).toList, hh, by simp, ((g3.append k2').adv ha1).adv hadv⟩)
          have n2' : V'.phi σ.nobj = w.heap.size := n2
          have n1' : V'.nobj = σ.nobj + 1 := n1
          refine ⟨V', ha1.trans ha2, hi2, ?_⟩
          simp only [VRel]
          exact ⟨by omega, by omega, _, by rw [n2'], hge, (fun k hk => by cases hk), _, e, by rw [n2']; exact heap_alloc_new w.drew _, by rw [hsize]; omega⟩
        · -- in place
          have hroom2 : len + new.length ≤ cap' := by omega
          have hroom3 : (len + new.length) * i.size ≤ cap' * i.size := Nat.mul_le_mul_right _ hroom2
          rw [Nat.add_mul] at hroom3
          have hrun := run_append_room' (P := P) (w := w) t o.type e el i ht hi1 (V.phi id) len cap' cur hheap ad new.length xcap vs k5 k3 k4 hroom2 (by omega)
          refine OpWp.value (exec_append ho hc hargs hts (by rw [hv1, hv]; exact hrun)) ?_
          have hheap' := setRow_heap w (V.phi id) cur (cur.toList.take (len * i.size) ++ vs ++ cur.toList.drop (len * i.size + vs.length)).toArray el (0, 0) hheap
          have htake : cur.toList.take (len * i.size) = us := by rw [g2, ← hul, List.take_left]
          have hsz' : (cur.toList.take (len * i.size) ++ vs ++ cur.toList.drop (len * i.size + vs.length)).toArray.size = cur.size := by
            simp only [List.size_toArray, List.length_append, List.length_take, List.length_drop, Array.length_toList]
            omega
          have hsame : SameSz w (w.setRow (V.phi id) (cur.toList.take (len * i.size) ++ vs ++ cur.toList.drop (len * i.size + vs.length)).toArray) (V.phi id) := SameSz.setRow fun cur2 el2 hc2 => by
            rw [hheap] at hc2
            simp only [Option.some.injEq, Obj.cells.injEq] at hc2
            obtain ⟨rfl, -⟩ := hc2
            exact hsz'
          obtain ⟨V', ha, hinv, n1, n2⟩ := hk.adopt (d := .agg (cs ++ new.flatten)) hid htag (by simp [upd]) (Upd1.setRow w (V.phi id) _) hsame
            (fun V' hadv => ⟨_, el, us ++ vs, cur.toList.drop (len * i.size + vs.length), hheap', by rw [htake], (g3.append k2').adv hadv⟩) (fun ms c e => by rw [hheap] at e; cases e)
          have n2' : V'.phi σ.nobj = V.phi id := n2
          have n1' : V'.nobj = σ.nobj + 1 := n1
          refine ⟨V', ha, hinv, ?_⟩
          simp only [VRel]
          exact ⟨by omega, by omega, cap', by rw [n2'], hroom2, (fun k hk => by cases hk), _, el, by rw [n2']; exact hheap', by rw [hsz']; omega⟩
    · cases hs
  · cases hs
end
end Go.Proofs.YtklepphkbbjbjaaDoor
namespace Go.Proofs.YtklepphkbbjbjaaDoor
set_option linter.unusedVariables false
set_option linter.unusedSimpArgs false
open Go
theorem plainCell_rel {V V' : Vw} {w w' : World} {m m' : Nat} {d : DVal} {v : Value} (hd : d.plainCell = true) (h : VRel V w m d v) : VRel V' w' m' d v := by
  cases d <;> simp only [DVal.plainCell, Bool.false_eq_true] at hd <;> simpa only [VRel] using h
theorem plainCells_rel {V V' : Vw} {w w' : World} {m m' : Nat} : ∀ {ds : List DVal} {vs : List Value}, ds.all DVal.plainCell = true → VRels V w m ds vs → VRels V' w' m' ds vs
  | [], _, _, h => by simpa only [VRels] using h
  | d :: ds, _, hd, h => by
    simp only [List.all_cons, Bool.and_eq_true] at hd
    simp only [VRels] at h ⊢
    obtain ⟨v, us, rfl, h1, h2⟩ := h
    exact ⟨v, us, rfl, plainCell_rel hd.1 h1, plainCells_rel hd.2 h2⟩
theorem plain_rel {V V' : Vw} {w w' : World} {m m' : Nat} {d : DVal} {v : Value} (hd : d.plain = true) (h : VRel V w m d v) : VRel V' w' m' d v := by
  cases d with
  | agg cs =>
    simp only [VRel] at h ⊢
    obtain ⟨vs, rfl, h1⟩ := h
    exact ⟨vs, rfl, plainCells_rel hd h1⟩
  | _ => exact plainCell_rel hd h
theorem plains_rel {V V' : Vw} {w w' : World} {m m' : Nat} : ∀ {ds : List DVal} {vs : List Value}, ds.all DVal.plain = true → VRels V w m ds vs → VRels V' w' m' ds vs
  | [], _, _, h => by simpa only [VRels] using h
  | d :: ds, _, hd, h => by
    simp only [List.all_cons, Bool.and_eq_true] at hd
    simp only [VRels] at h ⊢
    obtain ⟨v, us, rfl, h1, h2⟩ := h
    exact ⟨v, us, rfl, plain_rel hd.1 h1, plains_rel hd.2 h2⟩
theorem plainRes_rel {V V' : Vw} {w w' : World} {m m' : Nat} {d : DVal} {v : Value} (hd : d.plainRes = true) (h : VRel V w m d v) : VRel V' w' m' d v := by
  cases d with
  | tup cs =>
    simp only [VRel] at h ⊢
    obtain ⟨vs, rfl, h1⟩ := h
    exact ⟨vs, rfl, plains_rel hd h1⟩
  | nils => simpa only [VRel] using h
  | slice pt own sz es =>
    cases pt <;> cases es <;> simp only [DVal.plainRes, DVal.plain, DVal.plainCell, Bool.false_eq_true, Nat.ble_eq] at hd
    simp only [VRel] at h ⊢
    obtain ⟨-, b, off, cap, rfl, h1, h2, -⟩ := h
    exact ⟨.inr ⟨trivial, hd⟩, b, off, cap, rfl, h1, h2.closed hd, by simp only [RowsRel]⟩
  | _ => exact plain_rel hd h
theorem rowPlain_rel {V V' : Vw} {w : World} {m m' b : Nat} (hI : ∀ n, V.imm b n → V'.imm b n) : ∀ {cs : List DVal} {off : Nat}, cs.all DVal.plainCell = true → RowRel V w m b off cs → RowRel V' w m' b off cs
  | [], _, _, _ => by simp only [RowRel]
  | c :: cs, off, hp, h => by
    simp only [List.all_cons, Bool.and_eq_true] at hp
    simp only [RowRel] at h ⊢
    obtain ⟨h1, ⟨v, h2, h0, h3⟩, h4⟩ := h
    exact ⟨hI _ h1, ⟨v, h2, h0, plainCell_rel hp.1 h3⟩, rowPlain_rel hI hp.2 h4⟩
theorem rowsPlain_rel {V V' : Vw} {w : World} {m m' b sz : Nat} (hI : ∀ n, V.imm b n → V'.imm b n) : ∀ {es : List (List DVal)} {off : Nat}, es.all (fun e => e.all DVal.plainCell) = true → RowsRel V w m b sz off es → RowsRel V' w m' b sz off es
  | [], _, _, _ => by simp only [RowsRel]
  | e :: es, off, hp, h => by
    simp only [List.all_cons, Bool.and_eq_true] at hp
    simp only [RowsRel] at h ⊢
    obtain ⟨h1, h2, h3⟩ := h
    exact ⟨h1, rowPlain_rel hI hp.1 h2, rowsPlain_rel hI hp.2 h3⟩
section
variable {P : Program} {V : Vw} {w : World}
theorem cellEq_vals {k : CK} {x y : DVal} {v u : Value} {m m' : Nat} (h : cellEq k x y = some true) (hx : VRel V w m x v) (hy : VRel V w m' y u) : v = u := by
  cases k <;> cases x <;> cases y <;> simp only [cellEq, reduceCtorEq] at h <;> simp only [VRel] at hx hy
  · simp only [Option.some.injEq, beq_iff_eq] at h; rw [hx, hy, h]
  · split at h
    · rename_i hq
      obtain ⟨rfl, rfl⟩ := hq
      simp only [Option.some.injEq, beq_iff_eq] at h
      rw [hx, hy, h]
    · cases h
  · simp only [Option.some.injEq, beq_iff_eq] at h; rw [hx, hy, h]
theorem cellsEq_vals {m m' : Nat} : ∀ {ks : List CK} {X Y : List DVal} {vs us : List Value}, cellsEq ks X Y = some true → VRels V w m X vs → VRels V w m' Y us → vs = us
  | [], [], [], _, _, _, hx, hy => by simp only [VRels] at hx hy; rw [hx, hy]
  | k :: ks, x :: xs, y :: ys, _, _, h, hx, hy => by
    simp only [cellsEq] at h
    split at h
    · rename_i b c h1 h2
      simp only [Option.some.injEq, Bool.and_eq_true] at h
      obtain ⟨rfl, rfl⟩ := h
      simp only [VRels] at hx hy
      obtain ⟨v, us, rfl, a1, a2⟩ := hx
      obtain ⟨v', us', rfl, b1, b2⟩ := hy
      rw [cellEq_vals h1 a1 b1, cellsEq_vals h2 a2 b2]
    · cases h
  | [], [], _ :: _, _, _, h, _, _ => by simp [cellsEq] at h
  | [], _ :: _, _, _, _, h, _, _ => by simp [cellsEq] at h
  | _ :: _, [], _, _, _, h, _, _ => by simp [cellsEq] at h
  | _ :: _, _ :: _, [], _, _, h, _, _ => by simp [cellsEq] at h
theorem aggB_true {t : TypeId} {l : List Value} (h : aggB P t = true) : valT P t l = .agg l.toArray := by
  unfold aggB at h
  unfold valT
  cases hu : P.underlying t with
  | none => rw [hu] at h; simp at h
  | some d => rw [hu] at h; cases d <;> simp_all
theorem aggB_false {t : TypeId} {l : List Value} (h : aggB P t = false) : valT P t l = l.headD Go.undef := by
  unfold aggB at h
  unfold valT
  cases hu : P.underlying t with
  | none => rfl
  | some d => rw [hu] at h; cases d <;> simp_all
theorem key_val {t : TypeId} {m : Nat} {k : DVal} {v : Value} (hag : k.isAgg = aggB P t) (hp : k.plain = true) (hv : VRel V w m k v) : v = valT P t v.cells.toList := by
  cases k with
  | agg cs =>
    simp only [VRel] at hv
    obtain ⟨vs, rfl, -⟩ := hv
    rw [aggB_true hag.symm]
    rfl
  | bool b =>
    simp only [VRel] at hv
    subst hv
    rw [aggB_false hag.symm]
    rfl
  | int q n =>
    simp only [VRel] at hv
    subst hv
    rw [aggB_false hag.symm]
    rfl
  | str q =>
    simp only [VRel] at hv
    subst hv
    rw [aggB_false hag.symm]
    rfl
  | _ => simp [DVal.plain, DVal.plainCell] at hp
theorem ckFields_run {n m : Nat} {em : Bool}
    (ih : ∀ (t : TypeId) (ks : List CK), eqKinds P n t = some ks → ∀ (X : List DVal) (vs : List Value), VRels V w 0 X vs → X.length = ks.length → (Instr.checkKey em m t (valT P t vs)).run P w = .ok () w) :
    ∀ (fs : List Field) (off : Nat) (ks : List CK) (X : List DVal) (vs : List Value), Go.Proofs.YtklepphkbbjbjaaDoor.eqFields P (eqKinds P n) off fs = some ks → VRels V w 0 X (vs.drop off) → X.length = ks.length →
    (forIn fs PUnit.unit fun f _ => do
      if f.name ≠ "_" then do
        let x ← part f.type vs.toArray f.offset
        Instr.checkKey em m f.type x
        pure (ForInStep.yield PUnit.unit)
      else pure (ForInStep.yield PUnit.unit) : Sem PUnit).run P w = .ok () w
  | [], off, ks, X, vs, hk, hX, hl => by simp
  | f :: fs, off, ks, X, vs, hk, hX, hl => by
    simp only [Go.Proofs.YtklepphkbbjbjaaDoor.eqFields] at hk
    split at hk
    · rename_i hc
      simp only [Bool.and_eq_true, decide_eq_true_eq] at hc
      obtain ⟨⟨⟨hn, ho⟩, hs⟩, hpos⟩ := hc
      split at hk
      · rename_i k1 k2 h1 h2
        simp only [Option.some.injEq] at hk
        subst hk
        rw [h1] at hs hpos h2
        simp only [Option.getD_some] at hs hpos h2
        have lX := hX.length
        simp only [List.length_append, List.length_drop] at hl lX
        have p1 := part_run (P := P) (w := w) (t := f.type) (off := off) (cs := vs) hs (eqKinds_info h1) (by omega) (eqKinds_one h1)
        have e1 := ih f.type k1 h1 _ _ (hX.take k1.length) (by rw [List.length_take]; omega)
        have hX2 := hX.drop k1.length
        rw [List.drop_drop] at hX2
        have e2 := ckFields_run ih fs (off + k1.length) k2 _ vs h2 hX2 (by rw [List.length_drop]; omega)
        subst ho
        simp only [List.forIn_cons, Sem.run_bind, hn, ne_eq, not_false_eq_true, if_true, Result.andThen_ok, p1, e1, Sem.run_pure]
        exact e2
      · cases hk
    · cases hk
theorem ckItems_run {m : Nat} {em : Bool} {e : TypeId} {ks : List CK} (hs : szOf P e = some ks.length) (hu : (P.underlying e).isSome) (h1 : aggSz P e = some none → ks.length = 1)
    (ih : ∀ (X : List DVal) (vs : List Value), VRels V w 0 X vs → X.length = ks.length → (Instr.checkKey em m e (valT P e vs)).run P w = .ok () w) :
    ∀ (len i : Nat) (X : List DVal) (vs : List Value), VRels V w 0 X (vs.drop (i * ks.length)) → X.length = len * ks.length →
    (forIn (List.range' i len) PUnit.unit fun i _ => do
      let n ← sizeOf e
      let x ← part e vs.toArray (i * n)
      Instr.checkKey em m e x
      pure (ForInStep.yield PUnit.unit) : Sem PUnit).run P w = .ok () w
  | 0, i, X, vs, hX, hl => by simp
  | len + 1, i, X, vs, hX, hl => by
    have lX := hX.length
    simp only [List.length_drop, Nat.add_mul, Nat.one_mul] at hl lX
    have p1 := part_run (P := P) (w := w) (t := e) (off := i * ks.length) (cs := vs) hs hu (by
      rcases Nat.eq_zero_or_pos ks.length with e0 | e0
      · rw [e0]; simp
      · omega) h1
    have e1 := ih _ _ (hX.take ks.length) (by rw [List.length_take]; omega)
    have hX2 := hX.drop ks.length
    rw [List.drop_drop] at hX2
    have e2 := ckItems_run hs hu h1 ih len (i + 1) _ vs (by rw [Nat.add_mul, Nat.one_mul]; exact hX2) (by rw [List.length_drop]; omega)
    rw [List.range'_succ]
    simp only [List.forIn_cons, Sem.run_bind, run_sizeOf hs, Result.andThen_ok, p1, e1, Sem.run_pure]
    exact e2
theorem rep_len (n : Nat) (ks : List CK) : (List.replicate n ks).flatten.length = n * ks.length := by
  induction n with
  | zero => simp
  | succ n ih => rw [List.replicate_succ, List.flatten_cons, List.length_append, ih, Nat.add_mul, Nat.one_mul, Nat.add_comm]
theorem ck_run {em : Bool} : ∀ (n : Nat) (t : TypeId) (ks : List CK), eqKinds P n t = some ks → ∀ (m : Nat), n ≤ m → ∀ (X : List DVal) (vs : List Value), VRels V w 0 X vs → X.length = ks.length → (Instr.checkKey em m t (valT P t vs)).run P w = .ok () w := by
  intro n
  induction n with
  | zero => intro t ks h; simp [eqKinds] at h
  | succ n ih =>
    intro t ks hk m hm X vs hX hl
    obtain ⟨m, rfl⟩ : ∃ m', m = m' + 1 := ⟨m - 1, by omega⟩
    unfold eqKinds at hk
    split at hk
    · rename_i hu
      simp [Instr.checkKey, run_underlying hu]
    · rename_i k hu
      simp [Instr.checkKey, run_underlying hu]
    · rename_i hu
      simp [Instr.checkKey, run_underlying hu]
    · rename_i len e hu
      split at hk
      · rename_i hs
        simp only [Option.map_eq_some_iff] at hk
        obtain ⟨k1, hk1, rfl⟩ := hk
        rw [hk1] at hs
        simp only [Option.getD_some] at hs
        have := ckItems_run (P := P) (V := V) (w := w) (m := m) (em := em) hs (eqKinds_info hk1) (eqKinds_one hk1) (fun X vs hX hh => ih e k1 hk1 m (by omega) X vs hX hh) len 0 X vs (by simpa using hX) (by rw [hl, rep_len])
        simp only [valT, hu]
        rw [Instr.checkKey]
        simp only [Sem.run_bind, run_underlying hu, Result.andThen_ok, Std.Legacy.Range.forIn_eq_forIn_range', Std.Legacy.Range.size, Nat.sub_zero, Nat.add_one_sub_one, Nat.div_one]
        rw [this]
        rfl
      · cases hk
    · rename_i fs hu
      split at hk
      · cases hk
      · have := ckFields_run (P := P) (V := V) (w := w) (n := n) (m := m) (em := em) (fun t ks h1 X vs hX hh => ih t ks h1 m (by omega) X vs hX hh) fs.toList 0 ks X vs hk (by simpa using hX) hl
        simp only [valT, hu]
        rw [Instr.checkKey]
        simp only [Sem.run_bind, run_underlying hu, Result.andThen_ok]
        rw [← Array.forIn_toList]
        rw [this]
        rfl
    · cases hk
theorem ask_now {t : TypeId} {d : TypeDesc} (hd : P.underlying t = some d) {v : Value} : ∀ {ms : List MapEntry} {i : Nat} {r : Option (Nat × Value)}, Instr.findNow d v ms i = some r → (Instr.findAsking t v ms i).run P w = .ok r w
  | [], i, r, h => by
    simp only [Instr.findNow, Option.some.injEq] at h
    subst h
    simp [Instr.findAsking]
  | e :: ms, i, r, h => by
    have key : ∀ b, Instr.sameNow d v e.key = some b → (Op.equal t v e.key).run P w = .ok b w := by
      intro b hb
      suffices hn : ∀ n, (Op.equalIn (n + 1) t v e.key).run P w = .ok b w from hn 9999
      intro n
      generalize e.key = u at hb
      unfold Instr.sameNow at hb
      split at hb
      · split at hb
        · rename_i hk
          simp only [Option.some.injEq] at hb
          subst hk hb
          simp [Op.equalIn, run_underlying hd]
        · cases hb
      · simp only [Option.some.injEq] at hb
        subst hb
        simp [Op.equalIn, run_underlying hd]
      · simp only [Option.some.injEq] at hb
        subst hb
        simp [Op.equalIn, run_underlying hd]
      · cases hb
    simp only [Instr.findNow] at h
    split at h
    · rename_i hb
      simp only [Option.some.injEq] at h
      subst h
      simp [Instr.findAsking, key _ hb]
    · rename_i hb
      simp [Instr.findAsking, key _ hb, ask_now hd h]
    · cases h
theorem findKey_ask {t : TypeId} {d : TypeDesc} (hd : P.underlying t = some d) {v : Value} {ms : List MapEntry} {r : Option (Nat × Value)} (h : (Instr.findAsking t v ms 0).run P w = .ok r w) : (Instr.findKey t v ms).run P w = .ok r w := by
  unfold Instr.findKey
  simp only [Sem.run_bind, run_underlying hd, Result.andThen_ok]
  split
  · rename_i r' hr
    have := ask_now (P := P) (w := w) hd hr
    rw [h] at this
    simp only [Result.ok.injEq, and_true] at this
    subst this
    simp
  · exact h
def FRel (V : Vw) (w : World) (v : Value) (i : Nat) (es : List DVal) (ms : List MapEntry) (r : Option (Nat × DVal)) (r' : Option (Nat × Value)) : Prop :=
  (r = none ∧ r' = none) ∨ ∃ j q d m, r = some (i + j, d) ∧ r' = some (i + j, m.val) ∧ VRel V w 1 d m.val ∧ ms[j]? = some m ∧ es[j]? = some (.tup [q, d]) ∧ m.key = v
theorem findE_run {t : TypeId} {ks : List CK} (hk : eqKinds P 100 t = some ks) {k : DVal} {v : Value} (hkv : VRel V w 0 k v) (hko : keyOk (aggB P t) ks k = true) : ∀ {es : List DVal} {ms : List MapEntry} {i : Nat} {r : Option (Nat × DVal)}, ERels V w es ms → findE (aggB P t) ks k es i = some r →
    ∃ r', (Instr.findAsking t v ms i).run P w = .ok r' w ∧ FRel V w v i es ms r r'
  | [], ms, i, r, hE, h => by
    simp only [ERels] at hE
    simp only [findE, Option.some.injEq] at h
    subst hE h
    exact ⟨none, by simp [Instr.findAsking], .inl ⟨rfl, rfl⟩⟩
  | .tup [q, d] :: es, ms, i, r, hE, h => by
    simp only [ERels] at hE
    obtain ⟨m, ns, rfl, hp, h1, h2, h3⟩ := hE
    simp only [findE] at h
    simp only [keyOk, Bool.and_eq_true, beq_iff_eq] at hko
    obtain ⟨ka, kp, -⟩ := id hko
    have e1 := key_val ka kp hkv
    split at h
    · rename_i hq
      have hq' : q.isAgg = aggB P t := by simpa using hq
      have e2 := key_val hq' hp h1
      have c1 := hkv.cells
      have c2 := (plain_rel (m' := 0) (V' := V) (w' := w) hp h1).cells
      have heq : ∀ b, cellsEq ks k.cells q.cells = some b → (Op.equal t v m.key).run P w = .ok b w := fun b hb => by
        have := eq_run (P := P) (V := V) (w := w) 100 t ks hk 10000 (by omega) _ _ _ _ b c1 c2 hb
        rw [← e1, ← e2] at this
        exact this
      split at h
      · rename_i hb
        simp only [Option.some.injEq] at h
        subst h
        have hkey : m.key = v := by rw [e1, e2, cellsEq_vals hb c1 c2]
        exact ⟨some (i, m.val), by simp [Instr.findAsking, heq _ hb], .inr ⟨0, q, d, m, rfl, rfl, h2, rfl, rfl, hkey⟩⟩
      · rename_i hb
        obtain ⟨r', g1, g2⟩ := findE_run hk hkv (by simp only [keyOk, Bool.and_eq_true, beq_iff_eq]; exact hko) h3 h
        refine ⟨r', by simp [Instr.findAsking, heq _ hb, g1], ?_⟩
        rcases g2 with ⟨rfl, rfl⟩ | ⟨j, q', d', m', rfl, rfl, a1, a2, a3, a4⟩
        · exact .inl ⟨rfl, rfl⟩
        · exact .inr ⟨j + 1, q', d', m', by rw [show i + (j + 1) = i + 1 + j by omega], by rw [show i + (j + 1) = i + 1 + j by omega], a1, by simpa using a2, by simpa using a3, a4⟩
      · cases h
    · cases h
theorem ERels.set : ∀ {es : List DVal} {ms : List MapEntry} {i : Nat} {k v : DVal} {f : MapEntry → MapEntry}, ERels V w es ms → (∀ m, ms[i]? = some m → k.plain = true ∧ VRel V w 2 k (f m).key ∧ VRel V w 1 v (f m).val) → ERels V w (es.set i (.tup [k, v])) (ms.modify i f)
  | [], ms, i, k, v, f, h, _ => by
    simp only [ERels] at h
    subst h
    simp [ERels]
  | .tup [q, d] :: es, ms, 0, k, v, f, h, hf => by
    simp only [ERels] at h
    obtain ⟨m, ns, rfl, h0, h1, h2, h3⟩ := h
    obtain ⟨a1, a2, a3⟩ := hf m rfl
    simp only [List.set_cons_zero, List.modify_zero_cons, ERels]
    exact ⟨_, _, rfl, a1, a2, a3, h3⟩
  | .tup [q, d] :: es, ms, i + 1, k, v, f, h, hf => by
    simp only [ERels] at h
    obtain ⟨m, ns, rfl, h0, h1, h2, h3⟩ := h
    simp only [List.set_cons_succ, List.modify_succ_cons, ERels]
    exact ⟨_, _, rfl, h0, h1, h2, h3.set fun m hm => hf m (by simpa using hm)⟩
theorem ERels.push : ∀ {es : List DVal} {ms : List MapEntry} {k v : DVal} {m : MapEntry}, ERels V w es ms → k.plain = true → VRel V w 2 k m.key → VRel V w 1 v m.val → ERels V w (es ++ [.tup [k, v]]) (ms ++ [m])
  | [], ms, k, v, m, h, h0, h1, h2 => by
    simp only [ERels] at h
    subst h
    simp only [List.nil_append, ERels]
    exact ⟨m, [], rfl, h0, h1, h2, rfl⟩
  | .tup [q, d] :: es, ms, k, v, m, h, h0, h1, h2 => by
    simp only [ERels] at h
    obtain ⟨m', ns, rfl, g0, g1, g2, g3⟩ := h
    simp only [List.cons_append, ERels]
    exact ⟨_, _, rfl, g0, g1, g2, g3.push h0 h1 h2⟩
theorem ERels.erase : ∀ {es : List DVal} {ms : List MapEntry} {i : Nat}, ERels V w es ms → ERels V w (es.eraseIdx i) (ms.eraseIdx i)
  | [], ms, i, h => by
    simp only [ERels] at h
    subst h
    simp [ERels]
  | .tup [q, d] :: es, ms, 0, h => by
    simp only [ERels] at h
    obtain ⟨m, ns, rfl, h0, h1, h2, h3⟩ := h
    simpa using h3
  | .tup [q, d] :: es, ms, i + 1, h => by
    simp only [ERels] at h
    obtain ⟨m, ns, rfl, h0, h1, h2, h3⟩ := h
    simp only [List.eraseIdx_cons_succ, ERels]
    exact ⟨_, _, rfl, h0, h1, h2, h3.erase⟩
theorem ERels.length : ∀ {es : List DVal} {ms : List MapEntry}, ERels V w es ms → ms.length = es.length
  | [], ms, h => by simp only [ERels] at h; rw [h]; rfl
  | .tup [q, d] :: es, ms, h => by
    simp only [ERels] at h
    obtain ⟨m, ns, rfl, -, -, -, h3⟩ := h
    simp [h3.length]
theorem cellEq_ne {k : CK} {x y : DVal} {v u : Value} {m m' : Nat} (h : cellEq k x y = some false) (hx : VRel V w m x v) (hy : VRel V w m' y u) : v ≠ u := by
  cases k <;> cases x <;> cases y <;> simp only [cellEq, reduceCtorEq] at h <;> simp only [VRel] at hx hy <;> subst hx hy <;> intro e
  · simp only [Value.bool.injEq] at e; subst e; simp at h
  · split at h
    · simp only [Value.int.injEq] at e
      obtain ⟨-, rfl⟩ := e
      simp at h
    · cases h
  · simp only [Value.string.injEq, ByteArray.mk.injEq] at e
    have := congrArg Array.toList e
    simp only at this
    subst this
    simp at h
theorem cellsEq_ne {m m' : Nat} : ∀ {ks : List CK} {X Y : List DVal} {vs us : List Value}, cellsEq ks X Y = some false → VRels V w m X vs → VRels V w m' Y us → vs ≠ us
  | [], [], [], _, _, h, hx, hy => by simp [cellsEq] at h
  | k :: ks, x :: xs, y :: ys, _, _, h, hx, hy => by
    simp only [cellsEq] at h
    split at h
    · rename_i b c h1 h2
      simp only [Option.some.injEq, Bool.and_eq_false_iff] at h
      simp only [VRels] at hx hy
      obtain ⟨v, us, rfl, a1, a2⟩ := hx
      obtain ⟨v', us', rfl, b1, b2⟩ := hy
      intro e
      simp only [List.cons.injEq] at e
      rcases h with rfl | rfl
      · exact cellEq_ne h1 a1 b1 e.1
      · exact cellsEq_ne h2 a2 b2 e.2
    · cases h
  | [], [], _ :: _, _, _, h, _, _ => by simp [cellsEq] at h
  | [], _ :: _, _, _, _, h, _, _ => by simp [cellsEq] at h
  | _ :: _, [], _, _, _, h, _, _ => by simp [cellsEq] at h
  | _ :: _, _ :: _, [], _, _, h, _, _ => by simp [cellsEq] at h
theorem cellEq_some {k : CK} {x y : DVal} (hx : (cellEq k x x).isSome = true) (hy : (cellEq k y y).isSome = true) : (cellEq k x y).isSome = true := by
  cases k <;> cases x <;> simp only [cellEq, Option.isSome_none, Bool.false_eq_true] at hx <;> cases y <;> simp only [cellEq, Option.isSome_none, Bool.false_eq_true] at hy <;> simp only [cellEq, Option.isSome_some]
  rename_i q k1 a k2 b
  by_cases h1 : k1 = q
  · by_cases h2 : k2 = q
    · simp [h1, h2]
    · simp [h2] at hy
  · simp [h1] at hx
theorem cellsEq_some : ∀ {ks : List CK} {X Y : List DVal}, (cellsEq ks X X).isSome = true → (cellsEq ks Y Y).isSome = true → (cellsEq ks X Y).isSome = true
  | [], [], [], _, _ => rfl
  | k :: ks, x :: xs, y :: ys, hx, hy => by
    simp only [cellsEq] at hx hy ⊢
    have h1 : (cellEq k x x).isSome = true ∧ (cellsEq ks xs xs).isSome = true := by
      revert hx
      cases cellEq k x x <;> cases cellsEq ks xs xs <;> simp
    have h2 : (cellEq k y y).isSome = true ∧ (cellsEq ks ys ys).isSome = true := by
      revert hy
      cases cellEq k y y <;> cases cellsEq ks ys ys <;> simp
    obtain ⟨b, hb⟩ := Option.isSome_iff_exists.1 (cellEq_some h1.1 h2.1)
    obtain ⟨c, hc⟩ := Option.isSome_iff_exists.1 (cellsEq_some h1.2 h2.2)
    rw [hb, hc]
    rfl
  | [], [], _ :: _, _, h => by simp [cellsEq] at h
  | [], _ :: _, _, h, _ => by simp [cellsEq] at h
  | _ :: _, [], _, h, _ => by simp [cellsEq] at h
  | _ :: _, _ :: _, [], _, h => by simp [cellsEq] at h
theorem findE_def {ag : Bool} {ks : List CK} {k : DVal} (hk : keyOk ag ks k = true) : ∀ {es : List DVal} {i : Nat}, es.all (entOk ag ks) = true → ∃ r, findE ag ks k es i = some r
  | [], i, _ => ⟨none, rfl⟩
  | e :: es, i, h => by
    simp only [List.all_cons, Bool.and_eq_true] at h
    obtain ⟨h1, h2⟩ := h
    unfold entOk at h1
    split at h1
    · rename_i q d
      simp only [keyOk, Bool.and_eq_true] at h1 hk
      obtain ⟨b, hb⟩ := Option.isSome_iff_exists.1 (cellsEq_some hk.2.2 h1.2.2)
      simp only [findE, h1.1, if_true, hb]
      cases b with
      | true => exact ⟨_, rfl⟩
      | false => exact findE_def (by simp only [keyOk, Bool.and_eq_true]; exact hk) h2
    · cases h1
theorem findE_miss {ag : Bool} {ks : List CK} {k : DVal} : ∀ {es : List DVal} {i : Nat}, findE ag ks k es i = some none → ∀ q d, .tup [q, d] ∈ es → cellsEq ks k.cells q.cells = some false
  | [], i, _, q, d, h => by cases h
  | .tup [q', d'] :: es, i, h, q, d, hm => by
    simp only [findE] at h
    split at h
    · split at h
      · cases h
      · rename_i hb
        rcases List.mem_cons.1 hm with e | hm
        · simp only [DVal.tup.injEq, List.cons.injEq, and_true] at e
          obtain ⟨rfl, rfl⟩ := e
          exact hb
        · exact findE_miss h q d hm
      · cases h
    · cases h
theorem findE_hit {ag : Bool} {ks : List CK} {k : DVal} : ∀ {es : List DVal} {i j : Nat} {d : DVal}, findE ag ks k es i = some (some (j, d)) → ∃ n q, j = i + n ∧ es[n]? = some (.tup [q, d]) ∧ cellsEq ks k.cells q.cells = some true
  | [], i, j, d, h => by simp [findE] at h
  | .tup [q', d'] :: es, i, j, d, h => by
    simp only [findE] at h
    split at h
    · split at h
      · rename_i hb
        simp only [Option.some.injEq, Prod.mk.injEq] at h
        obtain ⟨rfl, rfl⟩ := h
        exact ⟨0, q', rfl, rfl, hb⟩
      · obtain ⟨n, q, h1, h2, h3⟩ := findE_hit h
        exact ⟨n + 1, q, by omega, by simpa using h2, h3⟩
      · cases h
    · cases h
theorem ERels.get {es : List DVal} {ms : List MapEntry} (h : ERels V w es ms) : ∀ {j : Nat} {e : DVal}, es[j]? = some e → ∃ q d m, e = .tup [q, d] ∧ ms[j]? = some m ∧ q.plain = true ∧ VRel V w 2 q m.key ∧ VRel V w 1 d m.val := by
  induction es generalizing ms with
  | nil => intro j e he; simp at he
  | cons e0 es ih =>
    intro j e he
    unfold ERels at h
    split at h
    · rename_i e1; cases e1
    · rename_i k v es' e1
      simp only [List.cons.injEq] at e1
      obtain ⟨rfl, rfl⟩ := e1
      obtain ⟨m, ns, rfl, h0, h1, h2, h3⟩ := h
      cases j with
      | zero =>
        simp only [List.getElem?_cons_zero, Option.some.injEq] at he
        subst he
        exact ⟨k, v, m, rfl, rfl, h0, h1, h2⟩
      | succ j => simpa using ih h3 (j := j) (by simpa using he)
    · exact h.elim
theorem get_perm {α : Type} : ∀ {l : List α} {i : Nat} {x : α}, l[i]? = some x → (x :: l.eraseIdx i).Perm l
  | [], i, x, h => by simp at h
  | a :: l, 0, x, h => by
    simp only [List.getElem?_cons_zero, Option.some.injEq] at h
    subst h
    exact .refl _
  | a :: l, i + 1, x, h => by
    have := get_perm (l := l) (i := i) (by simpa using h)
    exact (List.Perm.swap a x _).trans (this.cons a)
theorem set_perm {α : Type} (y : α) : ∀ {l : List α} {i : Nat}, i < l.length → (l.set i y).Perm (y :: l.eraseIdx i)
  | [], i, h => by simp at h
  | a :: l, 0, h => .refl _
  | a :: l, i + 1, h => by
    have := set_perm y (l := l) (i := i) (by simpa using h)
    exact (this.cons a).trans (List.Perm.swap y a _)
theorem perm_erase {α : Type} {l l' : List α} {i j : Nat} {x : α} (h : l.Perm l') (hi : l[i]? = some x) (hj : l'[j]? = some x) : (l.eraseIdx i).Perm (l'.eraseIdx j) := by
  exact (List.perm_cons x).1 ((get_perm hi).trans (h.trans (get_perm hj).symm))
theorem perm_set {α : Type} {l l' : List α} {i j : Nat} {x y : α} (h : l.Perm l') (hi : l[i]? = some x) (hj : l'[j]? = some x) : (l.set i y).Perm (l'.set j y) := by
  obtain ⟨h1, e1⟩ := List.getElem?_eq_some_iff.1 hi
  obtain ⟨h2, e2⟩ := List.getElem?_eq_some_iff.1 hj
  exact (set_perm y h1).trans (((perm_erase h hi hj).cons y).trans (set_perm y h2).symm)
theorem findK_notStr {ag : Bool} {ks : List CK} {k : DVal} {es : List DVal} {r : Option (Nat × DVal)} (h : findK ag ks k es = some r) : ∀ s l, es ≠ .str s :: l := by
  rintro s l rfl
  simp [findK, entOk] at h
theorem Upd1.setMap {b : Nat} (o : Obj) : Upd1 w { w with heap := w.heap.setIfInBounds b o } b :=
  ⟨fun k hk => by simp [Array.getElem?_setIfInBounds, Ne.symm hk], by simp, rfl, rfl, rfl⟩
theorem sameBits_cell {m n : Nat} {d : DVal} {v : Value} (hd : d.plainCell = true) (h : VRel V w m d v) : Instr.sameBits n v v = true := by
  cases d <;> simp only [DVal.plainCell, Bool.false_eq_true] at hd <;> simp only [VRel] at h <;> subst h <;> simp [Instr.sameBits, MapKept.bytes_beq]
theorem sameBits_cells {m n : Nat} : ∀ {ds : List DVal} {vs : List Value}, ds.all DVal.plainCell = true → VRels V w m ds vs → (vs.zip vs).all (fun x => Instr.sameBits n x.1 x.2) = true
  | [], _, _, h => by simp only [VRels] at h; subst h; rfl
  | d :: ds, _, hd, h => by
    simp only [List.all_cons, Bool.and_eq_true] at hd
    simp only [VRels] at h
    obtain ⟨v, us, rfl, h1, h2⟩ := h
    simp only [List.zip_cons_cons, List.all_cons, Bool.and_eq_true]
    exact ⟨sameBits_cell hd.1 h1, sameBits_cells hd.2 h2⟩
theorem sameBits_plain {m n : Nat} {d : DVal} {v : Value} (hd : d.plain = true) (h : VRel V w m d v) : Instr.sameBits (n + 1) v v = true := by
  cases d with
  | agg cs =>
    simp only [VRel] at h
    obtain ⟨vs, rfl, h1⟩ := h
    simp only [Instr.sameBits, beq_self_eq_true, Bool.true_and]
    exact sameBits_cells hd h1
  | _ => have hd' := hd; simp only [DVal.plain] at hd'; exact sameBits_cell hd' h
theorem run_keyStays {m : Nat} {d : DVal} {v : Value} (hd : d.plain = true) (h : VRel V w m d v) : (Instr.keyThatStays v v).run P w = .ok v w := by
  have : Instr.sameBits 10000 v v = true := sameBits_plain (n := 9999) hd h
  unfold Instr.keyThatStays
  rw [if_pos this]
  rfl
theorem keyKinds_inv {t k e : TypeId} {ks : List CK} (h : keyKinds P t = some (k, e, ks)) : P.underlying t = some (.map k e) ∧ eqKinds P 100 k = some ks := by
  unfold keyKinds at h
  split at h
  · rename_i k' e' hu
    simp only [Option.map_eq_some_iff, Prod.mk.injEq] at h
    obtain ⟨ks', h1, rfl, rfl, rfl⟩ := h
    exact ⟨hu, h1⟩
  · cases h
def FRel2 (V : Vw) (w : World) (v : Value) (es es' : List DVal) (ms : List MapEntry) (r : Option (Nat × DVal)) (r' : Option (Nat × Value)) : Prop :=
  (r = none ∧ r' = none ∧ ∀ m ∈ ms, m.key ≠ v) ∨ ∃ i j q d m, r = some (i, d) ∧ r' = some (j, m.val) ∧ VRel V w 1 d m.val ∧ ms[j]? = some m ∧ es[i]? = some (.tup [q, d]) ∧ es'[j]? = some (.tup [q, d]) ∧ m.key = v
theorem key_use {t : TypeId} {ks : List CK} (hk : eqKinds P 100 t = some ks) {k : DVal} {v : Value} (hkv : VRel V w 0 k v) (hko : keyOk (aggB P t) ks k = true) :
    (∀ em, (Instr.checkKey em 10000 t v).run P w = .ok () w) ∧ ∀ {es es' : List DVal} {ms : Array MapEntry} {clock : Nat} {r : Option (Nat × DVal)}, es.Perm es' → ERels V w es' ms.toList → MapKept.Stamped ms clock → findK (aggB P t) ks k es = some r →
      ∃ r', (Instr.findKey t v ms.toList).run P w = .ok r' w ∧ FRel2 V w v es es' ms.toList r r' := by
  have hko' := hko
  simp only [keyOk, Bool.and_eq_true, beq_iff_eq] at hko'
  obtain ⟨ka, kp, ke⟩ := hko'
  obtain ⟨b, hb⟩ := Option.isSome_iff_exists.1 ke
  constructor
  · intro em
    rw [key_val ka kp hkv]
    exact ck_run 100 t ks hk 10000 (by omega) _ _ hkv.cells (cellsEq_len hb).1
  · intro es es' ms clock r hp hE hst hf
    unfold findK at hf
    split at hf
    · rename_i hall
      have hall' : es'.all (entOk (aggB P t) ks) = true := by
        rw [List.all_eq_true] at hall ⊢
        exact fun e he => hall e (hp.symm.subset he)
      obtain ⟨r1, hr1⟩ := findE_def (i := 0) hko hall'
      obtain ⟨r', h1, h2⟩ := findE_run hk hkv hko hE hr1
      obtain ⟨d, hd⟩ := Option.isSome_iff_exists.1 (eqKinds_info hk)
      refine ⟨r', findKey_ask hd h1, ?_⟩
      have kv := key_val ka kp hkv
      have keyEq : ∀ {j : Nat} {q d : DVal} {m : MapEntry}, es'[j]? = some (.tup [q, d]) → ms.toList[j]? = some m → (cellsEq ks k.cells q.cells = some true → m.key = v) ∧ (cellsEq ks k.cells q.cells = some false → m.key ≠ v) := by
        intro j q d m he hm
        obtain ⟨q2, d2, m2, e, hm2, qp, qk, -⟩ := hE.get he
        simp only [DVal.tup.injEq, List.cons.injEq, and_true] at e
        obtain ⟨rfl, rfl⟩ := e
        rw [hm] at hm2
        simp only [Option.some.injEq] at hm2
        subst hm2
        have ho := List.all_eq_true.1 hall' _ (List.mem_of_getElem? he)
        simp only [entOk, keyOk, Bool.and_eq_true, beq_iff_eq] at ho
        have qv := key_val ho.1 qp qk
        have c1 := hkv.cells
        have c2 := (plain_rel (m' := 0) (V' := V) (w' := w) qp qk).cells
        refine ⟨fun hh => ?_, fun hh e => ?_⟩
        · rw [kv, qv, cellsEq_vals hh c1 c2]
        · exact cellsEq_ne hh c1 c2 (by rw [e])
      have hlen := hE.length
      rcases h2 with ⟨rfl, rfl⟩ | ⟨j, q1, d1, m1, rfl, rfl, g1, g2, g3, g4⟩
      · left
        have hmiss := findE_miss hr1
        have hr : r = none := by
          cases r with
          | none => rfl
          | some x =>
            obtain ⟨i, d'⟩ := x
            obtain ⟨n, q, -, e1, e2⟩ := findE_hit hf
            have := hmiss q d' (hp.subset (List.mem_of_getElem? e1))
            rw [e2] at this
            cases this
        refine ⟨hr, rfl, fun m hm => ?_⟩
        obtain ⟨j, hj⟩ := List.mem_iff_getElem?.1 hm
        have hjl : j < es'.length := by have := (List.getElem?_eq_some_iff.1 hj).1; omega
        obtain ⟨q2, d2, m2, e, hm2, -⟩ := hE.get (List.getElem?_eq_getElem hjl)
        have he : es'[j]? = some (.tup [q2, d2]) := by rw [List.getElem?_eq_getElem hjl, e]
        exact (keyEq he hj).2 (hmiss q2 d2 (List.mem_of_getElem? he))
      · right
        simp only [Nat.zero_add] at hr1
        cases r with
        | none =>
          exfalso
          have hmiss := findE_miss hf
          obtain ⟨n, q, e0, e1, e2⟩ := findE_hit hr1
          have := hmiss q d1 (hp.symm.subset (List.mem_of_getElem? e1))
          rw [e2] at this
          cases this
        | some x =>
          obtain ⟨i, d'⟩ := x
          obtain ⟨n, q, e0, e1, e2⟩ := findE_hit hf
          simp only [Nat.zero_add] at e0
          subst e0
          obtain ⟨j2, hj2⟩ := List.mem_iff_getElem?.1 (hp.subset (List.mem_of_getElem? e1))
          obtain ⟨q2, d2, m2, ee, hm2, -⟩ := hE.get hj2
          have hk2 := (keyEq hj2 hm2).1 e2
          have hj : j2 = j := by
            have hnd := hst.2.2
            have a1 : (ms.toList.map (·.key))[j2]? = some v := by rw [List.getElem?_map, hm2, Option.map_some, hk2]
            have a2 : (ms.toList.map (·.key))[j]? = some v := by rw [List.getElem?_map, g2, Option.map_some, g4]
            have b1 := (List.getElem?_eq_some_iff.1 a1).1
            exact (List.getElem?_inj b1 hnd).1 (by rw [a1, a2])
          subst hj
          rw [hj2] at g3
          simp only [Option.some.injEq, DVal.tup.injEq, List.cons.injEq, and_true] at g3
          obtain ⟨rfl, rfl⟩ := g3
          exact ⟨i, j2, q, d', m1, rfl, by simp, g1, g2, e1, hj2, g4⟩
    · cases hf
end
section
variable {P : Program} {V : Vw} {w : World} {L : Nat → Nat × DVal} {σ : Sto} {env : Nat → DVal} {a : Act} {d : DVal} {o : Oper}
theorem okVal_up {d : DVal} {v : Value} (h : VRel V w 0 d v) (hd : d.okVal = true) : VRel V w 1 d v := by
  cases d with
  | agg cs =>
    simp only [VRel] at h ⊢
    obtain ⟨vs, rfl, h1⟩ := h
    exact ⟨vs, rfl, okCells_up h1 hd⟩
  | _ => exact okCell_up h hd
theorem okVals_up : ∀ {ds : List DVal} {vs : List Value}, VRels V w 0 ds vs → ds.all DVal.okVal = true → VRels V w 1 ds vs
  | [], _, h, _ => by simpa only [VRels] using h
  | d :: ds, _, h, hd => by
    simp only [VRels] at h ⊢
    simp only [List.all_cons, Bool.and_eq_true] at hd
    obtain ⟨v, us, rfl, h1, h2⟩ := h
    exact ⟨v, us, rfl, okVal_up h1 hd.1, okVals_up h2 hd.2⟩
theorem mkmap_sound (hi : Inv V L σ w) {t : TypeId} {σ' : Sto} (ho : o.op = .makeMap t none) (hs : mkmapSem σ [] = some (d, σ')) : OpWp P o a w (Res V w L σ' d) := by
  simp only [mkmapSem, Option.some.injEq, Prod.mk.injEq] at hs
  obtain ⟨rfl, rfl⟩ := hs
  obtain ⟨V', ha, hinv, hno, hphi⟩ := hi.newObj (.map #[] 0) (.tup []) (fun V' w' hadv hh => ObjRel.ofMap (es' := []) hh (.refl _) (by simp [ERels]) (MapKept.stamped_empty 0))
  refine OpWp.value (v := .map (some w.heap.size)) (w' := w.alloc (.map #[] 0)) ?_ ⟨V', ha, hinv, ?_⟩
  · simp [execOp, ho, Instr.makeMap, Result.andThen]
  · simp only [VRel]; exact ⟨by omega, by omega, by rw [hphi]⟩
theorem look_sound (hi : Inv V L σ w) (he : EnvRel V w env a.tmps) {t k e : TypeId} {ks : List CK} {x i : Operand} {p q : Opd} {z : DVal} {ok : Bool} {σ' : Sto} (ho : o.op = .lookup t x i ok) (hkk : keyKinds P t = some (k, e, ks))
    (hz : ((P.info? e).bind (·.zero)).bind ofVal = some z) (hp : opd x = some p) (hq : opd i = some q) (hs : lookSem (aggB P k) ks z ok σ [p.val env, q.val env] = some (d, σ')) : OpWp P o a w (Res V w L σ' d) := by
  have h1 := opd_rel (a := a) he hp
  have h2 := opd_rel (a := a) he hq
  generalize p.val env = x' at h1 hs
  generalize q.val env = y' at h2 hs
  obtain ⟨hu, hk⟩ := keyKinds_inv hkk
  simp only [Option.bind_eq_some_iff] at hz
  obtain ⟨zv, ⟨inf, hinf, hz1⟩, hz2⟩ := hz
  have hzr : VRel V w 0 z zv := (ofVal_rel hz2).open'
  have hzrun : (zeroValue e).run P w = .ok zv w := by simp [zeroValue, typeInfo, hinf, hz1]
  have none_res : VRel V w 0 (lookRes z ok none) (if ok then .tuple #[zv, .bool false] else zv) := by
    cases ok
    · exact hzr
    · simp only [lookRes, if_true, VRel]
      exact ⟨_, rfl, zv, _, rfl, hzr, .bool false, [], rfl, by simp only [VRel], by simp only [VRels]⟩
  have some_res : ∀ {j : Nat} {D : DVal} {u : Value}, VRel V w 0 D u → VRel V w 0 (lookRes z ok (some (j, D))) (if ok then .tuple #[u, .bool true] else u) := by
    intro j D u hD
    cases ok
    · exact hD
    · simp only [lookRes, if_true, VRel]
      exact ⟨_, rfl, u, _, rfl, hD, .bool true, [], rfl, by simp only [VRel], by simp only [VRels]⟩
  unfold lookSem at hs
  split at hs
  · rename_i kd e'
    simp only [List.cons.injEq, and_true] at e'
    obtain ⟨rfl, rfl⟩ := e'
    split at hs
    · rename_i hko
      simp only [Option.some.injEq, Prod.mk.injEq] at hs
      obtain ⟨rfl, rfl⟩ := hs
      obtain ⟨c1, c2⟩ := key_use hk h2 hko
      obtain ⟨r', f1, f2⟩ := c2 (es := []) (es' := []) (ms := #[]) (clock := 0) (r := none) (.refl _) (by simp [ERels]) (MapKept.stamped_empty 0) rfl
      have f1 : (Instr.findKey _ _ []).run P w = .ok r' w := f1
      have hr' : r' = none := by
        rcases f2 with ⟨-, h, -⟩ | ⟨i, j, q, D, m, h, -⟩
        · exact h
        · cases h
      subst hr'
      simp only [VRel] at h1
      refine OpWp.value (v := if ok then .tuple #[zv, .bool false] else zv) (w' := w) ?_ (Res.same hi none_res)
      simp [execOp, ho, h1, Instr.lookup, run_underlying hu, c1, f1, hzrun, Result.andThen]
    · cases hs
  · rename_i id kd e'
    simp only [List.cons.injEq, and_true] at e'
    obtain ⟨rfl, rfl⟩ := e'
    split at hs
    · rename_i hc
      obtain ⟨hid, hko⟩ := hc
      split at hs
      · rename_i es hes
        simp only [Option.map_eq_some_iff, Prod.mk.injEq] at hs
        obtain ⟨r, hf, rfl, rfl⟩ := hs
        obtain ⟨c1, c2⟩ := key_use hk h2 hko
        simp only [VRel] at h1
        obtain ⟨-, h0, hv⟩ := h1
        have hobj := (hi.obj id h0).2
        rw [hes] at hobj
        obtain ⟨ms, clock, es', hh, hpm, hE, hstm⟩ := hobj.map (findK_notStr hf)
        obtain ⟨r', f1, f2⟩ := c2 hpm hE hstm hf
        rcases f2 with ⟨rfl, rfl, -⟩ | ⟨i', j, q, D, m, rfl, rfl, g1, -⟩
        · refine OpWp.value (v := if ok then .tuple #[zv, .bool false] else zv) (w' := w) ?_ (Res.same hi none_res)
          simp [execOp, ho, hv, Instr.lookup, run_underlying hu, MapKept.run_getObj_map hh, c1, f1, hzrun, Result.andThen]
        · refine OpWp.value (v := if ok then .tuple #[m.val, .bool true] else m.val) (w' := w) ?_ (Res.same hi (some_res g1.open'))
          simp [execOp, ho, hv, Instr.lookup, run_underlying hu, MapKept.run_getObj_map hh, c1, f1, hzrun, Result.andThen]
      · cases hs
    · cases hs
  · cases hs
theorem mupd_sound (hi : Inv V L σ w) (he : EnvRel V w env a.tmps) {t k e : TypeId} {ks : List CK} {x i y : Operand} {qs : List Opd} {σ' : Sto} (ho : o.op = .mapUpdate t x i y ∨ o.op = .insert t x i y) (hkk : keyKinds P t = some (k, e, ks))
    (hq : opds [x, i, y] = some qs) (hs : mupdSem (aggB P k) ks σ (qs.map (Opd.val env)) = some (d, σ')) : OpWp P o a w (Res V w L σ' d) := by
  have hr := opds_rel (a := a) he hq
  generalize qs.map (Opd.val env) = xs at hr hs
  obtain ⟨hu, hk⟩ := keyKinds_inv hkk
  unfold mupdSem at hs
  split at hs
  · rename_i id kd vd
    split at hs
    · rename_i hc
      obtain ⟨hid, hko, hok⟩ := hc
      simp only [List.map_cons, List.map_nil, VRels] at hr
      obtain ⟨v1, u1, e1, h1, v2, u2, e2, h2, v3, u3, e3, h3, rfl⟩ := hr
      simp only [List.cons.injEq] at e1
      obtain ⟨rfl, rfl⟩ := e1
      simp only [List.cons.injEq] at e2
      obtain ⟨rfl, rfl⟩ := e2
      simp only [List.cons.injEq, and_true] at e3
      subst e3
      simp only [VRel] at h1
      obtain ⟨-, h0, hv⟩ := h1
      have hkp : kd.plain = true := by
        simp only [keyOk, Bool.and_eq_true] at hko
        exact hko.2.1
      have hv1 := okVal_up h3 hok
      split at hs
      · rename_i es hes
        obtain ⟨c1, c2⟩ := key_use hk h2 hko
        have hobj := (hi.obj id h0).2
        rw [hes] at hobj
        split at hs
        · rename_i j D hf
          simp only [Option.some.injEq, Prod.mk.injEq] at hs
          obtain ⟨rfl, rfl⟩ := hs
          obtain ⟨ms, clock, es', hh, hpm, hE, hstm⟩ := hobj.map (findK_notStr hf)
          obtain ⟨r', f1, f2⟩ := c2 hpm hE hstm hf
          rcases f2 with ⟨hn, -⟩ | ⟨i', j', q, D', m, hr1, rfl, g1, g2, g3, g5, g4⟩
          · cases hn
          · simp only [Option.some.injEq, Prod.mk.injEq] at hr1
            obtain ⟨rfl, rfl⟩ := hr1
            have g2' : ms[j']? = some m := by simpa using g2
            have hst : (Instr.keyThatStays (((ms[j']?).map (·.key)).getD (a.eval i)) (a.eval i)).run P w = .ok (a.eval i) w := by
              rw [g2']
              simp only [Option.map_some, Option.getD_some, g4]
              exact run_keyStays hkp h2
            have hup := Upd1.setMap (w := w) (b := V.phi id) (.map (ms.modify j' fun m => { m with key := a.eval i, val := a.eval y }) clock)
            have ha := hi.atBlock (.inr (by rw [(hi.obj id h0).1 (by rw [hes]; simp)])) hup (SameSz.noCells hh (by intro c el f h; cases h))
            have hlt : V.phi id < w.heap.size := hobj.lt
            obtain ⟨ha', hinv⟩ := hi.setObj h0 (by rw [hes]; simp) hup (SameSz.noCells hh (by intro c el f h; cases h)) (d := .tup (es.set j (.tup [kd, vd]))) (ObjRel.ofMap (ms := ms.modify j' fun m => { m with key := a.eval i, val := a.eval y }) (clock := clock) (by simp [hlt]) (perm_set hpm g3 g5) (by
              rw [Array.toList_modify]
              exact ERels.set (hE.ext ha.ei ha.er) fun m' hm' => ⟨hkp, plain_rel hkp h2, hv1.adv ha⟩) (MapKept.stamped_modify hstm j' _ (fun e _ => rfl) fun e _ he => by rw [g2'] at he; simp only [Option.some.injEq] at he; rw [← he]; exact g4.symm))
            refine OpWp.skip (w' := { w with heap := w.heap.setIfInBounds (V.phi id) (.map (ms.modify j' fun m => { m with key := a.eval i, val := a.eval y }) clock) }) ?_ ⟨V, ha', hinv, by simp [VRel]⟩
            rcases ho with ho | ho <;> simp [execOp, ho, hv, Instr.mapUpdate, run_underlying hu, MapKept.run_getObj_map hh, c1, f1, hst, MapKept.run_setObj_map _ hh, Result.andThen]
        · rename_i hf
          simp only [Option.some.injEq, Prod.mk.injEq] at hs
          obtain ⟨rfl, rfl⟩ := hs
          obtain ⟨ms, clock, es', hh, hpm, hE, hstm⟩ := hobj.map (findK_notStr hf)
          obtain ⟨r', f1, f2⟩ := c2 hpm hE hstm hf
          have hr' : r' = none ∧ ∀ m ∈ ms.toList, m.key ≠ a.eval i := by
            rcases f2 with ⟨-, h, h'⟩ | ⟨i', j, q, D, m, h, -⟩
            · exact ⟨h, h'⟩
            · cases h
          obtain ⟨hr', hnokey⟩ := hr'
          subst hr'
          have hup := Upd1.setMap (w := w) (b := V.phi id) (.map (ms.push { key := a.eval i, val := a.eval y, born := clock }) (clock + 1))
          have ha := hi.atBlock (.inr (by rw [(hi.obj id h0).1 (by rw [hes]; simp)])) hup (SameSz.noCells hh (by intro c el f h; cases h))
          have hlt : V.phi id < w.heap.size := hobj.lt
          obtain ⟨ha', hinv⟩ := hi.setObj h0 (by rw [hes]; simp) hup (SameSz.noCells hh (by intro c el f h; cases h)) (d := .tup (es ++ [.tup [kd, vd]])) (ObjRel.ofMap (ms := ms.push { key := a.eval i, val := a.eval y, born := clock }) (clock := clock + 1) (by simp [hlt]) (hpm.append_right _) (by
            rw [Array.toList_push]
            exact ERels.push (hE.ext ha.ei ha.er) hkp (plain_rel hkp h2) (hv1.adv ha)) (MapKept.stamped_push hstm hnokey))
          refine OpWp.skip (w' := { w with heap := w.heap.setIfInBounds (V.phi id) (.map (ms.push { key := a.eval i, val := a.eval y, born := clock }) (clock + 1)) }) ?_ ⟨V, ha', hinv, by simp [VRel]⟩
          rcases ho with ho | ho <;> simp [execOp, ho, hv, Instr.mapUpdate, run_underlying hu, MapKept.run_getObj_map hh, c1, f1, MapKept.run_setObj_map _ hh, Result.andThen]
        · cases hs
      · cases hs
    · cases hs
  · cases hs
theorem mdel_sound (hi : Inv V L σ w) (he : EnvRel V w env a.tmps) {t k e : TypeId} {ks : List CK} {c : Call} {x i : Operand} {p q : Opd} {σ' : Sto} (ho : o.op = .call c) (hc : c.callee = .builtin .delete) (hx : c.args = #[x, i]) (ht : c.argTypes[0]? = some t) (hkk : keyKinds P t = some (k, e, ks))
    (hp : opd x = some p) (hq : opd i = some q) (hs : mdelSem (aggB P k) ks σ [p.val env, q.val env] = some (d, σ')) : OpWp P o a w (Res V w L σ' d) := by
  have h1 := opd_rel (a := a) he hp
  have h2 := opd_rel (a := a) he hq
  generalize p.val env = x' at h1 hs
  generalize q.val env = y' at h2 hs
  obtain ⟨hu, hk⟩ := keyKinds_inv hkk
  unfold mdelSem at hs
  split at hs
  · rename_i id kd e'
    simp only [List.cons.injEq, and_true] at e'
    obtain ⟨rfl, rfl⟩ := e'
    split at hs
    · rename_i hc'
      obtain ⟨hid, hko⟩ := hc'
      simp only [VRel] at h1
      obtain ⟨-, h0, hv⟩ := h1
      split at hs
      · rename_i es hes
        obtain ⟨c1, c2⟩ := key_use hk h2 hko
        have hobj := (hi.obj id h0).2
        rw [hes] at hobj
        have hlt : V.phi id < w.heap.size := hobj.lt
        split at hs
        · rename_i j D hf
          simp only [Option.some.injEq, Prod.mk.injEq] at hs
          obtain ⟨rfl, rfl⟩ := hs
          obtain ⟨ms, clock, es', hh, hpm, hE, hstm⟩ := hobj.map (findK_notStr hf)
          obtain ⟨r', f1, f2⟩ := c2 hpm hE hstm hf
          rcases f2 with ⟨hn, -⟩ | ⟨i', j', q, D', m, hr1, rfl, g1, g2, g3, g5, g4⟩
          · cases hn
          · simp only [Option.some.injEq, Prod.mk.injEq] at hr1
            obtain ⟨rfl, rfl⟩ := hr1
            have hup := Upd1.setMap (w := w) (b := V.phi id) (.map (ms.eraseIdxIfInBounds j') clock)
            have ha := hi.atBlock (.inr (by rw [(hi.obj id h0).1 (by rw [hes]; simp)])) hup (SameSz.noCells hh (by intro c el f h; cases h))
            obtain ⟨ha', hinv⟩ := hi.setObj h0 (by rw [hes]; simp) hup (SameSz.noCells hh (by intro c el f h; cases h)) (d := .tup (es.eraseIdx j)) (ObjRel.ofMap (ms := ms.eraseIdxIfInBounds j') (clock := clock) (by simp [hlt]) (perm_erase hpm g3 g5) (by
              rw [Array.toList_eraseIdxIfInBounds]
              exact ERels.erase (hE.ext ha.ei ha.er)) (MapKept.stamped_erase hstm j'))
            refine OpWp.value (v := .tuple #[]) (w' := { w with heap := w.heap.setIfInBounds (V.phi id) (.map (ms.eraseIdxIfInBounds j') clock) }) ?_ ⟨V, ha', hinv, by simp [VRel, VRels]⟩
            simp [execOp, ho, resolve, hc, hx, invoke, builtin, Builtin.delete_, ht, hv, run_underlying hu, MapKept.run_getObj_map hh, c1, f1, MapKept.run_setObj_map _ hh, Result.andThen]
        · rename_i hf
          simp only [Option.some.injEq, Prod.mk.injEq] at hs
          obtain ⟨rfl, rfl⟩ := hs
          obtain ⟨ms, clock, es', hh, hpm, hE, hstm⟩ := hobj.map (findK_notStr hf)
          obtain ⟨r', f1, f2⟩ := c2 hpm hE hstm hf
          have hr' : r' = none := by
            rcases f2 with ⟨-, h, -⟩ | ⟨i', j, q, D, m, h, -⟩
            · exact h
            · cases h
          subst hr'
          have hsame : w.heap.setIfInBounds (V.phi id) (.map ms clock) = w.heap := by
            apply Array.ext_getElem?
            intro n
            rw [Array.getElem?_setIfInBounds]
            by_cases e : V.phi id = n
            · subst e; rw [if_pos rfl, if_pos hlt]; exact hh.symm
            · rw [if_neg e]
          refine OpWp.value (v := .tuple #[]) (w' := w) ?_ (Res.same hi (by simp [VRel, VRels]))
          simp [execOp, ho, resolve, hc, hx, invoke, builtin, Builtin.delete_, ht, hv, run_underlying hu, MapKept.run_getObj_map hh, c1, f1, MapKept.run_setObj_map _ hh, hsame, Result.andThen]
        · cases hs
      · cases hs
    · cases hs
  · cases hs
theorem lenM_sound (hi : Inv V L σ w) (he : EnvRel V w env a.tmps) {c : Call} {x : Operand} {q : Opd} {t k e : TypeId} {σ' : Sto} (ho : o.op = .call c) (hc : c.callee = .builtin .len) (hx : c.args = #[x]) (ht : c.argTypes[0]? = some t)
    (hu : P.underlying t = some (.map k e)) (hq : opd x = some q) (hs : lenMSem σ [q.val env] = some (d, σ')) : OpWp P o a w (Res V w L σ' d) := by
  have h1 := opd_rel (a := a) he hq
  generalize q.val env = x' at h1 hs
  unfold lenMSem at hs
  split at hs
  · rename_i e'
    simp only [List.cons.injEq, and_true] at e'
    subst e'
    simp only [Option.some.injEq, Prod.mk.injEq] at hs
    obtain ⟨rfl, rfl⟩ := hs
    simp only [VRel] at h1
    refine OpWp.value (v := .int .i64 0) (w' := w) ?_ (Res.same hi (by simp [VRel, goI]))
    simp [execOp, ho, resolve, hc, hx, invoke, builtin, Builtin.len_, ht, h1, run_underlying hu, goInt]
  · rename_i id e'
    simp only [List.cons.injEq, and_true] at e'
    subst e'
    split at hs
    · split at hs
      · cases hs
      · rename_i es hns hes
        simp only [Option.some.injEq, Prod.mk.injEq] at hs
        obtain ⟨rfl, rfl⟩ := hs
        simp only [VRel] at h1
        obtain ⟨-, h0, hv⟩ := h1
        have hobj := (hi.obj id h0).2
        rw [hes] at hobj
        obtain ⟨ms, clock, es', hh, hpm, hE, -⟩ := hobj.map (fun s l e => hns s l e)
        have hl := hE.length
        rw [← hpm.length_eq] at hl
        refine OpWp.value (v := .int .i64 ms.size) (w' := w) ?_ (Res.same hi (by simp [VRel, goI, ← hl]))
        simp [execOp, ho, resolve, hc, hx, invoke, builtin, Builtin.len_, ht, hv, run_underlying hu, MapKept.run_getObj_map hh, goInt]
      · cases hs
    · cases hs
  · cases hs
theorem rngM_sound (hi : Inv V L σ w) (he : EnvRel V w env a.tmps) {t k e : TypeId} {x : Operand} {q : Opd} {σ' : Sto} (ho : o.op = .range t x) (hu : P.underlying t = some (.map k e)) (hq : opd x = some q) (hs : rngMSem σ [q.val env] = some (d, σ')) : OpWp P o a w (Res V w L σ' d) := by
  have h1 := opd_rel (a := a) he hq
  generalize q.val env = x' at h1 hs
  unfold rngMSem at hs
  split at hs
  · rename_i e'
    simp only [List.cons.injEq, and_true] at e'
    subst e'
    simp only [Option.some.injEq, Prod.mk.injEq] at hs
    obtain ⟨rfl, rfl⟩ := hs
    simp only [VRel] at h1
    obtain ⟨V', ha, hinv, hno, hphi⟩ := hi.newObj (.mapIter none 0 #[] 0) .nilm (fun V' w' hadv hh => by unfold ObjRel; exact ⟨_, _, _, hh⟩)
    refine OpWp.value (v := .pointer (some ⟨w.heap.size, 0, none⟩)) (w' := w.alloc (.mapIter none 0 #[] 0)) ?_ ⟨V', ha, hinv, ?_⟩
    · simp [execOp, ho, h1, Instr.range, run_underlying hu]
    · simp only [VRel]; exact ⟨by omega, by omega, by rw [hphi]⟩
  · rename_i id e'
    simp only [List.cons.injEq, and_true] at e'
    subst e'
    split at hs
    · rename_i hlt
      split at hs
      · cases hs
      · rename_i es hns hes
        simp only [Option.some.injEq, Prod.mk.injEq] at hs
        obtain ⟨rfl, rfl⟩ := hs
        simp only [VRel] at h1
        obtain ⟨-, h0, hv⟩ := h1
        have hobj := (hi.obj id h0).2
        rw [hes] at hobj
        obtain ⟨ms, clock, es', hh, hpm, hE, hst⟩ := hobj.map (fun s l e => hns s l e)
        obtain ⟨V', ha, hinv, hno, hphi⟩ := hi.newIter h0 hes hh hpm hE hst
        refine OpWp.value (v := .pointer (some ⟨w.heap.size, 0, none⟩)) (w' := w.alloc (.mapIter (some (V.phi id)) clock #[] clock)) ?_ ⟨V', ha, hinv, ?_⟩
        · simp [execOp, ho, hv, run_range_map w t k e (V.phi id) ms clock hu hh]
        · simp only [VRel]; exact ⟨by omega, by omega, by rw [hphi]⟩
      · cases hs
    · cases hs
  · cases hs
theorem entM_sound (hi : Inv V L σ w) (he : EnvRel V w env a.tmps) {x : Operand} {q : Opd} {σ' : Sto} (ho : o.op = .entry x) (hq : opd x = some q) (hs : entMSem σ [q.val env] = some (d, σ')) : OpWp P o a w (Res V w L σ' d) := by
  have h1 := opd_rel (a := a) he hq
  generalize q.val env = x' at h1 hs
  unfold entMSem at hs
  split at hs
  · rename_i id e'
    simp only [List.cons.injEq, and_true] at e'
    subst e'
    split at hs
    · rename_i hlt
      split at hs
      · rename_i m k v r1 r2 hc
        simp only [Option.some.injEq, Prod.mk.injEq] at hs
        obtain ⟨rfl, rfl⟩ := hs
        simp only [VRel] at h1
        obtain ⟨-, h0, hv⟩ := h1
        have hobj := (hi.obj id h0).2
        rw [hc] at hobj
        unfold ObjRel at hobj
        split at hobj
        all_goals first
          | (rename_i e; cases e; done)
          | (exfalso; exact hobj; done)
          | skip
        rename_i m' cur rest all e
        simp only [DVal.func.injEq, List.cons.injEq, and_true] at e
        obtain ⟨rfl, rfl, rfl, rfl⟩ := e
        obtain ⟨g0, g1, ms, clock, since, seen, c0, rest', all', g3, g4, g5, g6, g7, g8, g9, g10, g11, g12, g13⟩ := hobj
        rcases g13 with hh | ⟨en, s0, k', v', rfl, k2, rfl, k4, k5, k6, k7⟩
        · cases hh
        · simp only [DVal.tup.injEq, List.cons.injEq, and_true] at k4
          obtain ⟨rfl, rfl⟩ := k4
          have hnd : (ms.toList.map (·.born)).Nodup := g5.2.1
          have hrun := run_entry_at (P := P) w (V.phi id) (V.phi m) since s0 ms _ en g4 g3 k2 hnd
          refine OpWp.value (v := .tuple #[en.key, en.val]) (w' := w) ?_ (Res.same hi ?_)
          · simp [execOp, ho, hv, hrun]
          · simp only [VRel]
            exact ⟨_, rfl, _, _, rfl, k6.open', _, _, rfl, k7.open', by simp only [VRels]⟩
      · cases hs
    · cases hs
  · cases hs
end
end Go.Proofs.YtklepphkbbjbjaaDoor
namespace Go.Proofs.YtklepphkbbjbjaaDoor
set_option linter.unusedVariables false
set_option linter.unusedSimpArgs false
open Go Go.RowKit
def VI (I : Nat → Nat → Prop) (B : Nat) : Vw :=
  { B := B, I0 := I, tag := fun _ => (0, 0), lam := fun _ => 0, phi := fun _ => 0, tb := fun _ => 0, ep := fun _ => 0, nobj := 0, ntok := 0, fr := fun _ => 0 }
theorem VI_imm {I : Nat → Nat → Prop} {B b n : Nat} : (VI I B).imm b n ↔ b < B ∧ I b n := by simp [Vw.imm, VI]
def newI (I : Nat → Nat → Prop) (w w' : World) (x : Option Nat) (k : Nat) (b n : Nat) : Prop :=
  I b n ∨ (w.heap.size ≤ b ∧ b < w'.heap.size ∧ (x = some b → n < k))
def HRel (I : Nat → Nat → Prop) (w w' : World) (r : DVal) (v : Value) : Prop :=
  match r with
  | .slice false 2 sz es => ∃ b cap c el, v = .slice (some ⟨b, 0, none⟩) es.length cap ∧ w.heap.size ≤ b ∧ w'.heap[b]? = some (.cells c el (0, 0)) ∧ c.size = cap * sz ∧ es.length ≤ cap ∧
      RowsRel (VI (newI I w w' (some b) (es.length * sz)) w'.heap.size) w' 2 b sz 0 es
  | r => VRel (VI (newI I w w' none 0) w'.heap.size) w' 2 r v
def callable (P : Program) (f : FuncId) : Prop := ∃ fn, P.funcs[f]? = some fn ∧ (fn.name == "runtime.NumGoroutine") = false ∧ fn.body.isNone = false
def HasG (Gl : List (Nat × Nat × Option Value)) (I : Nat → Nat → Prop) (w : World) : Prop := ∀ p ∈ Gl, I p.1 p.2.1 ∧ w.cell? ⟨p.1, p.2.1, none⟩ = p.2.2
theorem HasG.ext {Gl : List (Nat × Nat × Option Value)} {I J : Nat → Nat → Prop} {w w' : World} (h : HasG Gl I w) (hI : ∀ b n, I b n → J b n ∧ w'.cell? ⟨b, n, none⟩ = w.cell? ⟨b, n, none⟩) : HasG Gl J w' :=
  fun p hp => ⟨(hI _ _ (h p hp).1).1, (hI _ _ (h p hp).1).2.trans (h p hp).2⟩
def PureOk (P : Program) (Gl : List (Nat × Nat × Option Value)) (f : FuncId) (sem : List DVal → Option DVal) : Prop :=
  ∀ (I : Nat → Nat → Prop) (w : World) (ds : List DVal) (vs : List Value) (r : DVal), (∀ b n, I b n → b < w.heap.size) → HasG Gl I w → VRels (VI I w.heap.size) w 2 ds vs → sem ds = some r →
    callable P f ∧ Calls P f vs.toArray w fun e w' => ∃ v, e = .returned v ∧ Below w.heap.size w w' ∧ HRel I w w' r v
def noRoots : Nat → Nat × DVal := fun _ => (0, .undef)
def ImpOk (P : Program) (Gl : List (Nat × Nat × Option Value)) (f : FuncId) (sem : List DVal → Sto → Option (DVal × Sto)) : Prop :=
  ∀ (V : Vw) (σ σ' : Sto) (w : World) (ds : List DVal) (vs : List Value) (r : DVal), Inv V noRoots σ w → HasG Gl V.imm w → VRels V w 1 ds vs → sem ds σ = some (r, σ') →
    callable P f ∧ Calls P f vs.toArray w fun e w' => ∃ v V', e = .returned v ∧ Adv V w V' w' ∧ Inv V' noRoots σ' w' ∧ VRel V' w' 1 r v
theorem Inv.afterPure {V : Vw} {L : Nat → Nat × DVal} {σ : Sto} {w w' : World} (h : Inv V L σ w) (hb : Below w.heap.size w w') :
    ∃ V', Adv V w V' w' ∧ Inv V' L σ w' ∧ V'.B = V.B ∧ ∀ b n, newI V.imm w w' none 0 b n → V'.imm b n := by
  have hsize := hb.size
  let V' : Vw := { V with tag := fun b => if w.heap.size ≤ b ∧ b < w'.heap.size then (1, 0) else V.tag b }
  have hold : ∀ b, b < w.heap.size → V'.tag b = V.tag b := fun b hlt => by simp only [V']; rw [if_neg (by omega)]
  have hcell : ∀ b n, b < w.heap.size → w'.cell? ⟨b, n, none⟩ = w.cell? ⟨b, n, none⟩ := fun b n hlt => World.cell?_of_block (hb.block b hlt)
  have himm : ∀ b n, V.imm b n → V'.imm b n := fun b n hi => by
    have hlt := h.imm_lt hi
    unfold Vw.imm at hi ⊢
    rw [hold b hlt]
    exact hi
  have ha : Adv V w V' w' := by
    refine ⟨fun b n hi => ⟨himm b n hi, hcell b n (h.imm_lt hi)⟩, ⟨Nat.le_refl _, fun _ _ => rfl, Nat.le_refl _, fun _ _ => Nat.le_refl _, fun g hg _ => ⟨rfl, fun c el hc => ⟨c, ?_, rfl⟩⟩, fun b c el hc => ⟨c, by rw [hb.block _ (Array.getElem?_eq_some_iff.1 hc).1]; exact hc, rfl⟩⟩, ⟨fun _ => Nat.le_refl _, fun _ _ _ => rfl⟩, rfl, fun b hlt h0 => by rw [hold b hlt]; exact h0, fun b hlt _ => hb.block b hlt, hsize, hb.os, hb.tape, hb.output, rfl⟩
    rw [hb.block _ (h.tok_lt hg)]
    exact hc
  refine ⟨V', ha, ?_, rfl, fun b n hn => ?_⟩
  · constructor
    · exact Nat.le_trans h.hB hsize
    · intro b h0
      simp only [V'] at h0
      split at h0
      · have := h.hB; exact ⟨by show V.B ≤ b; omega, by omega⟩
      · have := h.tag b h0; exact ⟨this.1, by omega⟩
    · exact h.ep
    · intro r hr
      exact ⟨by rw [hold _ (h.root_lt hr)]; exact (h.root r hr).1, (h.root r hr).2.ext ha.ei ha.er (h.hrt r hr) (hb.block _ (h.root_lt hr))⟩
    · exact h.nobj
    · intro r hr
      exact ⟨fun hne => by rw [hold _ (h.obj_lt hr)]; exact (h.obj r hr).1 hne, ObjRel.quiet h hr ha.ei ha.er (fun m hm _ _ _ => ⟨hb.block _ (h.obj_lt hm), hold _ (h.obj_lt hm)⟩) (hb.block _ (h.obj_lt hr))⟩
    · exact h.ntok
    · exact h.fr
    · intro b h4
      simp only [V'] at h4 ⊢
      split at h4
      · simp at h4
      · rename_i hn; rw [if_neg hn]; exact h.tag4 b h4
    · intro g hg
      obtain ⟨k1, c, el, k2, k3⟩ := h.tok g hg
      exact ⟨by rw [hold _ (h.tok_lt hg)]; exact k1, c, el, by rw [hb.block _ (h.tok_lt hg)]; exact k2, k3⟩
    · exact h.hid
    · exact h.hrt
  · rcases hn with hn | ⟨h1, h2, -⟩
    · exact himm b n hn
    · refine .inr ⟨by show V.B ≤ b; have := h.hB; omega, .inl ?_⟩
      simp only [V']
      rw [if_pos ⟨h1, h2⟩]
theorem Inv.afterFresh {V : Vw} {L : Nat → Nat × DVal} {σ : Sto} {w w' : World} (h : Inv V L σ w) (hb : Below w.heap.size w w') {x k : Nat} {c : Array Value} {el : TypeId} (hx : w.heap.size ≤ x) (hc : w'.heap[x]? = some (.cells c el (0, 0))) (hk : k ≤ c.size) :
    ∃ V', Adv V w V' w' ∧ Inv V' L { σ with ntok := σ.ntok + 1, fr := upd σ.fr σ.ntok k } w' ∧ V'.B = V.B ∧ (∀ b n, newI V.imm w w' (some x) k b n → V'.imm b n) ∧ V'.ntok = σ.ntok + 1 ∧ V'.tb σ.ntok = x ∧ V'.fr σ.ntok = k := by
  have hsize := hb.size
  have hxl : x < w'.heap.size := (Array.getElem?_eq_some_iff.1 hc).1
  have hnt := h.ntok
  let V' : Vw := { V with tag := fun b => if b = x then (4, σ.ntok) else if w.heap.size ≤ b ∧ b < w'.heap.size then (1, 0) else V.tag b, tb := upd V.tb σ.ntok x, ntok := σ.ntok + 1, fr := upd V.fr σ.ntok k }
  have hold : ∀ b, b < w.heap.size → V'.tag b = V.tag b := fun b hlt => by simp only [V']; rw [if_neg (by omega), if_neg (by omega)]
  have hcell : ∀ b n, b < w.heap.size → w'.cell? ⟨b, n, none⟩ = w.cell? ⟨b, n, none⟩ := fun b n hlt => World.cell?_of_block (hb.block b hlt)
  have hfr : ∀ g, g < V.ntok → V'.fr g = V.fr g := fun g hg => by simp only [V', upd]; rw [if_neg (by omega)]
  have htb : ∀ g, g < V.ntok → V'.tb g = V.tb g := fun g hg => by simp only [V', upd]; rw [if_neg (by omega)]
  have himm : ∀ b n, V.imm b n → V'.imm b n := fun b n hi => by
    have hlt := h.imm_lt hi
    unfold Vw.imm at hi ⊢
    rw [hold b hlt]
    rcases hi with hi | ⟨h1, h2 | ⟨h2, h3⟩⟩
    · exact .inl hi
    · exact .inr ⟨h1, .inl h2⟩
    · exact .inr ⟨h1, .inr ⟨h2, by rw [hfr _ (h.tag4 b h2)]; exact h3⟩⟩
  have ha : Adv V w V' w' := by
    refine ⟨fun b n hi => ⟨himm b n hi, hcell b n (h.imm_lt hi)⟩, ⟨Nat.le_refl _, fun _ _ => rfl, by show V.ntok ≤ σ.ntok + 1; omega, fun g hg => by rw [hfr g hg]; exact Nat.le_refl _, fun g hg _ => ⟨htb g hg, fun d e hd => ⟨d, ?_, rfl⟩⟩, fun b c el hc => ⟨c, by rw [hb.block _ (Array.getElem?_eq_some_iff.1 hc).1]; exact hc, rfl⟩⟩, ⟨fun _ => Nat.le_refl _, fun _ _ _ => rfl⟩, rfl, fun b hlt h0 => by rw [hold b hlt]; exact h0, fun b hlt _ => hb.block b hlt, hsize, hb.os, hb.tape, hb.output, rfl⟩
    rw [hb.block _ (h.tok_lt hg)]
    exact hd
  refine ⟨V', ha, ?_, rfl, fun b n hn => ?_, rfl, by simp [V', upd], by simp [V', upd]⟩
  · constructor
    · exact Nat.le_trans h.hB hsize
    · intro b h0
      have hBw := h.hB
      simp only [V'] at h0
      split at h0
      · exact ⟨by show V.B ≤ b; omega, by omega⟩
      · split at h0
        · exact ⟨by show V.B ≤ b; omega, by omega⟩
        · have := h.tag b h0; exact ⟨this.1, by omega⟩
    · exact h.ep
    · intro r hr
      exact ⟨by rw [hold _ (h.root_lt hr)]; exact (h.root r hr).1, (h.root r hr).2.ext ha.ei ha.er (h.hrt r hr) (hb.block _ (h.root_lt hr))⟩
    · exact h.nobj
    · intro r hr
      exact ⟨fun hne => by rw [hold _ (h.obj_lt hr)]; exact (h.obj r hr).1 hne, ObjRel.quiet h hr ha.ei ha.er (fun m hm _ _ _ => ⟨hb.block _ (h.obj_lt hm), hold _ (h.obj_lt hm)⟩) (hb.block _ (h.obj_lt hr))⟩
    · rfl
    · show upd V.fr σ.ntok k = upd σ.fr σ.ntok k
      rw [h.fr]
    · intro b h4
      show (V'.tag b).2 < σ.ntok + 1
      simp only [V'] at h4 ⊢
      split at h4
      · rename_i e; rw [if_pos e]; exact Nat.lt_succ_self _
      · rename_i e
        rw [if_neg e]
        split at h4
        · simp at h4
        · rename_i hn; rw [if_neg hn]; have := h.tag4 b h4; omega
    · intro g hg
      by_cases e : g = σ.ntok
      · subst e
        refine ⟨by simp [V', upd], c, el, by simp only [V', upd, if_true]; exact hc, by simp only [V', upd, if_true]; exact hk⟩
      · have hg' : g < V.ntok := by have : g < σ.ntok + 1 := hg; omega
        obtain ⟨k1, d, e', k2, k3⟩ := h.tok g hg'
        rw [htb g hg', hfr g hg']
        exact ⟨by rw [hold _ (h.tok_lt hg')]; exact k1, d, e', by rw [hb.block _ (h.tok_lt hg')]; exact k2, k3⟩
    · exact h.hid
    · exact h.hrt
  · rcases hn with hn | ⟨h1, h2, h3⟩
    · exact himm b n hn
    · have hBw := h.hB
      refine .inr ⟨by show V.B ≤ b; omega, ?_⟩
      by_cases e : b = x
      · subst e
        exact .inr ⟨by simp [V'], by simp only [V', if_true, upd]; exact h3 rfl⟩
      · refine .inl ?_
        simp only [V']
        rw [if_neg e, if_pos ⟨h1, h2⟩]
section
variable {P : Program} {Gl : List (Nat × Nat × Option Value)} {V : Vw} {w : World} {L : Nat → Nat × DVal} {σ : Sto} {env : Nat → DVal} {a : Act} {d : DVal} {o : Oper}
theorem exec_call {c : Call} {f : FuncId} (ho : o.op = .call c) (hc : c.callee = .value (.func f)) (hf : callable P f) : (execOp a.eval o).run P w = .ok (.enter f ((c.args.toList.map a.eval).toArray)) w := by
  obtain ⟨fn, h1, h2, h3⟩ := hf
  have e : c.args.map a.eval = (c.args.toList.map a.eval).toArray := by apply Array.ext'; simp
  simp only [execOp, ho, resolve, hc, Act.eval, Sem.run_bind, Deferred.ofValue, Sem.run_pure, Result.andThen_ok, invoke, callFunc, run_program, h1, h2, h3, Bool.false_eq_true, if_false, Array.empty_append, Array.append_empty]
  rw [← e]
theorem exec_callV {c : Call} {t : Tmp} {f : FuncId} {caps : Array Value} (ho : o.op = .call c) (hc : c.callee = .value (.tmp t)) (hv : a.eval (.tmp t) = .func (.func f) #[] caps) (hf : callable P f) :
    (execOp a.eval o).run P w = .ok (.enter f ((c.args.toList.map a.eval) ++ caps.toList).toArray) w := by
  obtain ⟨fn, h1, h2, h3⟩ := hf
  have e : c.args.map a.eval ++ caps = ((c.args.toList.map a.eval) ++ caps.toList).toArray := by apply Array.ext'; simp
  simp only [execOp, ho, resolve, hc, hv, Sem.run_bind, Deferred.ofValue, Sem.run_pure, Result.andThen_ok, invoke, callFunc, run_program, h1, h2, h3, Bool.false_eq_true, if_false, Array.empty_append]
  rw [← e]
theorem sealed_args (hi : Inv V L σ w) {xs ys : List DVal} {vs : List Value} (h : VRels V w 0 xs vs) (hs : sealVals xs = some ys) : VRels (VI V.imm w.heap.size) w 2 ys vs :=
  VRels.ext (V := V) (w := w) (fun b n hn => ⟨VI_imm.2 ⟨hi.imm_lt hn, hn⟩, rfl⟩) _ _ _ (fun e => by omega) (fun e => by omega) (sealVals_rel h hs)
theorem HRel.at {V' : Vw} {w' : World} {r : DVal} {v : Value} {x : Option Nat} {k : Nat} (h : VRel (VI (newI V.imm w w' x k) w'.heap.size) w' 2 r v) (hV : ∀ b n, newI V.imm w w' x k b n → V'.imm b n) : VRel V' w' 0 r v :=
  (VRel.ext (V' := V') (w' := w') (fun b n hn => ⟨hV b n (VI_imm.1 hn).2, rfl⟩) _ _ _ (fun e => by omega) (fun e => by omega) h).open'
theorem RowsRel.at {V' : Vw} {w' : World} {x : Option Nat} {k b sz off : Nat} {es : List (List DVal)} (h : RowsRel (VI (newI V.imm w w' x k) w'.heap.size) w' 2 b sz off es) (hV : ∀ b n, newI V.imm w w' x k b n → V'.imm b n) : RowsRel V' w' 2 b sz off es :=
  RowsRel.ext (V' := V') (w' := w') (fun b n hn => ⟨hV b n (VI_imm.1 hn).2, rfl⟩) _ _ _ _ _ (fun e => by omega) (fun e => by omega) h
theorem newI_weaken {I : Nat → Nat → Prop} {w w' : World} {x : Option Nat} {k b n : Nat} (h : newI I w w' x k b n) : newI I w w' none 0 b n := by
  rcases h with h | ⟨h1, h2, -⟩
  · exact .inl h
  · exact .inr ⟨h1, h2, fun e => by simp at e⟩
theorem callP_sound {cp : Nat → List DVal → Option DVal} (hcp : ∀ f, PureOk P Gl f (cp f)) (hG : HasG Gl V.imm w) (hi : Inv V L σ w) (he : EnvRel V w env a.tmps) {c : Call} {f : FuncId} {qs : List Opd} (ho : o.op = .call c) (hc : c.callee = .value (.func f))
    (hq : opds c.args.toList = some qs) (hs : ((sealVals (qs.map (Opd.val env))).bind fun ys => (cp f ys).map DVal.stale) = some d) : OpWp P o a w (Res V w L σ d) := by
  have h1 := opds_rel (a := a) he hq
  simp only [Option.bind_eq_some_iff, Option.map_eq_some_iff] at hs
  obtain ⟨ys, hys, r, hr, rfl⟩ := hs
  obtain ⟨hcall, hC⟩ := hcp f V.imm w ys _ r (fun b n => hi.imm_lt) hG (sealed_args hi h1 hys) hr
  refine OpWp.call (exec_call ho hc hcall) (hC.mono ?_)
  rintro e w' ⟨v, rfl, hb, hrel⟩
  obtain ⟨V', ha, hinv, -, hV⟩ := hi.afterPure hb
  refine ⟨v, rfl, V', ha, hinv, ?_⟩
  unfold HRel at hrel
  split at hrel
  · rename_i sz es
    obtain ⟨b, cap, cc, el, rfl, g1, g2, g3, g4, g5⟩ := hrel
    simp only [DVal.stale, VRel]
    exact ⟨.inl (by omega), b, 0, cap, rfl, g4, ⟨by omega, fun e => by omega, fun e => by omega⟩, g5.at fun b n hn => hV b n (newI_weaken hn)⟩
  · rename_i hne
    have hst : r.stale = r := by
      unfold DVal.stale
      split
      · rename_i pt sz es
        exfalso
        simp only [VRel] at hrel
        rcases hrel.1 with hh | ⟨hh, -⟩
        · omega
        · subst hh; exact hne _ _ rfl
      · rfl
    rw [hst]
    exact HRel.at hrel hV
theorem methodTbl_get {name : String} : ∀ {n : Nat} {t f : Nat}, (methodTbl P name n).lookup t = some f → methodOf P name t = some f
  | 0, _, _, h => by simp [methodTbl] at h
  | n + 1, t, f, h => by
    unfold methodTbl at h
    split at h
    · rename_i g hg
      rw [List.lookup_cons] at h
      split at h
      · rename_i e
        have e' : t = n := by simpa using e
        simp only [Option.some.injEq] at h
        rw [e', hg, h]
      · exact methodTbl_get h
    · exact methodTbl_get h
theorem run_method {name : String} {t f : Nat} {v : Value} (h : methodOf P name t = some f) (k : Nat) : (method (k + 1) t v name).run P w = .ok (f, v) w := by
  unfold methodOf at h
  split at h
  · rename_i i u hi1 hu
    have key : ∀ {x : Option FuncId}, x = (match i.methods.find? (·.name == name) with
        | some m => if m.path.isEmpty then (match m.func with | some (f, false) => some f | _ => none) else none
        | none => none) → x = some f → ∃ m, i.methods.find? (·.name == name) = some m ∧ m.path.toList = [] ∧ m.func = some (f, false) := by
      intro x hx hxf
      rw [hxf] at hx
      split at hx
      · rename_i m hm
        split at hx
        · rename_i hp
          split at hx
          · rename_i g hg
            simp only [Option.some.injEq] at hx
            subst hx
            exact ⟨m, hm, by simpa using hp, hg⟩
          · cases hx
        · cases hx
      · cases hx
    cases u with
    | pointer e => cases h
    | _ =>
      obtain ⟨m, h1, h2, h3⟩ := key rfl h
      simp [method, typeInfo, hi1, h1, h2, follow, h3, receiverAt, run_underlying hu, Place.get]
  · cases h
theorem exec_callM {c : Call} {r : Operand} {name : String} {t : Nat} {f : FuncId} {v : Value} (ho : o.op = .call c) (hc : c.callee = .invoke r name) (hv : a.eval r = .iface t v) (hm : methodOf P name t = some f) (hf : callable P f) :
    (execOp a.eval o).run P w = .ok (.enter f ((v :: c.args.toList.map a.eval).toArray)) w := by
  obtain ⟨fn, h1, h2, h3⟩ := hf
  have e : (#[v] ++ c.args.map a.eval) = (v :: c.args.toList.map a.eval).toArray := by apply Array.ext'; simp
  have e2 : (#[Value.iface t v] ++ c.args.map a.eval).extract 1 (#[Value.iface t v] ++ c.args.map a.eval).size = c.args.map a.eval := by
    apply Array.ext'
    simp only [Array.toList_extract, Array.toList_append, List.extract_eq_take_drop, Array.size_append]
    simp
    exact List.take_of_length_le (by simp)
  have e3 : (#[Value.iface t v] ++ c.args.map a.eval)[0]? = some (.iface t v) := by
    rw [Array.getElem?_append_left (by simp)]; rfl
  have hmd : 0 < Made.depth := by decide
  have hrm := run_method (P := P) (w := w) (v := v) hm (P.types.size + (Made.depth - 1))
  rw [show P.types.size + (Made.depth - 1) + 1 = P.types.size + Made.depth by omega] at hrm
  simp only [execOp, ho, resolve, hc, hv, Sem.run_bind, Sem.run_pure, Result.andThen_ok, invoke, e2, e3, callMethod, run_program, hrm, callFunc, h1, h2, h3, Bool.false_eq_true, if_false]
  rw [e]
theorem callM_sound {cp : Nat → List DVal → Option DVal} (hcp : ∀ f, PureOk P Gl f (cp f)) (hG : HasG Gl V.imm w) (hi : Inv V L σ w) (he : EnvRel V w env a.tmps) {c : Call} {r : Operand} {name : String} {qs : List Opd} (ho : o.op = .call c) (hc : c.callee = .invoke r name)
    (hq : opds (r :: c.args.toList) = some qs) (hs : callMSem cp (methodTbl P name P.types.size) (qs.map (Opd.val env)) = some d) : OpWp P o a w (Res V w L σ d) := by
  have h1 := opds_rel (a := a) he hq
  unfold callMSem at hs
  split at hs
  · rename_i t d0 xs exs
    rw [exs] at h1
    simp only [List.map_cons, VRels] at h1
    obtain ⟨v0, us, e0, ⟨u0, hu0, hr0⟩, hrs⟩ := h1
    simp only [List.cons.injEq] at e0
    obtain ⟨e0, rfl⟩ := e0
    split at hs
    · rename_i f hf
      simp only [Option.bind_eq_some_iff, Option.map_eq_some_iff] at hs
      obtain ⟨ys, hys, r', hr, rfl⟩ := hs
      have hargs : VRels V w 0 (d0 :: xs) (u0 :: c.args.toList.map a.eval) := by simp only [VRels]; exact ⟨_, _, rfl, hr0, hrs⟩
      obtain ⟨hcall, hC⟩ := hcp f V.imm w ys _ r' (fun b n => hi.imm_lt) hG (sealed_args hi hargs hys) hr
      refine OpWp.call (exec_callM ho hc (by rw [e0, hu0]) (methodTbl_get hf) hcall) (hC.mono ?_)
      rintro e w' ⟨v, rfl, hb, hrel⟩
      obtain ⟨V', ha, hinv, -, hV⟩ := hi.afterPure hb
      refine ⟨v, rfl, V', ha, hinv, ?_⟩
      unfold HRel at hrel
      split at hrel
      · rename_i sz es
        obtain ⟨b, cap, cc, el, rfl, g1, g2, g3, g4, g5⟩ := hrel
        simp only [DVal.stale, VRel]
        exact ⟨.inl (by omega), b, 0, cap, rfl, g4, ⟨by omega, fun e => by omega, fun e => by omega⟩, g5.at fun b n hn => hV b n (newI_weaken hn)⟩
      · rename_i hne
        have hst : r'.stale = r' := by
          unfold DVal.stale
          split
          · rename_i pt sz es
            exfalso
            simp only [VRel] at hrel
            rcases hrel.1 with hh | ⟨hh, -⟩
            · omega
            · subst hh; exact hne _ _ rfl
          · rfl
        rw [hst]
        exact HRel.at hrel hV
    · cases hs
  · cases hs
theorem callF_sound {cp : Nat → List DVal → Option DVal} (hcp : ∀ f, PureOk P Gl f (cp f)) (hG : HasG Gl V.imm w) (hi : Inv V L σ w) (he : EnvRel V w env a.tmps) {c : Call} {f : FuncId} {qs : List Opd} {σ' : Sto} (ho : o.op = .call c) (hc : c.callee = .value (.func f))
    (hq : opds c.args.toList = some qs) (hs : ((sealVals (qs.map (Opd.val env))).bind fun ys => (cp f ys).map (importVal σ)) = some (d, σ')) : OpWp P o a w (Res V w L σ' d) := by
  have h1 := opds_rel (a := a) he hq
  simp only [Option.bind_eq_some_iff, Option.map_eq_some_iff] at hs
  obtain ⟨ys, hys, r, hr, hd⟩ := hs
  obtain ⟨hcall, hC⟩ := hcp f V.imm w ys _ r (fun b n => hi.imm_lt) hG (sealed_args hi h1 hys) hr
  refine OpWp.call (exec_call ho hc hcall) (hC.mono ?_)
  rintro e w' ⟨v, rfl, hb, hrel⟩
  unfold HRel at hrel
  split at hrel
  · rename_i sz es
    obtain ⟨b, cap, cc, el, rfl, g1, g2, g3, g4, g5⟩ := hrel
    simp only [importVal, Prod.mk.injEq] at hd
    obtain ⟨rfl, rfl⟩ := hd
    have hk : es.length * sz ≤ cc.size := by rw [g3]; exact Nat.mul_le_mul_right _ g4
    obtain ⟨V', ha, hinv, -, hV, e1, e2, e3⟩ := hi.afterFresh hb g1 g2 hk
    refine ⟨_, rfl, V', ha, hinv, ?_⟩
    simp only [VRel]
    exact ⟨.inl (by omega), b, 0, cap, rfl, g4, ⟨by omega, fun e => by omega, fun _ => ⟨by omega, by simp [e3], fun _ => ⟨by simpa using e2, rfl, cc, el, g2, g3⟩⟩⟩, by simpa [emode] using g5.at hV⟩
  · rename_i hne
    obtain ⟨V', ha, hinv, -, hV⟩ := hi.afterPure hb
    have hst : importVal σ r = (r, σ) := by
      unfold importVal
      split
      · rename_i pt sz es
        exfalso
        simp only [VRel] at hrel
        rcases hrel.1 with hh | ⟨hh, -⟩
        · omega
        · subst hh; exact hne _ _ rfl
      · rfl
    rw [hst] at hd
    simp only [Prod.mk.injEq] at hd
    obtain ⟨rfl, rfl⟩ := hd
    exact ⟨v, rfl, V', ha, hinv, HRel.at hrel hV⟩
theorem snapCell_rel (hi : Inv V L σ w) {V2 : Vw} (hI : ∀ b n, V.imm b n → V2.imm b n) (hO : ∀ b n, (V.tag b).1 = 3 → V2.imm b n) {x y : DVal} {v : Value} (hx : VRel V w 0 x v) (hs : x.snapCell σ = some y) : VRel V2 w 2 y v := by
  have other : x.sealCell = some y → VRel V2 w 2 y v := fun h => VRel.ext (V := V) (w := w) (fun b n hn => ⟨hI b n hn, rfl⟩) _ _ _ (fun e => by omega) (fun e => by omega) (sealCell_rel hx h)
  cases x
  case mslice sz id off len cap =>
    simp only [DVal.snapCell, Option.map_eq_some_iff] at hs
    obtain ⟨es, hes, rfl⟩ := hs
    simp only [VRel] at hx ⊢
    obtain ⟨-, hid, c, rfl, hc, -⟩ := hx
    obtain ⟨vs, a1, a2, a3, a4, a5, a6⟩ := snapM_rel hi hid hes
    subst a2
    refine ⟨.inr ⟨trivial, by omega⟩, V.phi id, off, c, rfl, hc, ⟨by omega, fun e => by omega, fun e => by omega⟩, ?_⟩
    exact RowsRel.mk a1 (fun i _ => hO _ _ (by rw [(hi.obj id hid).1 (snapM_ne hes)])) (VRels.ext (V := V) (w := w) (fun b n hn => ⟨hI b n hn, rfl⟩) _ _ _ (fun e => by simp [emode] at e) (fun e => by simp [emode] at e) (by simpa [emode] using a3))
      (fun i u hu => ⟨a4 i u hu, a5 u (List.mem_of_getElem? hu)⟩)
  all_goals exact other hs
theorem snapCells_rel (hi : Inv V L σ w) {V2 : Vw} (hI : ∀ b n, V.imm b n → V2.imm b n) (hO : ∀ b n, (V.tag b).1 = 3 → V2.imm b n) : ∀ {xs ys : List DVal} {vs : List Value}, VRels V w 0 xs vs → snapCells σ xs = some ys → VRels V2 w 2 ys vs
  | [], _, _, h, hs => by simp only [snapCells, Option.some.injEq] at hs; subst hs; simpa only [VRels] using h
  | d :: ds, _, _, h, hs => by
    simp only [snapCells] at hs
    split at hs
    · rename_i e es h1 h2
      simp only [Option.some.injEq] at hs
      subst hs
      simp only [VRels] at h ⊢
      obtain ⟨v, us, rfl, h3, h4⟩ := h
      exact ⟨v, us, rfl, snapCell_rel hi hI hO h3 h1, snapCells_rel hi hI hO h4 h2⟩
    · cases hs
theorem snapVal_rel (hi : Inv V L σ w) {V2 : Vw} (hI : ∀ b n, V.imm b n → V2.imm b n) (hO : ∀ b n, (V.tag b).1 = 3 → V2.imm b n) {x y : DVal} {v : Value} (h : VRel V w 0 x v) (hs : x.snapVal σ = some y) : VRel V2 w 2 y v := by
  cases x with
  | agg cs =>
    simp only [DVal.snapVal, Option.map_eq_some_iff] at hs
    obtain ⟨es, h1, rfl⟩ := hs
    simp only [VRel] at h ⊢
    obtain ⟨vs, rfl, h2⟩ := h
    exact ⟨vs, rfl, snapCells_rel hi hI hO h2 h1⟩
  | _ => exact snapCell_rel hi hI hO h hs
theorem snapVals_rel (hi : Inv V L σ w) {V2 : Vw} (hI : ∀ b n, V.imm b n → V2.imm b n) (hO : ∀ b n, (V.tag b).1 = 3 → V2.imm b n) : ∀ {xs ys : List DVal} {vs : List Value}, VRels V w 0 xs vs → snapVals σ xs = some ys → VRels V2 w 2 ys vs
  | [], _, _, h, hs => by simp only [snapVals, Option.some.injEq] at hs; subst hs; simpa only [VRels] using h
  | d :: ds, _, _, h, hs => by
    simp only [snapVals] at hs
    split at hs
    · rename_i e es h1 h2
      simp only [Option.some.injEq] at hs
      subst hs
      simp only [VRels] at h ⊢
      obtain ⟨v, us, rfl, h3, h4⟩ := h
      exact ⟨v, us, rfl, snapVal_rel hi hI hO h3 h1, snapVals_rel hi hI hO h4 h2⟩
    · cases hs
theorem callS_sound {cp : Nat → List DVal → Option DVal} (hcp : ∀ f, PureOk P Gl f (cp f)) (hG : HasG Gl V.imm w) (hi : Inv V L σ w) (he : EnvRel V w env a.tmps) {c : Call} {f : FuncId} {qs : List Opd} {σ' : Sto} (ho : o.op = .call c) (hc : c.callee = .value (.func f))
    (hq : opds c.args.toList = some qs) (hs : callSSem cp f σ (qs.map (Opd.val env)) = some (d, σ')) : OpWp P o a w (Res V w L σ' d) := by
  have h1 := opds_rel (a := a) he hq
  simp only [callSSem, Option.bind_eq_some_iff] at hs
  obtain ⟨ys, hys, r, hr, hs⟩ := hs
  have hargs : VRels (VI (fun b _ => b < w.heap.size) w.heap.size) w 2 ys (c.args.toList.map a.eval) :=
    snapVals_rel hi (fun b n hn => VI_imm.2 ⟨hi.imm_lt hn, hi.imm_lt hn⟩) (fun b n hn => by
      have := (hi.tag b (by rw [hn]; simp)).2
      exact VI_imm.2 ⟨this, this⟩) h1 hys
  obtain ⟨hcall, hC⟩ := hcp f (fun b _ => b < w.heap.size) w ys _ r (fun b n h => h) (hG.ext fun b n hn => ⟨hi.imm_lt hn, rfl⟩) hargs hr
  refine OpWp.call (exec_call ho hc hcall) (hC.mono ?_)
  rintro e w' ⟨v, rfl, hb, hrel⟩
  unfold snapRes at hs
  split at hs
  · rename_i sz es
    split at hs
    · rename_i hpl
      simp only [importVal, Option.some.injEq, Prod.mk.injEq] at hs
      obtain ⟨rfl, rfl⟩ := hs
      simp only [HRel] at hrel
      obtain ⟨b, cap, cc, el, rfl, g1, g2, g3, g4, g5⟩ := hrel
      have hk : es.length * sz ≤ cc.size := by rw [g3]; exact Nat.mul_le_mul_right _ g4
      obtain ⟨V', ha, hinv, -, hV, e1, e2, e3⟩ := hi.afterFresh hb g1 g2 hk
      refine ⟨_, rfl, V', ha, hinv, ?_⟩
      simp only [VRel]
      refine ⟨.inl (by omega), b, 0, cap, rfl, g4, ⟨by omega, fun e => by omega, fun _ => ⟨by omega, by simp [e3], fun _ => ⟨by simpa using e2, rfl, cc, el, g2, g3⟩⟩⟩, ?_⟩
      refine rowsPlain_rel (fun n hn => hV b n ?_) hpl g5
      rcases (VI_imm.1 hn).2 with hh | hh
      · omega
      · exact .inr hh
    · cases hs
  · rename_i hne
    split at hs
    · rename_i hpl
      simp only [Option.some.injEq, Prod.mk.injEq] at hs
      obtain ⟨rfl, rfl⟩ := hs
      obtain ⟨V', ha, hinv, -, -⟩ := hi.afterPure hb
      refine ⟨v, rfl, V', ha, hinv, ?_⟩
      unfold HRel at hrel
      split at hrel
      · exact absurd rfl (hne _ _)
      · exact plainRes_rel hpl hrel
    · cases hs
def Vw.callee (V : Vw) : Vw := { V with tag := fun b => if (V.tag b).1 = 2 then (0, 0) else V.tag b, ep := fun _ => 0 }
def Vw.back (V V' : Vw) : Vw := { V' with tag := fun b => if (V.tag b).1 = 2 then V.tag b else if (V'.tag b).1 = 2 then (0, 0) else V'.tag b, ep := V.ep, lam := V.lam }
theorem callee_imm (V : Vw) {b n : Nat} (h : V.imm b n) : V.callee.imm b n := by
  unfold Vw.imm at h ⊢
  rcases h with h | ⟨h1, h2⟩
  · exact .inl h
  · refine .inr ⟨h1, ?_⟩
    simp only [Vw.callee]
    rcases h2 with h2 | ⟨h2, h3⟩
    · rw [if_neg (by omega)]; exact .inl h2
    · rw [if_neg (by omega)]; exact .inr ⟨h2, h3⟩
theorem callee_rel {ds : List DVal} {vs : List Value} (h : VRels V w 1 ds vs) : VRels V.callee w 1 ds vs :=
  VRels.ext (V := V) (w := w) (fun b n hn => ⟨callee_imm V hn, rfl⟩) _ _ _ (fun _ => ⟨Nat.le_refl _, fun _ _ => rfl, Nat.le_refl _, fun _ _ => Nat.le_refl _, fun _ _ _ => ⟨rfl, fun c el h => ⟨c, h, rfl⟩⟩, fun _ c _ h => ⟨c, h, rfl⟩⟩) (fun e => by omega) h
theorem Inv.callee (h : Inv V L σ w) : Inv V.callee noRoots σ w := by
  have hI : ExtI V w V.callee w := fun b n hn => ⟨callee_imm V hn, rfl⟩
  have hS : ExtS V w V.callee w := ⟨Nat.le_refl _, fun _ _ => rfl, Nat.le_refl _, fun _ _ => Nat.le_refl _, fun _ _ _ => ⟨rfl, fun c el h => ⟨c, h, rfl⟩⟩, fun _ c _ h => ⟨c, h, rfl⟩⟩
  constructor
  · exact h.hB
  · intro b hb
    simp only [Vw.callee] at hb
    split at hb
    · simp at hb
    · exact h.tag b hb
  · intro r; rfl
  · intro r hr; simp [Vw.callee] at hr
  · exact h.nobj
  · intro id hid
    obtain ⟨k1, k2⟩ := h.obj id hid
    refine ⟨fun hne => ?_, .quiet h hid hI hS (fun m _ _ htm _ => ⟨rfl, by simp only [Vw.callee]; rw [if_neg (by rw [htm]; simp)]⟩) rfl⟩
    show (if (V.tag (V.phi id)).1 = 2 then (0, 0) else V.tag (V.phi id)) = _
    rw [k1 hne, if_neg (by simp)]
  · exact h.ntok
  · exact h.fr
  · intro b h4
    show ((if (V.tag b).1 = 2 then (0, 0) else V.tag b)).2 < V.ntok
    simp only [Vw.callee] at h4
    split at h4
    · simp at h4
    · rename_i e; rw [if_neg e]; exact h.tag4 b h4
  · intro g hg
    obtain ⟨k1, k2⟩ := h.tok g hg
    refine ⟨?_, k2⟩
    show (if (V.tag (V.tb g)).1 = 2 then (0, 0) else V.tag (V.tb g)) = _
    rw [k1, if_neg (by simp)]
  · exact h.hid
  · intro r hr; simp [Vw.callee] at hr
theorem Inv.back {V' : Vw} {w' : World} {σ' : Sto} (h : Inv V L σ w) (ha : Adv V.callee w V' w') (h' : Inv V' noRoots σ' w') :
    Adv V w (V.back V') w' ∧ Inv (V.back V') L σ' w' ∧ ∀ d v, VRel V' w' 1 d v → VRel (V.back V') w' 0 d v := by
  have h2 : ∀ b, (V.tag b).1 = 2 → (V'.tag b).1 = 0 ∧ w'.heap[b]? = w.heap[b]? := fun b hb => by
    have hlt := (h.tag b (by omega)).2
    have h0 : (V.callee.tag b).1 = 0 := by simp [Vw.callee, hb]
    exact ⟨ha.zero b hlt h0, ha.frame b hlt h0⟩
  have himm : ∀ b n, V'.imm b n → (V.back V').imm b n := fun b n hn => by
    unfold Vw.imm at hn ⊢
    rcases hn with hn | ⟨h1, hn⟩
    · exact .inl hn
    · refine .inr ⟨h1, ?_⟩
      have hne : (V'.tag b).1 ≠ 0 ∧ (V'.tag b).1 ≠ 2 := by rcases hn with hn | ⟨hn, -⟩ <;> omega
      have hv : (V.back V').tag b = V'.tag b := by
        simp only [Vw.back]
        rw [if_neg (fun e => hne.1 (h2 b e).1), if_neg hne.2]
      rw [hv]
      exact hn
  have hI : ExtI V' w' (V.back V') w' := fun b n hn => ⟨himm b n hn, rfl⟩
  have hS : ExtS V' w' (V.back V') w' := ⟨Nat.le_refl _, fun _ _ => rfl, Nat.le_refl _, fun _ _ => Nat.le_refl _, fun _ _ _ => ⟨rfl, fun c el h => ⟨c, h, rfl⟩⟩, fun _ c _ h => ⟨c, h, rfl⟩⟩
  have hkeep : ∀ b, (V'.tag b).1 ≠ 0 → (V'.tag b).1 ≠ 2 → (V.back V').tag b = V'.tag b := fun b n0 n2 => by
    simp only [Vw.back]
    rw [if_neg (fun e => n0 (h2 b e).1), if_neg n2]
  have hadv : Adv V w (V.back V') w' := by
    refine ⟨fun b n hn => ⟨himm b n (ha.ei b n (callee_imm V hn)).1, (ha.ei b n (callee_imm V hn)).2⟩, ⟨ha.er.nobj, ha.er.phi, ha.er.ntok, ha.er.fr, ha.er.tb, ha.er.cell⟩, ⟨fun _ => Nat.le_refl _, fun _ _ _ => rfl⟩, ha.B, fun b hlt h0 => ?_, fun b hlt h0 => ?_, ha.size, ha.os, ha.tape, ha.output, ha.I0⟩
    · have hc : (V.callee.tag b).1 = 0 := by simp [Vw.callee, h0]
      have := ha.zero b hlt hc
      simp only [Vw.back]
      rw [if_neg (by omega), if_neg (by omega)]
      exact this
    · have hc : (V.callee.tag b).1 = 0 := by simp [Vw.callee, h0]
      exact ha.frame b hlt hc
  refine ⟨hadv, ?_, fun d v hv => (VRel.ext hI d 1 v (fun _ => hS) (fun e => by omega) hv).open'⟩
  constructor
  · show V'.B ≤ _
    rw [ha.B]
    have := h.hB; have := ha.size; show V.B ≤ _; omega
  · intro b hb
    simp only [Vw.back] at hb
    split at hb
    · have := h.tag b hb
      have hs := ha.size
      exact ⟨by show V'.B ≤ b; rw [ha.B]; exact this.1, by omega⟩
    · split at hb
      · simp at hb
      · exact h'.tag b hb
  · exact h.ep
  · intro r hr
    have ht := (h.root r hr).1
    refine ⟨?_, (h.root r hr).2.ext hadv.ei hadv.er (h.hrt r hr) (h2 _ (by show (V.tag (V.lam r)).1 = 2; rw [ht])).2⟩
    show (if (V.tag (V.lam r)).1 = 2 then V.tag (V.lam r) else _) = _
    rw [if_pos (by rw [ht]), ht]
  · exact h'.nobj
  · intro id hid
    obtain ⟨k1, k2⟩ := h'.obj id hid
    refine ⟨fun hne => ?_, .quiet h' hid hI hS (fun m _ _ htm _ => ⟨rfl, hkeep _ (by rw [htm]; simp) (by rw [htm]; simp)⟩) rfl⟩
    show (V.back V').tag (V'.phi id) = _
    rw [hkeep _ (by rw [k1 hne]; simp) (by rw [k1 hne]; simp), k1 hne]
  · exact h'.ntok
  · exact h'.fr
  · intro b h4
    show ((V.back V').tag b).2 < V'.ntok
    have hn : (V'.tag b).1 = 4 := by
      simp only [Vw.back] at h4
      split at h4
      · omega
      · split at h4
        · simp at h4
        · exact h4
    rw [hkeep b (by omega) (by omega)]
    exact h'.tag4 b hn
  · intro g hg
    obtain ⟨k1, k2⟩ := h'.tok g hg
    refine ⟨?_, k2⟩
    show (V.back V').tag (V'.tb g) = _
    rw [hkeep _ (by rw [k1]; simp) (by rw [k1]; simp), k1]
  · exact h'.hid
  · exact h.hrt
theorem callI_sound {ci : Nat → List DVal → Sto → Option (DVal × Sto)} (hci : ∀ f, ImpOk P Gl f (ci f)) (hG : HasG Gl V.imm w) (hi : Inv V L σ w) (he : EnvRel V w env a.tmps) {c : Call} {f : FuncId} {qs : List Opd} {σ' : Sto} (ho : o.op = .call c) (hc : c.callee = .value (.func f))
    (hq : opds c.args.toList = some qs) (hs : (if (qs.map (Opd.val env)).all DVal.okVal then ci f (qs.map (Opd.val env)) σ else none) = some (d, σ')) : OpWp P o a w (Res V w L σ' d) := by
  have h1 := opds_rel (a := a) he hq
  split at hs
  · rename_i hok
    obtain ⟨hcall, hC⟩ := hci f V.callee σ σ' w _ _ d hi.callee (hG.ext fun b n hn => ⟨callee_imm V hn, rfl⟩) (callee_rel (okVals_up h1 hok)) hs
    refine OpWp.call (exec_call ho hc hcall) (hC.mono ?_)
    rintro e w' ⟨v, V', rfl, ha, hinv, hrel⟩
    obtain ⟨b1, b2, b3⟩ := hi.back ha hinv
    exact ⟨v, rfl, V.back V', b1, b2, b3 _ _ hrel⟩
  · cases hs
theorem callV_sound {ci : Nat → List DVal → Sto → Option (DVal × Sto)} (hci : ∀ f, ImpOk P Gl f (ci f)) (hG : HasG Gl V.imm w) (hi : Inv V L σ w) (he : EnvRel V w env a.tmps) {c : Call} {t : Tmp} {qs : List Opd} {σ' : Sto} (ho : o.op = .call c) (hc : c.callee = .value (.tmp t))
    (hq : opds c.args.toList = some qs) (hs : callVSem ci σ (env t :: qs.map (Opd.val env)) = some (d, σ')) : OpWp P o a w (Res V w L σ' d) := by
  have h1 := opds_rel (a := a) he hq
  have h0 := he t
  generalize qs.map (Opd.val env) = xs at h1 hs
  generalize env t = f0 at h0 hs
  unfold callVSem at hs
  split at hs
  · rename_i f caps ys e
    simp only [List.cons.injEq] at e
    obtain ⟨rfl, rfl⟩ := e
    split at hs
    · rename_i hok
      simp only [VRel] at h0
      obtain ⟨-, vs, hv, hcaps⟩ := h0
      obtain ⟨hcall, hC⟩ := hci f V.callee σ σ' w _ _ d hi.callee (hG.ext fun b n hn => ⟨callee_imm V hn, rfl⟩) (callee_rel ((okVals_up h1 hok).append hcaps)) hs
      refine OpWp.call (exec_callV ho hc hv hcall) (hC.mono ?_)
      rintro e w' ⟨v, V', rfl, ha, hinv, hrel⟩
      obtain ⟨b1, b2, b3⟩ := hi.back ha hinv
      exact ⟨v, rfl, V.back V', b1, b2, b3 _ _ hrel⟩
    · cases hs
  · cases hs
end
end Go.Proofs.YtklepphkbbjbjaaDoor
namespace Go.Proofs.YtklepphkbbjbjaaDoor
set_option linter.unusedVariables false
set_option linter.unusedSimpArgs false
open Go Go.RowKit
section
variable {cp : Nat → List DVal → Option DVal} {ci : Nat → List DVal → Sto → Option (DVal × Sto)} {dst : Option Nat} {xs : List Opd} {st st' : St}
theorem ex_p {po : POp} (h : execOp' cp ci dst (.p po) xs st = some st') : ∃ d, po.sem cp (xs.map (Opd.val st.env)) = some d ∧ st' = st.put dst d := by
  simp only [execOp', Option.map_eq_some_iff] at h
  obtain ⟨d, h1, rfl⟩ := h
  exact ⟨d, h1, rfl⟩
theorem ex_lr {r : Nat} {sz : Option Nat} (h : execOp' cp ci dst (.lr r sz) xs st = some st') : ∃ d, readLoc r sz (st.loc r) (xs.map (Opd.val st.env)) = some d ∧ st' = st.put dst d := by
  simp only [execOp', Option.map_eq_some_iff] at h
  obtain ⟨d, h1, rfl⟩ := h
  exact ⟨d, h1, rfl⟩
theorem ex_lw {r : Nat} {lo : LOp} (h : execOp' cp ci dst (.lw r lo) xs st = some st') : ∃ d m, lo.sem r (st.loc r) (xs.map (Opd.val st.env)) = some (d, m) ∧ st' = { st with loc := upd st.loc r m }.put dst d := by
  simp only [execOp', Option.map_eq_some_iff] at h
  obtain ⟨⟨d, m⟩, h1, rfl⟩ := h
  exact ⟨d, m, h1, rfl⟩
theorem ex_s {w : Bool} {so : SOp} (h : execOp' cp ci dst (.s w so) xs st = some st') : ∃ d σ', so.sem cp ci st.sto (xs.map (Opd.val st.env)) = some (d, σ') ∧ st' = { st with sto := σ' }.put dst d := by
  simp only [execOp', Option.map_eq_some_iff] at h
  obtain ⟨⟨d, m⟩, h1, rfl⟩ := h
  exact ⟨d, m, h1, rfl⟩
end
section
variable {P : Program} {Gl : List (Nat × Nat × Option Value)} {h : Hint} {V : Vw} {w : World} {env : Nat → DVal} {L : Nat → Nat × DVal} {σ : Sto} {a : Act} {o : Oper} {cp : Nat → List DVal → Option DVal} {ci : Nat → List DVal → Sto → Option (DVal × Sto)}
def OpGoal (P : Program) (V : Vw) (w : World) (a : Act) (o : Oper) (dst : Option Nat) (env : Nat → DVal) (st' : St) : Prop :=
  ∃ d L' σ', st' = ({ env := env, loc := L', sto := σ' } : St).put dst d ∧ OpWp P o a w (Res V w L' σ' d)
theorem goal_p {dst : Option Nat} {po : POp} {xs : List Opd} {st' : St} (hs : execOp' cp ci dst (.p po) xs { env := env, loc := L, sto := σ } = some st')
    (hg : ∀ d, po.sem cp (xs.map (Opd.val env)) = some d → OpWp P o a w (Res V w L σ d)) : OpGoal P V w a o dst env st' := by
  obtain ⟨d, h1, rfl⟩ := ex_p hs
  exact ⟨d, L, σ, rfl, hg d h1⟩
theorem goal_lw {dst : Option Nat} {r : Nat} {lo : LOp} {xs : List Opd} {st' : St} (hs : execOp' cp ci dst (.lw r lo) xs { env := env, loc := L, sto := σ } = some st')
    (hg : ∀ d m, lo.sem r (L r) (xs.map (Opd.val env)) = some (d, m) → OpWp P o a w (Res V w (upd L r m) σ d)) : OpGoal P V w a o dst env st' := by
  obtain ⟨d, m, h1, rfl⟩ := ex_lw hs
  exact ⟨d, _, σ, rfl, hg d m h1⟩
theorem goal_s {dst : Option Nat} {b : Bool} {so : SOp} {xs : List Opd} {st' : St} (hs : execOp' cp ci dst (.s b so) xs { env := env, loc := L, sto := σ } = some st')
    (hg : ∀ d σ', so.sem cp ci σ (xs.map (Opd.val env)) = some (d, σ') → OpWp P o a w (Res V w L σ' d)) : OpGoal P V w a o dst env st' := by
  obtain ⟨d, m, h1, rfl⟩ := ex_s hs
  exact ⟨d, L, _, rfl, hg d m h1⟩
theorem goal_lr {dst : Option Nat} {r : Nat} {sz : Option Nat} {xs : List Opd} {st' : St} (hs : execOp' cp ci dst (.lr r sz) xs { env := env, loc := L, sto := σ } = some st')
    (hg : ∀ d, readLoc r sz (L r) (xs.map (Opd.val env)) = some d → OpWp P o a w (Res V w L σ d)) : OpGoal P V w a o dst env st' := by
  obtain ⟨d, h1, rfl⟩ := ex_lr hs
  exact ⟨d, L, σ, rfl, hg d h1⟩
theorem bin_goal {op : BinOp} {t ty : TypeId} {x y : Operand} {dst : Option Nat} {iop : IOp} {xs : List Opd} {st' : St} (hi : Inv V L σ w) (he : EnvRel V w env a.tmps) (ho : o.op = .binOp op t x y ty)
    (hc : compBin P op t x y = some (iop, xs)) (hs : execOp' cp ci dst iop xs { env := env, loc := L, sto := σ } = some st') : OpGoal P V w a o dst env st' := by
  have plain : ∀ {iop : IOp} {xs : List Opd}, two x y (.p (.bin op)) = some (iop, xs) → execOp' cp ci dst iop xs { env := env, loc := L, sto := σ } = some st' → OpGoal P V w a o dst env st' := by
    intro iop xs hc hs
    obtain ⟨p, q, hp, hq, rfl, rfl⟩ := two_inv hc
    exact goal_p hs fun d hd => bin_sound hi he ho hp hq (by simpa [POp.sem] using hd)
  have eqs : (op = .eql ∨ op = .neq) → (match P.underlying t with
    | some .bool => two x y (.p (.eqb (isNeq op)))
    | some (.int _) | some .string => two x y (.p (.bin op))
    | some (.struct _) | some (.array _ _) => if P.eqGuardType P.depth t then none else (eqKinds P 100 t).bind fun ks => two x y (.p (.eqa (isNeq op) ks))
    | some d => match nilKind d y with
      | some k => one x (.p (.isnil k (isNeq op)))
      | none => none
    | none => none) = some (iop, xs) → OpGoal P V w a o dst env st' := by
    intro hop hc
    split at hc
    · rename_i hu
      obtain ⟨p, q, hp, hq, rfl, rfl⟩ := two_inv hc
      exact goal_p hs fun d hd => eqb_sound hi he ho hp hq hu hop (by simpa [POp.sem] using hd)
    · exact plain hc hs
    · exact plain hc hs
    · rename_i fs hu
      split at hc
      · cases hc
      · rename_i hg
        simp only [Option.bind_eq_some_iff] at hc
        obtain ⟨ks, hk, hc⟩ := hc
        obtain ⟨p, q, hp, hq, rfl, rfl⟩ := two_inv hc
        exact goal_p hs fun d hd => eqa_sound hi he ho hp hq hk (by simpa using hg) (.inl ⟨fs, hu⟩) hop (by simpa [POp.sem] using hd)
    · rename_i n e hu
      split at hc
      · cases hc
      · rename_i hg
        simp only [Option.bind_eq_some_iff] at hc
        obtain ⟨ks, hk, hc⟩ := hc
        obtain ⟨p, q, hp, hq, rfl, rfl⟩ := two_inv hc
        exact goal_p hs fun d hd => eqa_sound hi he ho hp hq hk (by simpa using hg) (.inr ⟨n, e, hu⟩) hop (by simpa [POp.sem] using hd)
    · rename_i td hu
      split at hc
      · rename_i k hk
        obtain ⟨q, hq, rfl, rfl⟩ := one_inv hc
        exact goal_p hs fun d hd => isnil_sound hi he ho hq hu hk hop (by simpa [POp.sem] using hd)
      · cases hc
    · cases hc
  unfold compBin at hc
  split at hc
  · exact eqs (.inl rfl) hc
  · exact eqs (.inr rfl) hc
  · exact plain hc hs
theorem call_goal {c : Call} {dst : Option Nat} {iop : IOp} {xs : List Opd} {st' : St} (hcp : ∀ f, PureOk P Gl f (cp f)) (hci : ∀ f, ImpOk P Gl f (ci f)) (hG : HasG Gl V.imm w) (hi : Inv V L σ w) (he : EnvRel V w env a.tmps) (ho : o.op = .call c)
    (hc : compOp P h dst (.call c) = some (iop, xs)) (hs : execOp' cp ci dst iop xs { env := env, loc := L, sto := σ } = some st') : OpGoal P V w a o dst env st' := by
  unfold compOp at hc
  simp only at hc
  split at hc
  · rename_i r name hcal
    simp only [Option.map_eq_some_iff, Prod.mk.injEq] at hc
    obtain ⟨qs, hq, rfl, rfl⟩ := hc
    exact goal_p hs fun d hd => callM_sound hcp hG hi he ho hcal hq (by simpa [POp.sem] using hd)
  · rename_i f hcal
    simp only [Option.map_eq_some_iff, Prod.mk.injEq] at hc
    obtain ⟨qs, hq, hiop, rfl⟩ := hc
    split at hiop
    · have pure : ∀ {st' : St}, execOp' cp ci dst (.p (.call f)) qs { env := env, loc := L, sto := σ } = some st' → OpGoal P V w a o dst env st' := fun hs => goal_p hs fun d hd => callP_sound hcp hG hi he ho hcal hq (by simpa [POp.sem] using hd)
      split at hiop
      · split at hiop
        · subst hiop
          exact goal_s hs fun d σ' hd => callS_sound hcp hG hi he ho hcal hq (by simpa [SOp.sem] using hd)
        · subst hiop
          exact pure hs
      · subst hiop
        exact pure hs
    · subst hiop
      exact goal_s hs fun d σ' hd => callF_sound hcp hG hi he ho hcal hq (by simpa [SOp.sem] using hd)
    · subst hiop
      exact goal_s hs fun d σ' hd => callI_sound hci hG hi he ho hcal hq (by simpa [SOp.sem] using hd)
  · rename_i t hcal
    simp only [Option.map_eq_some_iff, Prod.mk.injEq] at hc
    obtain ⟨qs, hq, rfl, rfl⟩ := hc
    exact goal_s hs fun d σ' hd => callV_sound hci hG hi he ho hcal hq (by simpa [SOp.sem, Opd.val] using hd)
  · rename_i hcal
    split at hc
    · rename_i x hargs hu
      have hx : c.args = #[x] := by apply Array.ext'; simpa using hargs
      cases ht : c.argTypes[0]? with
      | none => rw [ht] at hu; simp at hu
      | some t =>
        rw [ht] at hu
        simp only [Option.bind_some] at hu
        obtain ⟨q, hq, rfl, rfl⟩ := one_inv hc
        exact goal_p hs fun d hd => lenStr_sound hi he ho hcal hx ht hu hq (by simpa [POp.sem] using hd)
    · rename_i x e hargs hu
      have hx : c.args = #[x] := by apply Array.ext'; simpa using hargs
      cases ht : c.argTypes[0]? with
      | none => rw [ht] at hu; simp at hu
      | some t =>
        rw [ht] at hu
        simp only [Option.bind_some] at hu
        obtain ⟨q, hq, rfl, rfl⟩ := one_inv hc
        exact goal_p hs fun d hd => lenSl_sound hi he ho hcal hx ht hu hq (by simpa [POp.sem] using hd)
    · rename_i x n e hargs hu
      have hx : c.args = #[x] := by apply Array.ext'; simpa using hargs
      cases ht : c.argTypes[0]? with
      | none => rw [ht] at hu; simp at hu
      | some t =>
        rw [ht] at hu
        simp only [Option.bind_some] at hu
        obtain ⟨q, hq, rfl, rfl⟩ := one_inv hc
        exact goal_p hs fun d hd => lenArr_sound hi ho hcal hx ht hu (by simpa [POp.sem] using hd)
    · rename_i x k e hargs hu
      have hx : c.args = #[x] := by apply Array.ext'; simpa using hargs
      cases ht : c.argTypes[0]? with
      | none => rw [ht] at hu; simp at hu
      | some t =>
        rw [ht] at hu
        simp only [Option.bind_some] at hu
        obtain ⟨q, hq, rfl, rfl⟩ := one_inv hc
        exact goal_s hs fun d σ' hd => lenM_sound hi he ho hcal hx ht hu hq (by simpa [SOp.sem] using hd)
    · cases hc
  · rename_i hcal
    split at hc
    · rename_i s x t u hargs htypes
      have hx : c.args = #[s, x] := by apply Array.ext'; simpa using hargs
      have htt : c.argTypes = #[t, u] := by apply Array.ext'; simpa using htypes
      split at hc
      · rename_i e hu
        split at hc
        · rename_i i hi1
          split at hc
          · rename_i z hz
            split at hc
            · rename_i hcond
              obtain ⟨rfl, h1, h2, h3⟩ := hcond
              obtain ⟨p, q, hp, hq, hiop, rfl⟩ := two_inv hc
              have usual : ∀ {st' : St}, execOp' cp ci dst (.s true (.app (h.pt e || hasPtr P 20 e) i.size)) [p, q] { env := env, loc := L, sto := σ } = some st' → OpGoal P V w a o dst env st' := fun hs => goal_s hs fun d σ' hd => app_sound hi he ho hcal hx htt hu hi1 h1 h2 hz h3 hp hq (by simpa [SOp.sem] using hd)
              split at hiop
              · split at hiop
                · subst hiop
                  exact goal_s hs fun d σ' hd => appM_sound hi he ho hcal hx htt hu hi1 h2 hz h3 hp hq (by simpa [SOp.sem] using hd)
                · split at hiop
                  · subst hiop
                    exact goal_s hs fun d σ' hd => appX_sound hi he ho hcal hx htt hu hi1 h2 hz h3 hp hq (by simpa [SOp.sem] using hd)
                  · subst hiop
                    exact usual hs
              · subst hiop
                exact usual hs
            · cases hc
          · cases hc
        · cases hc
      · cases hc
    · cases hc
  · rename_i hcal
    split at hc
    · rename_i m k kt e ks hargs hkk
      have hx : c.args = #[m, k] := by apply Array.ext'; simpa using hargs
      cases ht : c.argTypes[0]? with
      | none => rw [ht] at hkk; simp at hkk
      | some t =>
        rw [ht] at hkk
        simp only [Option.bind_some] at hkk
        obtain ⟨p, q, hp, hq, rfl, rfl⟩ := two_inv hc
        exact goal_s hs fun d σ' hd => mdel_sound hi he ho hcal hx ht hkk hp hq (by simpa [SOp.sem] using hd)
    · cases hc
  · rename_i hcal
    split at hc
    · rename_i x y hargs
      have hx : c.args = #[x, y] := by apply Array.ext'; simpa using hargs
      obtain ⟨p, q, hp, hq, rfl, rfl⟩ := two_inv hc
      exact goal_p hs fun d hd => mx_sound hi he ho hcal hx hp hq (by simpa [POp.sem] using hd)
    · cases hc
  · rename_i hcal
    split at hc
    · rename_i x y hargs
      have hx : c.args = #[x, y] := by apply Array.ext'; simpa using hargs
      obtain ⟨p, q, hp, hq, rfl, rfl⟩ := two_inv hc
      exact goal_p hs fun d hd => mn_sound hi he ho hcal hx hp hq (by simpa [POp.sem] using hd)
    · cases hc
  · cases hc
theorem op_sound {dst : Option Nat} {iop : IOp} {xs : List Opd} {st' : St} (hcp : ∀ f, PureOk P Gl f (cp f)) (hci : ∀ f, ImpOk P Gl f (ci f)) (hG : HasG Gl V.imm w) (hi : Inv V L σ w) (he : EnvRel V w env a.tmps)
    (hdet : h.rng = false ∨ iop.det = true) (hc : compOp P h dst o.op = some (iop, xs)) (hs : execOp' cp ci dst iop xs { env := env, loc := L, sto := σ } = some st') : OpGoal P V w a o dst env st' := by
  cases ho : o.op with
  | move x =>
    rw [ho] at hc
    obtain ⟨q, hq, rfl, rfl⟩ := one_inv hc
    exact goal_p hs fun d hd => mv_sound hi he (.inl ho) hq (by simpa [POp.sem] using hd)
  | assign x =>
    rw [ho] at hc
    obtain ⟨q, hq, rfl, rfl⟩ := one_inv hc
    exact goal_p hs fun d hd => mv_sound hi he (.inr ho) hq (by simpa [POp.sem] using hd)
  | pick c x y =>
    rw [ho] at hc
    simp only [compOp, Option.map_eq_some_iff, Prod.mk.injEq] at hc
    obtain ⟨qs, hq, rfl, rfl⟩ := hc
    exact goal_p hs fun d hd => pick_sound hi he ho hq (by simpa [POp.sem] using hd)
  | alloc e =>
    rw [ho] at hc
    simp only [compOp] at hc
    split at hc
    · rename_i z d hz
      split at hc <;> simp only [Option.some.injEq, Prod.mk.injEq] at hc <;> obtain ⟨rfl, rfl⟩ := hc
      · exact goal_lw hs fun d m hd => allocL_sound hi ho hz (by simpa [LOp.sem] using hd)
      · exact goal_s hs fun d σ' hd => allocO_sound hi ho hz (by simpa [SOp.sem] using hd)
    · cases hc
  | box t x =>
    rw [ho] at hc
    simp only [compOp] at hc
    split at hc
    · obtain ⟨q, hq, hiop, rfl⟩ := one_inv hc
      split at hiop <;> subst hiop
      · exact goal_lw hs fun d m hd => boxL_sound hi he ho hq (by simpa [LOp.sem] using hd)
      · exact goal_s hs fun d σ' hd => boxO_sound hi he ho hq (by simpa [SOp.sem] using hd)
    · cases hc
  | build t parts =>
    rw [ho] at hc
    simp only [compOp] at hc
    split at hc
    · rename_i fs z hu hz
      split at hc
      · rename_i hall
        split at hc
        · rename_i ps qs hp hq
          simp only [Option.some.injEq, Prod.mk.injEq] at hc
          obtain ⟨rfl, rfl⟩ := hc
          exact goal_p hs fun d hd => build_sound hi he ho hu hz (by simpa only [List.all_eq_true] using hall) hp hq (by simpa [POp.sem] using hd)
        · cases hc
      · cases hc
    · rename_i n e z hu hz
      split at hc
      · rename_i k qs hk hq
        simp only [Option.some.injEq, Prod.mk.injEq] at hc
        obtain ⟨rfl, rfl⟩ := hc
        exact goal_p hs fun d hd => buildA_sound hi he ho hu hz hk hq (by simpa [POp.sem] using hd)
      · cases hc
    · cases hc
  | buildSlice t len parts =>
    rw [ho] at hc
    simp only [compOp] at hc
    split at hc
    · rename_i e hu
      split at hc
      · rename_i i hi1
        split at hc
        · rename_i hcond
          simp only [Bool.and_eq_true, decide_eq_true_eq, beq_iff_eq] at hcond
          obtain ⟨⟨⟨h1, h2⟩, h3⟩, h4⟩ := hcond
          simp only [Option.map_eq_some_iff, Prod.mk.injEq] at hc
          obtain ⟨qs, hq, rfl, rfl⟩ := hc
          exact goal_p hs fun d hd => bslice_sound hi he ho hu hi1 h2 h3 h4 hq (by simpa [POp.sem] using hd)
        · cases hc
      · cases hc
    · cases hc
  | load t x =>
    rw [ho] at hc
    simp only [compOp] at hc
    split at hc
    · rename_i sz hz
      obtain ⟨q, hq, hiop, rfl⟩ := one_inv hc
      split at hiop <;> subst hiop
      · exact goal_s hs fun d σ' hd => ldO_sound hi he ho hq hz (by simpa [SOp.sem] using hd)
      · exact goal_p hs fun d hd => ldE_sound hi he ho hq hz (by simpa [POp.sem] using hd)
      · exact goal_lr hs fun d hd => lr_sound hi he ho hq hz (by simpa using hd)
    · cases hc
  | store t x y =>
    rw [ho] at hc
    simp only [compOp] at hc
    split at hc
    · rename_i n hz
      split at hc
      · obtain ⟨p, q, hp, hq, rfl, rfl⟩ := two_inv hc
        exact goal_s hs fun d σ' hd => stO_sound hi he ho hp hq hz (by simpa [SOp.sem] using hd)
      · cases hc
      · obtain ⟨p, q, hp, hq, rfl, rfl⟩ := two_inv hc
        exact goal_lw hs fun d m hd => stL_sound hi he ho hp hq hz (by simpa [LOp.sem] using hd)
    · cases hc
  | nilCheck x =>
    rw [ho] at hc
    obtain ⟨q, hq, rfl, rfl⟩ := one_inv hc
    exact goal_p hs fun d hd => nilchk_sound hi he ho hq (by simpa [POp.sem] using hd)
  | binOp op t x y ty =>
    rw [ho] at hc
    exact bin_goal hi he ho hc hs
  | unOp op t x =>
    rw [ho] at hc
    obtain ⟨q, hq, rfl, rfl⟩ := one_inv hc
    exact goal_p hs fun d hd => un_sound hi he ho hq (by simpa [POp.sem] using hd)
  | convert s t x =>
    rw [ho] at hc
    simp only [compOp] at hc
    split at hc
    · rename_i k' k h1 h2
      obtain ⟨q, hq, rfl, rfl⟩ := one_inv hc
      exact goal_p hs fun d hd => conv_sound hi he ho hq h1 h2 (by simpa [POp.sem] using hd)
    · rename_i h1 h2
      obtain ⟨q, hq, rfl, rfl⟩ := one_inv hc
      exact goal_p hs fun d hd => convStr_sound hi he ho hq h1 h2 (by simpa [POp.sem] using hd)
    · rename_i e h1 h2
      split at hc
      · rename_i h3
        obtain ⟨q, hq, rfl, rfl⟩ := one_inv hc
        exact goal_p hs fun d hd => convBytes_sound hi he ho hq h1 h3 h2 (by simpa [POp.sem] using hd)
      · cases hc
    · cases hc
  | fieldAddr t x f =>
    rw [ho] at hc
    simp only [compOp] at hc
    split at hc
    · rename_i fl hf
      split at hc
      · rename_i n hz
        obtain ⟨q, hq, rfl, rfl⟩ := one_inv hc
        exact goal_p hs fun d hd => off_sound hi he ho hq hf hz (by simpa [POp.sem] using hd)
      · cases hc
    · cases hc
  | field t x f =>
    rw [ho] at hc
    simp only [compOp] at hc
    split at hc
    · rename_i fl hf
      split at hc
      · rename_i sz hz
        obtain ⟨q, hq, rfl, rfl⟩ := one_inv hc
        exact goal_p hs fun d hd => fld_sound hi he ho hq hf hz (by simpa [POp.sem] using hd)
      · cases hc
    · cases hc
  | indexAddr t x i =>
    rw [ho] at hc
    simp only [compOp] at hc
    split at hc
    · rename_i e hu
      split at hc
      · rename_i sz hz
        obtain ⟨p, q, hp, hq, rfl, rfl⟩ := two_inv hc
        exact goal_p hs fun d hd => idxS_sound hi he ho hp hq hu hz (by simpa [POp.sem] using hd)
      · cases hc
    · rename_i n e hu
      split at hc
      · rename_i sz hz
        obtain ⟨p, q, hp, hq, rfl, rfl⟩ := two_inv hc
        exact goal_p hs fun d hd => idxA_sound hi he ho hp hq hu hz (by simpa [POp.sem] using hd)
      · cases hc
    · cases hc
  | index t x i =>
    rw [ho] at hc
    simp only [compOp] at hc
    split at hc
    · rename_i hu
      obtain ⟨p, q, hp, hq, rfl, rfl⟩ := two_inv hc
      exact goal_p hs fun d hd => idxStr_sound hi he ho hp hq hu (by simpa [POp.sem] using hd)
    · cases hc
  | slice t x lo hi' mx =>
    rw [ho] at hc
    simp only [compOp] at hc
    split at hc
    · rename_i hu
      split at hc
      · rename_i hmx
        have hmx' : mx = none := by simpa using hmx
        subst hmx'
        simp only [Option.map_eq_some_iff, Prod.mk.injEq] at hc
        obtain ⟨qs, hq, rfl, rfl⟩ := hc
        exact goal_p hs fun d hd => slcS_sound hi he ho hu hq (by simpa [POp.sem] using hd)
      · cases hc
    · rename_i e hu
      split at hc
      · rename_i sz hz
        simp only [Option.map_eq_some_iff, Prod.mk.injEq] at hc
        obtain ⟨qs, hq, rfl, rfl⟩ := hc
        exact goal_p hs fun d hd => slcV_sound hi he ho hu hz hq (by simpa [POp.sem] using hd)
      · cases hc
    · cases hc
  | extract x i =>
    rw [ho] at hc
    obtain ⟨q, hq, rfl, rfl⟩ := one_inv hc
    exact goal_p hs fun d hd => ext_sound hi he ho hq (by simpa [POp.sem] using hd)
  | makeFunc fn first captured =>
    rw [ho] at hc
    cases fn <;> simp only [compOp, reduceCtorEq] at hc
    rename_i f
    split at hc
    · rename_i hf
      simp only [Option.map_eq_some_iff, Prod.mk.injEq] at hc
      obtain ⟨qs, hq, rfl, rfl⟩ := hc
      exact goal_p hs fun d hd => mkfunc_sound hi he ho (by simpa using hf) hq (by simpa [POp.sem] using hd)
    · cases hc
  | range t x =>
    rw [ho] at hc
    simp only [compOp] at hc
    split at hc
    · rename_i d hu
      obtain ⟨q, hq, rfl, rfl⟩ := one_inv hc
      exact goal_lw hs fun d m hd => rng_sound hi he ho hu hq (by simpa [LOp.sem] using hd)
    · rename_i hu
      obtain ⟨q, hq, rfl, rfl⟩ := one_inv hc
      exact goal_s hs fun d σ' hd => rngM_sound hi he ho hu hq (by simpa [SOp.sem] using hd)
    · cases hc
  | entry x =>
    rw [ho] at hc
    obtain ⟨q, hq, rfl, rfl⟩ := one_inv hc
    exact goal_s hs fun d σ' hd => entM_sound hi he ho hq (by simpa [SOp.sem] using hd)
  | next it isS =>
    rw [ho] at hc
    cases isS <;> simp only [compOp] at hc
    · exfalso
      split at hc
      · rename_i hr
        obtain ⟨q, hq, rfl, rfl⟩ := one_inv hc
        rcases hdet with hd | hd
        · rw [hr] at hd; cases hd
        · cases hd
      · cases hc
    split at hc
    · obtain ⟨q, hq, rfl, rfl⟩ := one_inv hc
      exact goal_lw hs fun d m hd => next_sound hi he ho hq (by simpa [LOp.sem] using hd)
    · cases hc
  | call c =>
    rw [ho] at hc
    exact call_goal hcp hci hG hi he ho hc hs
  | makeInterface t x =>
    rw [ho] at hc
    simp only [compOp] at hc
    split at hc
    · cases hc
    · rename_i u hni hu
      obtain ⟨q, hq, rfl, rfl⟩ := one_inv hc
      exact goal_p hs fun d hd => mkI_sound hi he ho hq hu (fun m e => hni m e) (by simpa [POp.sem] using hd)
    · cases hc
  | typeAssert x t u ok =>
    rw [ho] at hc
    cases ok <;> simp only [compOp, reduceCtorEq] at hc
    split at hc
    · cases hc
    · rename_i td hni hu
      split at hc
      · rename_i z hz
        obtain ⟨q, hq, rfl, rfl⟩ := one_inv hc
        exact goal_p hs fun d hd => tyA_sound hi he ho hq hu (fun m e => hni m e) hz (by simpa [POp.sem] using hd)
      · cases hc
    · cases hc
  | makeSlice t l c =>
    rw [ho] at hc
    simp only [compOp] at hc
    split at hc
    · rename_i e hu
      split at hc
      · rename_i i hi1
        split at hc
        · rename_i z hz
          split at hc
          · rename_i hcond
            obtain ⟨h1, h2, h3⟩ := hcond
            obtain ⟨p, q, hp, hq, rfl, rfl⟩ := two_inv hc
            exact goal_s hs fun d σ' hd => makeS_sound hi he ho hu hi1 hz h1 h2 h3 hp hq (by simpa [SOp.sem] using hd)
          · cases hc
        · cases hc
      · cases hc
    · cases hc
  | makeMap t r =>
    rw [ho] at hc
    cases r <;> simp only [compOp, reduceCtorEq] at hc
    split at hc
    · simp only [Option.some.injEq, Prod.mk.injEq] at hc
      obtain ⟨rfl, rfl⟩ := hc
      exact goal_s hs fun d σ' hd => mkmap_sound hi ho (by simpa [SOp.sem] using hd)
    · cases hc
  | lookup t x i ok =>
    rw [ho] at hc
    simp only [compOp] at hc
    split at hc
    · rename_i k e ks hkk
      split at hc
      · rename_i z hz
        obtain ⟨p, q, hp, hq, rfl, rfl⟩ := two_inv hc
        exact goal_s hs fun d σ' hd => look_sound hi he ho hkk hz hp hq (by simpa [SOp.sem] using hd)
      · cases hc
    · cases hc
  | mapUpdate t m k v =>
    rw [ho] at hc
    simp only [compOp] at hc
    split at hc
    · rename_i kt e ks hkk
      simp only [Option.map_eq_some_iff, Prod.mk.injEq] at hc
      obtain ⟨qs, hq, rfl, rfl⟩ := hc
      exact goal_s hs fun d σ' hd => mupd_sound hi he (.inl ho) hkk hq (by simpa [SOp.sem] using hd)
    · cases hc
  | insert t m k v =>
    rw [ho] at hc
    simp only [compOp] at hc
    split at hc
    · rename_i kt e ks hkk
      simp only [Option.map_eq_some_iff, Prod.mk.injEq] at hc
      obtain ⟨qs, hq, rfl, rfl⟩ := hc
      exact goal_s hs fun d σ' hd => mupd_sound hi he (.inr ho) hkk hq (by simpa [SOp.sem] using hd)
    · cases hc
  | _ => rw [ho] at hc; simp [compOp] at hc
end
end Go.Proofs.YtklepphkbbjbjaaDoor
namespace Go.Proofs.YtklepphkbbjbjaaDoor
set_option linter.unusedVariables false
set_option linter.unusedSimpArgs false
open Go Go.RowKit
section
variable {cp : Nat → List DVal → Option DVal} {ci : Nat → List DVal → Sto → Option (DVal × Sto)}
def effOp (cp : Nat → List DVal → Option DVal) (ci : Nat → List DVal → Sto → Option (DVal × Sto)) (op : IOp) (xs : List Opd) (st : St) : Option (DVal × Option (Nat × (Nat × DVal)) × Option Sto) :=
  match op with
  | .p o => (o.sem cp (xs.map (Opd.val st.env))).map fun d => (d, none, none)
  | .lr r sz => (readLoc r sz (st.loc r) (xs.map (Opd.val st.env))).map fun d => (d, none, none)
  | .lw r o => (o.sem r (st.loc r) (xs.map (Opd.val st.env))).map fun x => (x.1, some (r, x.2), none)
  | .s _ o => (o.sem cp ci st.sto (xs.map (Opd.val st.env))).map fun x => (x.1, none, if isRd o then none else some x.2)
def eff (cp : Nat → List DVal → Option DVal) (ci : Nat → List DVal → Sto → Option (DVal × Sto)) (o : IOper) (st : St) : Option (DVal × Option (Nat × (Nat × DVal)) × Option Sto) :=
  match o.guard with
  | none => effOp cp ci o.op o.xs st
  | some (g, b) => if (st.env g).isB b then effOp cp ci o.op o.xs st else some (.undef, none, none)
def locPut (L : Nat → Nat × DVal) : Option (Nat × (Nat × DVal)) → Nat → Nat × DVal
  | none => L
  | some (r, m) => upd L r m
def envPut (env : Nat → DVal) : Option Nat → DVal → Nat → DVal
  | none, _ => env
  | some d, v => upd env d v
def applyEff (dst : Option Nat) (st : St) (x : DVal × Option (Nat × (Nat × DVal)) × Option Sto) : St :=
  { env := envPut st.env dst x.1, loc := locPut st.loc x.2.1, sto := x.2.2.getD st.sto }
theorem ldOSem_same {σ σ' : Sto} {sz : Option Nat} {xs : List DVal} {d : DVal} (h : ldOSem σ sz xs = some (d, σ')) : σ' = σ := by
  unfold ldOSem at h
  split at h
  · split at h
    · split at h
      · simp only [Option.map_eq_some_iff, Prod.mk.injEq] at h
        obtain ⟨_, _, _, rfl⟩ := h
        rfl
      · cases h
    · cases h
  · simp only [Option.map_eq_some_iff, Prod.mk.injEq] at h
    obtain ⟨_, _, _, rfl⟩ := h
    rfl
  · cases h
theorem rd_same {o : SOp} (ho : isRd o = true) {σ σ' : Sto} {xs : List DVal} {d : DVal} (h : o.sem cp ci σ xs = some (d, σ')) : σ' = σ := by
  cases o <;> simp only [isRd, Bool.false_eq_true] at ho
  · exact ldOSem_same h
  · simp only [SOp.sem] at h
    unfold lookSem at h
    split at h
    · split at h
      · simp only [Option.some.injEq, Prod.mk.injEq] at h
        exact h.2.symm
      · cases h
    · split at h
      · split at h
        · simp only [Option.map_eq_some_iff, Prod.mk.injEq] at h
          obtain ⟨_, _, _, rfl⟩ := h
          rfl
        · cases h
      · cases h
    · cases h
  · simp only [SOp.sem] at h
    unfold lenMSem at h
    split at h
    · simp only [Option.some.injEq, Prod.mk.injEq] at h
      exact h.2.symm
    · split at h
      · split at h
        · cases h
        · simp only [Option.some.injEq, Prod.mk.injEq] at h
          exact h.2.symm
        · cases h
      · cases h
    · cases h
theorem execOp'_eff (dst : Option Nat) (op : IOp) (xs : List Opd) (st : St) : execOp' cp ci dst op xs st = (effOp cp ci op xs st).map (applyEff dst st) := by
  cases op with
  | p o =>
    simp only [execOp', effOp, Option.map_map]
    congr 1
    funext d
    cases dst <;> rfl
  | lr r sz =>
    simp only [execOp', effOp, Option.map_map]
    congr 1
    funext d
    cases dst <;> rfl
  | lw r o =>
    simp only [execOp', effOp, Option.map_map]
    congr 1
    funext d
    cases dst <;> rfl
  | s w o =>
    simp only [execOp', effOp, Option.map_map]
    cases h : o.sem cp ci st.sto (xs.map (Opd.val st.env)) with
    | none => rfl
    | some x =>
      obtain ⟨d, σ'⟩ := x
      cases hr : isRd o with
      | true =>
        have := rd_same hr h
        subst this
        cases dst <;> rfl
      | false => cases dst <;> rfl
theorem stepOp_eff (o : IOper) (st : St) : stepOp cp ci o st = (eff cp ci o st).map (applyEff o.dst st) := by
  unfold stepOp eff
  cases o.guard with
  | none => exact execOp'_eff _ _ _ _
  | some g =>
    obtain ⟨g, b⟩ := g
    simp only
    split
    · exact execOp'_eff _ _ _ _
    · cases h : o.dst <;> simp [applyEff, St.put, envPut, locPut]
theorem vals_congr {xs : List Opd} {e e' : Nat → DVal} (h : ∀ n, n ∈ (xs.filterMap fun | .t n => some n | _ => none) → e n = e' n) : xs.map (Opd.val e) = xs.map (Opd.val e') := by
  apply List.map_congr_left
  intro x hx
  cases x with
  | t n => exact h n (List.mem_filterMap.2 ⟨.t n, hx, rfl⟩)
  | c v => rfl
def rootOf : IOp → Option Nat
  | .lr r _ | .lw r _ => some r
  | _ => none
def usesSto : IOp → Bool
  | .s _ _ => true
  | _ => false
theorem eff_congr {o : IOper} {st st' : St} (henv : ∀ n, n ∈ o.uses → st.env n = st'.env n) (hloc : ∀ r, rootOf o.op = some r → st.loc r = st'.loc r) (hsto : usesSto o.op = true → st.sto = st'.sto) : eff cp ci o st = eff cp ci o st' := by
  have hv : o.xs.map (Opd.val st.env) = o.xs.map (Opd.val st'.env) := vals_congr fun n hn => henv n (by unfold IOper.uses; exact List.mem_append_left _ hn)
  have hop : effOp cp ci o.op o.xs st = effOp cp ci o.op o.xs st' := by
    cases hop : o.op with
    | p po => simp only [effOp, hv]
    | lr r sz => simp only [effOp, hv, hloc r (by rw [hop]; rfl)]
    | lw r lo => simp only [effOp, hv, hloc r (by rw [hop]; rfl)]
    | s w so => simp only [effOp, hv, hsto (by rw [hop]; rfl)]
  unfold eff
  cases hg : o.guard with
  | none => exact hop
  | some g =>
    obtain ⟨g, b⟩ := g
    have := henv g (by unfold IOper.uses; rw [hg]; simp)
    simp only [this, hop]
theorem eff_loc {o : IOper} {st : St} {x : DVal × Option (Nat × (Nat × DVal)) × Option Sto} (h : eff cp ci o st = some x) : ∀ r m, x.2.1 = some (r, m) → ∃ lo, o.op = .lw r lo := by
  intro r m hx
  have key : ∀ y, effOp cp ci o.op o.xs st = some y → y.2.1 = some (r, m) → ∃ lo, o.op = .lw r lo := by
    intro y hy hm
    cases hop : o.op with
    | p po => rw [hop] at hy; simp only [effOp, Option.map_eq_some_iff] at hy; obtain ⟨_, _, rfl⟩ := hy; simp at hm
    | lr r sz => rw [hop] at hy; simp only [effOp, Option.map_eq_some_iff] at hy; obtain ⟨_, _, rfl⟩ := hy; simp at hm
    | lw q lo => rw [hop] at hy; simp only [effOp, Option.map_eq_some_iff] at hy; obtain ⟨_, _, rfl⟩ := hy; simp at hm; exact ⟨lo, by rw [hm.1]⟩
    | s w so => rw [hop] at hy; simp only [effOp, Option.map_eq_some_iff] at hy; obtain ⟨_, _, rfl⟩ := hy; simp at hm
  unfold eff at h
  split at h
  · exact key x h hx
  · split at h
    · exact key x h hx
    · simp only [Option.some.injEq] at h; subst h; simp at hx
theorem eff_sto {o : IOper} {st : St} {x : DVal × Option (Nat × (Nat × DVal)) × Option Sto} (h : eff cp ci o st = some x) : ∀ σ, x.2.2 = some σ → ∃ w so, o.op = .s w so ∧ isRd so = false := by
  intro σ hx
  have key : ∀ y, effOp cp ci o.op o.xs st = some y → y.2.2 = some σ → ∃ w so, o.op = .s w so ∧ isRd so = false := by
    intro y hy hm
    cases hop : o.op with
    | p po => rw [hop] at hy; simp only [effOp, Option.map_eq_some_iff] at hy; obtain ⟨_, _, rfl⟩ := hy; simp at hm
    | lr r sz => rw [hop] at hy; simp only [effOp, Option.map_eq_some_iff] at hy; obtain ⟨_, _, rfl⟩ := hy; simp at hm
    | lw q lo => rw [hop] at hy; simp only [effOp, Option.map_eq_some_iff] at hy; obtain ⟨_, _, rfl⟩ := hy; simp at hm
    | s w so =>
      refine ⟨w, so, rfl, ?_⟩
      rw [hop] at hy
      simp only [effOp, Option.map_eq_some_iff] at hy
      obtain ⟨_, _, rfl⟩ := hy
      cases hr : isRd so with
      | true => simp [hr] at hm
      | false => rfl
  unfold eff at h
  split at h
  · exact key x h hx
  · split at h
    · exact key x h hx
    · simp only [Option.some.injEq] at h; subst h; simp at hx
theorem envPut_other {env : Nat → DVal} {d : Option Nat} {v : DVal} {n : Nat} (h : d ≠ some n) : envPut env d v n = env n := by
  cases d with
  | none => rfl
  | some m => simp only [envPut, upd]; rw [if_neg (fun e => h (by rw [e]))]
theorem envPut_comm {env : Nat → DVal} {d e : Option Nat} {v u : DVal} (h : ∀ n, d = some n → e ≠ some n) : envPut (envPut env d v) e u = envPut (envPut env e u) d v := by
  cases d with
  | none => rfl
  | some m =>
    cases e with
    | none => rfl
    | some k =>
      have hne : k ≠ m := fun e => h m rfl (by rw [e])
      funext n
      simp only [envPut, upd]
      by_cases h1 : n = k
      · by_cases h2 : n = m
        · omega
        · simp [h1, h2, hne]
      · simp [h1]
theorem freeOf_iff {d : Option Nat} {l : List Nat} (h : freeOf d l = true) : ∀ n, d = some n → n ∉ l := by
  rintro n rfl
  simpa [freeOf] using h
theorem step_swap {o p : IOper} (h : indep o p = true) {st s1 s2 : St} (h1 : stepOp cp ci o st = some s1) (h2 : stepOp cp ci p s1 = some s2) : ∃ s1', stepOp cp ci p st = some s1' ∧ stepOp cp ci o s1' = some s2 := by
  simp only [indep, Bool.and_eq_true] at h
  obtain ⟨⟨⟨hacc, hd1⟩, hd2⟩, hd3⟩ := h
  have hd1 := freeOf_iff hd1
  have hd2 := freeOf_iff hd2
  have hd3' : ∀ n, o.dst = some n → p.dst ≠ some n := fun n hn hp => (freeOf_iff hd3 n hn) (by rw [hp]; simp)
  rw [stepOp_eff] at h1 h2
  simp only [Option.map_eq_some_iff] at h1 h2
  obtain ⟨x, hx, rfl⟩ := h1
  obtain ⟨y, hy, rfl⟩ := h2
  have lx := eff_loc hx
  have sx := eff_sto hx
  have ly := eff_loc hy
  have sy := eff_sto hy
  have hy' : eff cp ci p st = some y := by
    rw [← hy]
    refine eff_congr (fun n hn => ?_) (fun r hr => ?_) (fun hs => ?_)
    · exact (envPut_other fun e => hd1 n e hn).symm
    · show st.loc r = locPut st.loc x.2.1 r
      cases hm : x.2.1 with
      | none => rfl
      | some q =>
        obtain ⟨q, m⟩ := q
        obtain ⟨lo, hlo⟩ := lx q m hm
        simp only [locPut, upd]
        rw [if_neg]
        rintro rfl
        rw [hlo] at hacc
        cases hp : p.op <;> rw [hp] at hr hacc <;> simp [rootOf, accOk] at hr hacc <;> omega
    · show st.sto = x.2.2.getD st.sto
      cases hm : x.2.2 with
      | none => rfl
      | some σ =>
        obtain ⟨w, so, hso, hne⟩ := sx σ hm
        rw [hso] at hacc
        cases hp : p.op <;> rw [hp] at hs hacc <;> simp only [usesSto, Bool.false_eq_true] at hs
        rename_i w' so'
        exfalso
        cases w <;> cases w' <;> simp [accOk, hne] at hacc
  have hx' : eff cp ci o (applyEff p.dst st y) = some x := by
    rw [← hx]
    refine eff_congr (fun n hn => ?_) (fun r hr => ?_) (fun hs => ?_)
    · exact envPut_other fun e => hd2 n e hn
    · show locPut st.loc y.2.1 r = st.loc r
      cases hm : y.2.1 with
      | none => rfl
      | some q =>
        obtain ⟨q, m⟩ := q
        obtain ⟨lo, hlo⟩ := ly q m hm
        simp only [locPut, upd]
        rw [if_neg]
        rintro rfl
        rw [hlo] at hacc
        cases hp : o.op <;> rw [hp] at hr hacc <;> simp [rootOf, accOk] at hr hacc <;> omega
    · show y.2.2.getD st.sto = st.sto
      cases hm : y.2.2 with
      | none => rfl
      | some σ =>
        obtain ⟨w, so, hso, hne⟩ := sy σ hm
        rw [hso] at hacc
        cases hp : o.op <;> rw [hp] at hs hacc <;> simp only [usesSto, Bool.false_eq_true] at hs
        rename_i w' so'
        exfalso
        cases w <;> cases w' <;> simp [accOk, hne] at hacc
  refine ⟨applyEff p.dst st y, by rw [stepOp_eff, hy']; rfl, ?_⟩
  rw [stepOp_eff, hx']
  simp only [Option.map_some, Option.some.injEq]
  have hloc : locPut (locPut st.loc y.2.1) x.2.1 = locPut (locPut st.loc x.2.1) y.2.1 := by
    cases hm : x.2.1 with
    | none => rfl
    | some q =>
      cases hm' : y.2.1 with
      | none => rfl
      | some q' =>
        obtain ⟨q, m⟩ := q
        obtain ⟨q', m'⟩ := q'
        obtain ⟨lo, hlo⟩ := lx q m hm
        obtain ⟨lo', hlo'⟩ := ly q' m' hm'
        rw [hlo, hlo'] at hacc
        simp [accOk] at hacc
        funext n
        simp only [locPut, upd]
        by_cases e1 : n = q
        · by_cases e2 : n = q'
          · omega
          · simp [e1, hacc]
        · simp [e1]
  have hsto : x.2.2.getD (y.2.2.getD st.sto) = y.2.2.getD (x.2.2.getD st.sto) := by
    cases hm : x.2.2 with
    | none => rfl
    | some σ =>
      cases hm' : y.2.2 with
      | none => rfl
      | some σ' =>
        exfalso
        obtain ⟨w, so, hso, hne⟩ := sx σ hm
        obtain ⟨w', so', hso', hne'⟩ := sy σ' hm'
        rw [hso, hso'] at hacc
        cases w <;> cases w' <;> simp [accOk, hne] at hacc
  simp only [applyEff, St.mk.injEq]
  exact ⟨(envPut_comm hd3').symm, hloc, hsto⟩
def runIdx (cp : Nat → List DVal → Option DVal) (ci : Nat → List DVal → Sto → Option (DVal × Sto)) (ios : List IOper) : List Nat → St → Option St
  | [], st => some st
  | i :: is, st => match ios[i]? with
    | some o => (stepOp cp ci o st).bind (runIdx cp ci ios is)
    | none => none
theorem runIdx_append (ios : List IOper) : ∀ (l m : List Nat) (st : St), runIdx cp ci ios (l ++ m) st = (runIdx cp ci ios l st).bind (runIdx cp ci ios m)
  | [], m, st => rfl
  | i :: l, m, st => by
    simp only [List.cons_append, runIdx]
    cases ios[i]? with
    | none => rfl
    | some o =>
      simp only
      cases stepOp cp ci o st with
      | none => rfl
      | some s => simp only [Option.bind_some]; exact runIdx_append ios l m s
theorem runOps_idx (ios : List IOper) : ∀ (n k : Nat) (st : St), k + n = ios.length → runOps cp ci (ios.drop k) st = runIdx cp ci ios (List.range' k n) st
  | 0, k, st, h => by rw [List.drop_eq_nil_of_le (by omega)]; rfl
  | n + 1, k, st, h => by
    have hk : k < ios.length := by omega
    rw [List.drop_eq_getElem_cons hk, List.range'_succ]
    simp only [runOps, runIdx, List.getElem?_eq_getElem hk]
    cases stepOp cp ci ios[k] st with
    | none => rfl
    | some s => simp only [Option.bind_some]; exact runOps_idx ios n (k + 1) s (by omega)
theorem to_front (ios : List IOper) {i : Nat} {o : IOper} (ho : ios[i]? = some o) : ∀ (l : List Nat) (st st' : St), (∀ j ∈ l, ∀ p, ios[j]? = some p → indep p o = true) → runIdx cp ci ios (l ++ [i]) st = some st' →
    ∃ s1, stepOp cp ci o st = some s1 ∧ runIdx cp ci ios l s1 = some st'
  | [], st, st', _, h => by
    simp only [List.nil_append, runIdx, ho, Option.bind_eq_some_iff, Option.some.injEq] at h
    obtain ⟨s, h1, rfl⟩ := h
    exact ⟨s, h1, rfl⟩
  | j :: l, st, st', hl, h => by
    simp only [List.cons_append, runIdx] at h
    cases hj : ios[j]? with
    | none => rw [hj] at h; simp at h
    | some p =>
      rw [hj] at h
      simp only [Option.bind_eq_some_iff] at h
      obtain ⟨s, h1, h2⟩ := h
      obtain ⟨s1, h3, h4⟩ := to_front ios ho l s st' (fun k hk => hl k (by simp [hk])) h2
      obtain ⟨s2, h5, h6⟩ := step_swap (hl j (by simp) p hj) h1 h3
      refine ⟨s2, h5, ?_⟩
      simp only [runIdx, hj, h6, Option.bind_some, h4]
end
end Go.Proofs.YtklepphkbbjbjaaDoor
namespace Go.Proofs.YtklepphkbbjbjaaDoor
set_option linter.unusedVariables false
set_option linter.unusedSimpArgs false
open Go Go.RowKit
theorem ahead_fold (acc : List Nat) : ∀ (es : List Edge) (s j : Nat), (es.foldl (fun s e => if Region.binds .any e then s ||| 2 ^ e.on ||| acc.getD e.on 0 else s) s).testBit j = true →
    s.testBit j = true ∨ ∃ e ∈ es, Region.binds .any e = true ∧ (j = e.on ∨ (acc.getD e.on 0).testBit j = true)
  | [], s, j, h => .inl h
  | e :: es, s, j, h => by
    rw [List.foldl_cons] at h
    rcases ahead_fold acc es _ j h with h | ⟨e', he, h1, h2⟩
    · split at h
      · rename_i hb
        simp only [Nat.testBit_or, Bool.or_eq_true, Nat.testBit_two_pow, decide_eq_true_eq] at h
        rcases h with (h | h) | h
        · exact .inl h
        · exact .inr ⟨e, by simp, hb, .inl h.symm⟩
        · exact .inr ⟨e, by simp, hb, .inr h⟩
      · exact .inl h
    · exact .inr ⟨e', by simp [he], h1, h2⟩
theorem ahead_bit {acc : List Nat} {o : Oper} {j : Nat} (h : (ahead acc o).testBit j = true) : ∃ e ∈ o.after.toList, Region.binds .any e = true ∧ (j = e.on ∨ (acc.getD e.on 0).testBit j = true) := by
  rcases ahead_fold acc _ 0 j h with h | h
  · simp at h
  · exact h
theorem aheads_get : ∀ (ops : List Oper) (acc : List Nat) (i : Nat), (aheads acc ops).length = acc.length + ops.length ∧ (i < acc.length → (aheads acc ops)[i]? = acc[i]?) ∧
    ∀ o, ops[i]? = some o → (aheads acc ops)[acc.length + i]? = some (ahead ((aheads acc ops).take (acc.length + i)) o)
  | [], acc, i => ⟨by simp [aheads], fun _ => rfl, fun o h => by simp at h⟩
  | p :: ops, acc, i => by
    have hpre : ∀ k, k ≤ acc.length → (aheads (acc ++ [ahead acc p]) ops).take k = acc.take k := fun k hk => by
      apply List.ext_getElem?
      intro q
      rw [List.getElem?_take, List.getElem?_take]
      split
      · rw [(aheads_get ops (acc ++ [ahead acc p]) q).2.1 (by simp; omega), List.getElem?_append_left (by omega)]
      · rfl
    refine ⟨?_, fun hi => ?_, fun o ho => ?_⟩
    · show (aheads (acc ++ [ahead acc p]) ops).length = _
      rw [(aheads_get ops _ 0).1]
      simp
      omega
    · show (aheads (acc ++ [ahead acc p]) ops)[i]? = _
      rw [(aheads_get ops _ i).2.1 (by simp; omega), List.getElem?_append_left hi]
    · show (aheads (acc ++ [ahead acc p]) ops)[acc.length + i]? = some (ahead ((aheads (acc ++ [ahead acc p]) ops).take (acc.length + i)) o)
      cases i with
      | zero =>
        simp only [List.getElem?_cons_zero, Option.some.injEq] at ho
        subst ho
        rw [Nat.add_zero, hpre _ (Nat.le_refl _), (aheads_get ops _ acc.length).2.1 (by simp)]
        simp
      | succ i =>
        simp only [List.getElem?_cons_succ] at ho
        have := (aheads_get ops (acc ++ [ahead acc p]) i).2.2 o ho
        simp only [List.length_append, List.length_cons, List.length_nil, Nat.zero_add] at this
        rw [show acc.length + (i + 1) = acc.length + 1 + i by omega]
        exact this
def mask (ops : List Oper) (i : Nat) : Nat := (aheads [] ops).getD i 0
theorem mask_bit {ops : List Oper} {i j : Nat} {o : Oper} (ho : ops[i]? = some o) (h : (mask ops i).testBit j = true) : ∃ e ∈ o.after.toList, Region.binds .any e = true ∧ (j = e.on ∨ (mask ops e.on).testBit j = true) := by
  have hg := (aheads_get ops [] i).2.2 o ho
  simp only [List.length_nil, Nat.zero_add] at hg
  have hm : mask ops i = ahead ((aheads [] ops).take i) o := by unfold mask; rw [List.getD_eq_getElem?_getD, hg]; rfl
  rw [hm] at h
  obtain ⟨e, he, hb, h⟩ := ahead_bit h
  refine ⟨e, he, hb, h.imp id fun h => ?_⟩
  unfold mask
  rw [List.getD_eq_getElem?_getD] at h ⊢
  rw [List.getElem?_take] at h
  split at h
  · exact h
  · simp at h
theorem drawRow_get {m : Nat} {b : IOper} : ∀ (as : List IOper) (i : Nat), drawRow m b i as = true → ∀ (k : Nat) (a : IOper), as[k]? = some a → m.testBit (i + k) = true ∨ indep a b = true
  | [], i, _, k, a, h => by simp at h
  | p :: as, i, hd, k, a, h => by
    simp only [drawRow, Bool.and_eq_true, Bool.or_eq_true] at hd
    cases k with
    | zero => simp only [List.getElem?_cons_zero, Option.some.injEq] at h; subst h; exact hd.1
    | succ k => rw [List.getElem?_cons_succ] at h; have := drawRow_get as (i + 1) hd.2 k a h; rwa [show i + 1 + k = i + (k + 1) by omega] at this
theorem drawAll_get : ∀ (ms : List Nat) (ios done : List IOper), drawAll done ms ios = true → ∀ (i : Nat) (b : IOper), ios[i]? = some b → ∃ m, ms[i]? = some m ∧ drawRow m b 0 (done ++ ios.take i) = true
  | _, [], done, _, i, b, h => by simp at h
  | [], _ :: _, done, hd, i, b, h => by simp [drawAll] at hd
  | m :: ms, p :: ios, done, hd, i, b, h => by
    simp only [drawAll, Bool.and_eq_true] at hd
    cases i with
    | zero => simp only [List.getElem?_cons_zero, Option.some.injEq] at h; subst h; exact ⟨m, rfl, by simpa using hd.1⟩
    | succ i =>
      rw [List.getElem?_cons_succ] at h
      obtain ⟨m', h1, h2⟩ := drawAll_get ms ios (done ++ [p]) hd.2 i b h
      exact ⟨m', by simpa using h1, by simpa using h2⟩
theorem draw_pair {ops : List Oper} {ios : List IOper} (h : drawAll [] (aheads [] ops) ios = true) {i j : Nat} {a b : IOper} (hij : j < i) (hb : ios[i]? = some b) (ha : ios[j]? = some a) :
    (mask ops i).testBit j = true ∨ indep a b = true := by
  obtain ⟨m, h1, h2⟩ := drawAll_get _ _ _ h i b hb
  have := drawRow_get _ 0 h2 j a (by rw [List.nil_append, List.getElem?_take, if_pos hij]; exact ha)
  unfold mask
  rw [List.getD_eq_getElem?_getD, h1]
  simpa using this
theorem edges_get : ∀ (ops : List Oper) (i : Nat), edgesBack i ops = true → ∀ (k : Nat) (o : Oper), ops[k]? = some o → ∀ e ∈ o.after.toList, Region.binds .any e = true → e.on < i + k
  | [], i, _, k, o, h => by simp at h
  | p :: ops, i, hd, k, o, h => by
    simp only [edgesBack, Bool.and_eq_true, List.all_eq_true, Bool.or_eq_true, Bool.not_eq_true', decide_eq_true_eq] at hd
    cases k with
    | zero =>
      simp only [List.getElem?_cons_zero, Option.some.injEq] at h
      subst h
      intro e he hb
      rcases hd.1 e he with h | h
      · rw [hb] at h; cases h
      · simpa using h
    | succ k =>
      rw [List.getElem?_cons_succ] at h
      intro e he hb
      have := edges_get ops (i + 1) hd.2 k o h e he hb
      omega
def remain (n : Nat) (listed : Array Bool) : List Nat := (List.range n).filter fun i => !listed.getD i true
theorem mem_remain {n : Nat} {listed : Array Bool} {i : Nat} : i ∈ remain n listed ↔ i < n ∧ listed.getD i true = false := by
  simp [remain]
theorem getD_set {l : Array Bool} {i j : Nat} {d : Bool} : (l.setIfInBounds i true).getD j d = if i = j ∧ i < l.size then true else l.getD j d := by
  by_cases h : i = j
  · subst h
    by_cases hs : i < l.size
    · simp [hs]
    · simp [hs, Array.setIfInBounds]
  · simp [h, Array.getElem?_setIfInBounds_ne h]
theorem remain_split {n : Nat} {listed : Array Bool} {i : Nat} (hs : listed.size = n) (hi : i ∈ remain n listed) :
    ∃ l r, remain n listed = l ++ i :: r ∧ remain n (listed.setIfInBounds i true) = l ++ r ∧ ∀ j ∈ l, j < i ∧ listed.getD j true = false := by
  obtain ⟨h1, h2⟩ := mem_remain.1 hi
  have hr : List.range n = List.range i ++ i :: List.range' (i + 1) (n - i - 1) := by
    rw [List.range_eq_range', List.range_eq_range', ← List.range'_succ]
    have := @List.range'_append 0 i (n - i - 1 + 1) 1
    rw [Nat.one_mul, Nat.zero_add] at this
    rw [this]
    congr 1
    omega
  refine ⟨(List.range i).filter fun i => !listed.getD i true, (List.range' (i + 1) (n - i - 1)).filter fun i => !listed.getD i true, ?_, ?_, ?_⟩
  · unfold remain
    rw [hr, List.filter_append, List.filter_cons, if_pos (by rw [h2]; rfl)]
  · unfold remain
    rw [hr, List.filter_append, List.filter_cons, if_neg (by rw [getD_set, if_pos ⟨rfl, by omega⟩]; simp)]
    congr 1
    · apply List.filter_congr
      intro j hj
      have := List.mem_range.1 hj
      rw [getD_set, if_neg (by omega)]
    · apply List.filter_congr
      intro j hj
      have := List.mem_range'_1.1 hj
      rw [getD_set, if_neg (by omega)]
  · intro j hj
    simp only [List.mem_filter, List.mem_range, Bool.not_eq_true'] at hj
    exact hj
section
variable {cp : Nat → List DVal → Option DVal} {ci : Nat → List DVal → Sto → Option (DVal × Sto)}
theorem go_sound {ops : Array Oper} {ios : List IOper} (hlen : ios.length = ops.size) (hdraw : drawAll [] (aheads [] ops.toList) ios = true) (hback : edgesBack 0 ops.toList = true) :
    ∀ (fuel t : Nat) (listed : Array Bool) (st st' : St), listed.size = ops.size → (remain ops.size listed).length ≤ fuel → (∀ i, i < ops.size → listed.getD i false = true → ∀ j, (mask ops.toList i).testBit j = true → listed.getD j false = true) →
      runIdx cp ci ios (remain ops.size listed) st = some st' → runIdx cp ci ios (Region.linearise.go .any ops fuel t listed []) st = some st'
  | 0, t, listed, st, st', hs, hf, hd, h => by
    have : remain ops.size listed = [] := List.length_eq_zero_iff.1 (by omega)
    rw [this] at h
    simpa [Region.linearise.go] using h
  | fuel + 1, t, listed, st, st', hs, hf, hd, h => by
    simp only [Region.linearise.go]
    change runIdx cp ci ios (match (Region.ready .any ops listed)[t % (Region.ready .any ops listed).length]? with
      | some i => Region.linearise.go .any ops fuel (t / (Region.ready .any ops listed).length) (listed.setIfInBounds i true) [i]
      | none => [].reverse) st = some st'
    cases hi : (Region.ready .any ops listed)[t % (Region.ready .any ops listed).length]? with
    | none =>
      have hnil : Region.ready .any ops listed = [] := by
        cases hr : Region.ready .any ops listed with
        | nil => rfl
        | cons x xs =>
          rw [hr] at hi
          have hlt : t % (x :: xs).length < (x :: xs).length := Nat.mod_lt _ (by simp)
          simp at hi
          simp at hlt
          omega
      have hrem : remain ops.size listed = [] := by
        cases hr : remain ops.size listed with
        | nil => rfl
        | cons i r =>
          exfalso
          have hmem : i ∈ remain ops.size listed := by rw [hr]; simp
          obtain ⟨h1, h2⟩ := mem_remain.1 hmem
          obtain ⟨l, r', e1, -, -⟩ := remain_split hs hmem
          have hmin : ∀ j, j < i → listed.getD j true = true := by
            intro j hj
            cases hlj : listed.getD j true with
            | true => rfl
            | false =>
              have hjm : j ∈ remain ops.size listed := mem_remain.2 ⟨by omega, hlj⟩
              have hsorted : (remain ops.size listed).Pairwise (· < ·) := List.Pairwise.filter _ List.pairwise_lt_range
              rw [hr] at hjm hsorted
              rcases List.mem_cons.1 hjm with rfl | hjm
              · omega
              · have := (List.pairwise_cons.1 hsorted).1 j hjm
                omega
          have : i ∈ Region.ready .any ops listed := by
            unfold Region.ready
            rw [List.mem_filter]
            refine ⟨List.mem_range.2 h1, ?_⟩
            rw [h2, Array.getElem?_eq_getElem h1]
            simp only [Bool.not_false, Bool.true_and, Option.map_some, Option.getD_some, Array.all_eq_true', Bool.or_eq_true, Bool.not_eq_true']
            intro e he
            cases hb : Region.binds .any e with
            | false => exact .inl rfl
            | true =>
              have hlt := edges_get _ 0 hback i ops[i] (by rw [Array.getElem?_toList, Array.getElem?_eq_getElem h1]) e (by simpa using he) hb
              have := hmin e.on (by omega)
              right
              have hlt' : e.on < listed.size := by omega
              simpa [Array.getD, hlt'] using this
          rw [hnil] at this
          simp at this
      rw [hrem] at h
      simpa using h
    | some i =>
      have hmem : i ∈ Region.ready .any ops listed := List.mem_of_getElem? hi
      unfold Region.ready at hmem
      rw [List.mem_filter] at hmem
      obtain ⟨hir, hp⟩ := hmem
      have hlt := List.mem_range.1 hir
      rw [Array.getElem?_eq_getElem hlt] at hp
      simp only [Option.map_some, Option.getD_some, Bool.and_eq_true, Bool.not_eq_true', Array.all_eq_true', Bool.or_eq_true] at hp
      obtain ⟨hun, haft⟩ := hp
      have hrem : i ∈ remain ops.size listed := mem_remain.2 ⟨hlt, hun⟩
      obtain ⟨l, r, e1, e2, e3⟩ := remain_split hs hrem
      simp only []
      rw [linearise_go_acc, List.reverse_singleton, List.singleton_append]
      have hio : i < ios.length := by omega
      have hmask : ∀ j, (mask ops.toList i).testBit j = true → listed.getD j false = true := by
        intro j hj
        obtain ⟨e, he, hb, h⟩ := mask_bit (o := ops[i]) (by rw [Array.getElem?_toList, Array.getElem?_eq_getElem hlt]) hj
        have hl : listed.getD e.on false = true := by
          rcases haft e (by simpa using he) with h | h
          · rw [hb] at h; cases h
          · exact h
        rcases h with rfl | h
        · exact hl
        · have hlt2 := edges_get _ 0 hback i ops[i] (by rw [Array.getElem?_toList, Array.getElem?_eq_getElem hlt]) e he hb
          exact hd e.on (by omega) hl j h
      rw [e1, show l ++ i :: r = (l ++ [i]) ++ r by simp, runIdx_append] at h
      simp only [Option.bind_eq_some_iff] at h
      obtain ⟨s, g1, g2⟩ := h
      obtain ⟨s1, g3, g4⟩ := to_front ios (List.getElem?_eq_getElem hio) l st s (fun j hj p hp => by
        obtain ⟨k1, k2⟩ := e3 j hj
        rcases draw_pair hdraw k1 (List.getElem?_eq_getElem hio) hp with hb | hb
        · have := hmask j hb
          have hj' : j < listed.size := by omega
          simp [Array.getD, hj'] at this k2
          rw [this] at k2
          cases k2
        · exact hb) g1
      simp only [runIdx, List.getElem?_eq_getElem hio, g3, Option.bind_some]
      refine go_sound hlen hdraw hback fuel _ _ s1 st' (by simpa using hs) ?_ ?_ ?_
      · rw [e2]
        rw [e1] at hf
        simp only [List.length_append, List.length_cons] at hf ⊢
        omega
      · intro k hk hlk j hj
        rw [getD_set] at hlk ⊢
        split
        · rfl
        · split at hlk
          · rename_i hik
            obtain ⟨rfl, -⟩ := hik
            exact hmask j hj
          · exact hd k hk hlk j hj
      · rw [e2, runIdx_append, g4, Option.bind_some, g2]
theorem remain_all {n : Nat} : remain n (Array.replicate n false) = List.range n := by
  unfold remain
  rw [List.filter_eq_self]
  intro i hi
  have := List.mem_range.1 hi
  simp [Array.getD, this]
theorem linearise_sound {ops : Array Oper} {ios : List IOper} (hlen : ios.length = ops.size) (hdraw : drawAll [] (aheads [] ops.toList) ios = true) (hback : edgesBack 0 ops.toList = true) (t : Nat) {st st' : St} (h : runOps cp ci ios st = some st') :
    runIdx cp ci ios (Region.linearise .any ops t) st = some st' := by
  refine go_sound hlen hdraw hback _ _ _ st st' (by simp) ?_ ?_ ?_
  · rw [remain_all]; simp
  · intro i hi hl
    simp [Array.getD, hi] at hl
  · rw [remain_all, List.range_eq_range', ← hlen, ← runOps_idx ios _ 0 st (by omega)]
    simpa using h
end
end Go.Proofs.YtklepphkbbjbjaaDoor
