/- append. -/
import Derived.Test.YtdnoonnanhnkaaaDoorSimMem
set_option linter.unusedVariables false
set_option linter.unusedSimpArgs false
namespace Go.Proofs.YtdnoonnanhnkaaaDoor
open Go

section
variable {P : Program} {w : World}

theorem run_append_nothing {t ty e : TypeId} {n : Nat} (ht : P.underlying t = some (.slice e)) (hz : szOf P e = some n) (base : Option Addr) (l c : Nat) (hl : l ≤ c) (x : Value) (hx : x = .slice none 0 0 ∨ ∃ a k, x = .slice (some a) 0 k) :
    (Builtin.append_ #[t, t] ty #[.slice base l c, x]).run P w = .ok (.slice base l c) w := by
  obtain ⟨i, h1, rfl⟩ := szOf_info hz
  rcases hx with rfl | ⟨a, k, rfl⟩ <;> cases base <;>
    simp [Builtin.append_, run_underlying ht, sizeOf, typeInfo, h1, Builtin.lenOf, hl, Builtin.firstCells, loadCells, loadCellsFrom, storeCells]

theorem run_append_room' (t ty e el : TypeId) (i : TypeInfo) (ht : P.underlying t = some (.slice e)) (hi : P.info? e = some i)
    (g sLen sCap : Nat) (cur : Array Value) (hg : w.heap[g]? = some (.cells cur el (0, 0)))
    (a : Addr) (m c : Nat) (news : List Value) (hl : news.length = m * i.size) (hnews : ∀ j u, news[j]? = some u → w.cell? (a.add j) = some u) (h1 : ∀ u ∈ news, u.oneCell' = true)
    (hroom : sLen + m ≤ sCap) (hfit : sLen * i.size + news.length ≤ cur.size) :
    (Builtin.append_ #[t, t] ty #[.slice (some ⟨g, 0, none⟩) sLen sCap, .slice (some a) m c]).run P w =
      .ok (.slice (some ⟨g, 0, none⟩) (sLen + m) sCap) (w.setRow g (cur.toList.take (sLen * i.size) ++ news ++ cur.toList.drop (sLen * i.size + news.length)).toArray) := by
  have hf := run_firstCells_some (P := P) w i.size m a m c news hl hnews
  have hst := run_storeCells_at P g (sLen * i.size) el news 0 cur w hg (by simpa using hfit) h1
  simp only [Nat.add_zero] at hst
  simp [Builtin.append_, run_underlying ht, sizeOf, typeInfo, hi, Builtin.lenOf, hroom, hf, Addr.add_lit, hst]

end

/-- Rows in a block that is known whole. -/
theorem rows_block {V : Vw} {w : World} {cl : Nat} {b sz : Nat} {es : List (List DVal)} {vs rest : List Value} {c : Array Value} {el : TypeId} (hb : w.heap[b]? = some (.cells c el (0, 0))) (hc : c.toList = vs ++ rest)
    (hes : ∀ e ∈ es, e.length = sz) (hv : VRels V w cl es.flatten vs) (h1 : ∀ v ∈ vs, v.oneCell' = true) (himm : ∀ i, i < es.flatten.length → V.imm b i) : RowsRel V w cl b sz 0 es :=
  RowsRel.mk hes (fun i hi => by rw [Nat.zero_add]; exact himm i hi) hv (fun i v hi => by
    refine ⟨?_, h1 v (List.mem_of_getElem? hi)⟩
    rw [Nat.zero_add, cell_of_row w b i c el (0, 0) hb, ← Array.getElem?_toList, hc, List.getElem?_append_left (List.getElem?_eq_some_iff.1 hi).1]
    exact hi)

theorem VRels.weak {V : Vw} {w : World} {px pt : Bool} {ds : List DVal} {vs : List Value} (h : VRels V w (emode px) ds vs) (hp : px = true → pt = true) : VRels V w (emode pt) ds vs := by
  refine h.lower ?_
  cases pt <;> cases px <;> simp [emode] at hp ⊢

section
variable {P : Program} {h : Hint} {V : Vw} {w : World} {L : Nat → Nat × DVal} {σ : Sto} {env : Nat → DVal} {a : Act} {d : DVal} {o : Oper}

/-- What is appended: its values. -/
theorem elemsOf_rel {x : DVal} {v : Value} {px : Bool} {new : List (List DVal)} {sz : Nat} (hx : VRel V w 0 x v) (he : elemsOf x = some (px, new)) (hsz : ∀ pt own sz' es, x = .slice pt own sz' es → sz' = sz) :
    (v = .slice none 0 0 ∧ new = []) ∨ ∃ ad cap vs, v = .slice (some ad) new.length cap ∧ (∀ e ∈ new, e.length = sz) ∧ VRels V w (emode px) new.flatten vs ∧ (∀ j u, vs[j]? = some u → w.cell? (ad.add j) = some u) ∧ (∀ u ∈ vs, u.oneCell' = true) ∧ vs.length = new.length * sz := by
  cases x <;> simp only [elemsOf, Option.some.injEq, Prod.mk.injEq, reduceCtorEq] at he
  · obtain ⟨rfl, rfl⟩ := he
    simp only [VRel] at hx
    exact .inl ⟨hx, rfl⟩
  · rename_i pt own sz' es
    obtain ⟨rfl, rfl⟩ := he
    have := hsz _ _ _ _ rfl
    subst this
    simp only [VRel] at hx
    obtain ⟨-, b, off, cap, rfl, -, -, hrows⟩ := hx
    obtain ⟨k1, -, vs, k3, k4⟩ := hrows.vals
    refine .inr ⟨⟨b, off, none⟩, cap, vs, rfl, k1, k3, fun j u hu => by rw [add_mk]; exact (k4 j u hu).1, fun u hu => ?_, by rw [k3.length, flatten_length k1]⟩
    obtain ⟨j, hj⟩ := List.mem_iff_getElem?.1 hu
    exact (k4 j u hj).2

theorem exec_append {c : Call} {s x : Operand} {t : TypeId} (ho : o.op = .call c) (hc : c.callee = .builtin .append) (hargs : c.args = #[s, x]) (ht : c.argTypes = #[t, t]) {v : Value} {w' : World}
    (hr : (Builtin.append_ #[t, t] o.type #[a.eval s, a.eval x]).run P w = .ok v w') : (execOp a.eval o).run P w = .ok (.value v) w' := by
  simp [execOp, ho, resolve, hc, hargs, ht, invoke, builtin, hr]

/-- A new array behind an append. -/
theorem newArr (hi : Inv V L σ w) {pt : Bool} {sz need cap : Nat} {E : List (List DVal)} {vals : List Value} {e : TypeId} {rest : List Value} (hsz : 0 < sz) (hE : ∀ x ∈ E, x.length = sz) (hlen : E.length = need) (hpos : 0 < need) (hv : VRels V w (emode pt) E.flatten vals)
    (h1 : ∀ u ∈ vals, u.oneCell' = true) (hcap : need ≤ cap) {c : Array Value} (hcl : c.toList = vals ++ rest) (hcs : c.size = cap * sz) {w1 : World} (hw1 : w1.heap = w.heap) (ho : w1.os = w.os) (htape : w1.tape = w.tape) (hout : w1.output = w.output) :
    Res V w L { σ with ntok := σ.ntok + 1, fr := upd σ.fr σ.ntok (need * sz) } (.slice pt (σ.ntok + 3) sz E) (.slice (some ⟨w.heap.size, 0, none⟩) need cap) (w1.alloc (.cells c e)) := by
  obtain ⟨ha1, hi1⟩ := hi.drew hw1 ho htape hout
  have hvl : vals.length = need * sz := by rw [hv.length, flatten_length hE, hlen]
  obtain ⟨V', ha2, hi2, e1, e2, e3, e4⟩ := hi1.newTok c e (need * sz) (by rw [hcs]; exact Nat.mul_le_mul_right _ hcap)
  have ha := ha1.trans ha2
  rw [hw1] at e2 e4
  have hheap : (w1.alloc (.cells c e)).heap[w.heap.size]? = some (.cells c e (0, 0)) := by rw [← hw1]; exact heap_alloc_new w1 _
  refine ⟨V', ha, hi2, ?_⟩
  simp only [VRel]
  refine ⟨.inl (by omega), w.heap.size, 0, cap, by rw [hlen], by omega, ⟨by omega, fun e => by omega, fun _ => ⟨by omega, ?_, fun _ => ⟨by simpa using e2, rfl, c, e, hheap, hcs⟩⟩⟩, ?_⟩
  · rw [e3, hlen]; simp [upd]
  · refine rows_block hheap hcl hE (VRels.ext ha.ei _ _ _ (fun _ => ha.er) (fun _ => ha.el) hv) h1 (fun i hi' => ?_)
    rw [flatten_length hE, hlen] at hi'
    have hB : V'.B ≤ w.heap.size := by rw [ha.B]; exact hi.hB
    refine .inr ⟨hB, .inr ⟨by rw [e4]; simp [upd], ?_⟩⟩
    rw [e4, e3]
    simp only [upd, if_true]
    exact hi'

set_option maxHeartbeats 1000000 in
theorem app_sound (hi : Inv V L σ w) (he : EnvRel V w env a.tmps) {c : Call} {s x : Operand} {p q : Opd} {t e : TypeId} {i : TypeInfo} {z : Value} {pt : Bool} {σ' : Sto} (ho : o.op = .call c) (hc : c.callee = .builtin .append)
    (hargs : c.args = #[s, x]) (hts : c.argTypes = #[t, t]) (ht : P.underlying t = some (.slice e)) (hi1 : P.info? e = some i) (hsz : 0 < i.size) (hby : i.bytes ≤ 1024) (hz : i.zero = some z) (hzs : z.cells.size = i.size)
    (hp : opd s = some p) (hq : opd x = some q) (hs : app2Sem pt i.size σ [p.val env, q.val env] = some (d, σ')) : OpWp P o a w (Res V w L σ' d) := by
  have h1 := opd_rel (a := a) he hp
  have h2 := opd_rel (a := a) he hq
  generalize p.val env = s' at h1 hs
  generalize q.val env = x' at h2 hs
  simp only [app2Sem, appSem] at hs
  split at hs
  · rename_i px new hel
    split at hs
    · cases hs
    · rename_i hcond
      simp only [Bool.or_eq_true, Bool.and_eq_true, Bool.not_eq_true', not_or, not_and, Bool.not_eq_false, Bool.not_eq_true] at hcond
      obtain ⟨hpx, hxsz⟩ := hcond
      have hsz' : ∀ pt own sz' es, x' = .slice pt own sz' es → sz' = i.size := by
        rintro pt own sz' es rfl
        simpa [DVal.szOk] using hxsz
      have hx := elemsOf_rel h2 hel hsz'
      have hxe : new = [] → a.eval x = .slice none 0 0 ∨ ∃ ad k, a.eval x = .slice (some ad) 0 k := by
        rintro rfl
        rcases hx with ⟨hv, -⟩ | ⟨ad, cap, vs, hv, -⟩
        · exact .inl hv
        · exact .inr ⟨ad, cap, hv⟩
      split at hs
      · -- nil
        split at hs
        · rename_i hemp
          simp only [Option.some.injEq, Prod.mk.injEq] at hs
          obtain ⟨rfl, rfl⟩ := hs
          have hnil : new = [] := by simpa using hemp
          simp only [VRel] at h1
          refine OpWp.value (w' := w) (exec_append ho hc hargs hts ?_) (Res.same hi (by simp only [VRel]; exact h1))
          rw [h1]
          exact run_append_nothing ht (szOf_of hi1) none 0 0 (Nat.le_refl _) _ (hxe hnil)
        · rename_i hemp
          split at hs
          · rename_i hmax
            simp only [Option.some.injEq, Prod.mk.injEq] at hs
            obtain ⟨rfl, rfl⟩ := hs
            rcases hx with ⟨-, rfl⟩ | ⟨ad, cap, vs, hv, k1, k2, k3, k4, k5⟩
            · simp at hemp
            · have hpos : 0 < new.length := by
                rcases Nat.eq_zero_or_pos new.length with e0 | e0
                · exact absurd (by simpa using e0) (by simpa using hemp)
                · exact e0
              simp only [VRel] at h1
              simp only [maxAppend] at hmax
              have hrun := run_append_nil (P := P) w t o.type e i z ht hi1 hz ad new.length cap vs k5 k3 hpos (by omega)
                (by have := Nat.mul_le_mul hmax hby; omega)
              refine OpWp.value (exec_append ho hc hargs hts (by rw [h1, hv]; exact hrun)) ?_
              refine newArr hi hsz k1 rfl hpos (k2.weak hpx) k4 (grownCap_ge w new.length 0 e) (rest := (Builtin.zeroCells z.cells (grownCap w new.length 0 e - new.length)).toList) (by simp) ?_ rfl rfl rfl rfl
              have := grownCap_ge w new.length 0 e
              simp only [Array.size_append, List.size_toArray, size_zeroCells, hzs, k5, ← Nat.add_mul]
              congr 1
              omega
          · cases hs
      · -- a slice
        rename_i ps own sz' es
        split at hs
        · rename_i hcc
          obtain ⟨rfl, rfl, hmax⟩ := hcc
          simp only [VRel] at h1
          obtain ⟨-, b, off, cap, hv1, hcap, hown, hrows⟩ := h1
          obtain ⟨m1, m2, olds, m3, m4⟩ := hrows.vals
          have mol : olds.length = es.length * i.size := by rw [m3.length, flatten_length m1]
          have mone : ∀ u ∈ olds, u.oneCell' = true := fun u hu => by
            obtain ⟨j, hj⟩ := List.mem_iff_getElem?.1 hu
            exact (m4 j u hj).2
          have mcell : ∀ j u, olds[j]? = some u → w.cell? ((⟨b, off, none⟩ : Addr).add j) = some u := fun j u hu => by rw [add_mk]; exact (m4 j u hu).1
          split at hs
          · rename_i hemp
            simp only [Option.some.injEq, Prod.mk.injEq] at hs
            obtain ⟨rfl, rfl⟩ := hs
            have hnil : new = [] := by simpa using hemp
            refine OpWp.value (w' := w) (exec_append ho hc hargs hts (v := .slice (some ⟨b, off, none⟩) es.length cap) ?_) (Res.same hi ?_)
            · rw [hv1]
              exact run_append_nothing ht (szOf_of hi1) _ _ _ hcap _ (hxe hnil)
            · simp only [VRel]
              exact ⟨.inl (by omega), b, off, cap, rfl, hcap, hown, hrows⟩
          · rename_i hemp
            rcases hx with ⟨-, rfl⟩ | ⟨ad, xcap, vs, hv, k1, k2, k3, k4, k5⟩
            · simp at hemp
            · have hpos : 0 < new.length := by
                rcases Nat.eq_zero_or_pos new.length with e0 | e0
                · exact absurd (by simpa using e0) (by simpa using hemp)
                · exact e0
              simp only [maxAppend] at hmax
              have hfit : Builtin.nextslicecap (es.length + new.length) cap * i.bytes ≤ 281474976710656 ∨ ¬ cap < es.length + new.length := by
                by_cases hlt : cap < es.length + new.length
                · left
                  exact growslice_fits hlt (by have := Nat.mul_le_mul hmax hby; omega)
                · exact .inr hlt
              have hE : ∀ y ∈ es ++ new, y.length = i.size := fun y hy => by
                rcases List.mem_append.1 hy with hy | hy
                · exact m1 y hy
                · exact k1 y hy
              have hVals : VRels V w (emode ps) (es ++ new).flatten (olds ++ vs) := by
                rw [List.flatten_append]
                exact m3.append (k2.weak hpx)
              have hOne : ∀ u ∈ olds ++ vs, u.oneCell' = true := fun u hu => by
                rcases List.mem_append.1 hu with hu | hu
                · exact mone u hu
                · exact k4 u hu
              have hgc := grownCap_ge w (es.length + new.length) cap e
              have hcsize : (olds.toArray ++ vs.toArray ++ Builtin.zeroCells z.cells (grownCap w (es.length + new.length) cap e - (es.length + new.length))).size = grownCap w (es.length + new.length) cap e * i.size := by
                simp only [Array.size_append, List.size_toArray, size_zeroCells, hzs, k5, mol, ← Nat.add_mul]
                congr 1
                omega
              split at hs
              · rename_i hown1
                simp only [Option.some.injEq, Prod.mk.injEq] at hs
                obtain ⟨rfl, rfl⟩ := hs
                have hce := hown.2.1 hown1
                have hlt : cap < es.length + new.length := by omega
                have hrun := run_append_grow (P := P) w t o.type e i z ht hi1 hz ⟨b, off, none⟩ es.length cap olds mol mcell ad new.length xcap vs k5 k3 hlt (by omega) (hfit.resolve_right (fun hn => hn hlt))
                refine OpWp.value (exec_append ho hc hargs hts (by rw [hv1, hv]; exact hrun)) ?_
                exact newArr hi hsz hE (by simp) (by omega) hVals hOne hgc (rest := (Builtin.zeroCells z.cells (grownCap w (es.length + new.length) cap e - (es.length + new.length))).toList) (by simp) hcsize rfl rfl rfl rfl
              · split at hs
                · rename_i hown1 htok
                  obtain ⟨ho3, hfr⟩ := htok
                  simp only [Option.some.injEq, Prod.mk.injEq] at hs
                  obtain ⟨rfl, rfl⟩ := hs
                  obtain ⟨g1, g2, g3⟩ := hown.2.2 ho3
                  have hfrV : V.fr (own - 3) = es.length * i.size := by rw [hi.fr]; exact hfr
                  obtain ⟨t1, t2, cur, el, t3, t4⟩ := g3 hfrV.symm
                  subst t2
                  have ttag := (hi.tok _ g1).1
                  by_cases hlt : cap < es.length + new.length
                  · -- a new array
                    have hrun := run_append_grow (P := P) w t o.type e i z ht hi1 hz ⟨b, 0, none⟩ es.length cap olds mol mcell ad new.length xcap vs k5 k3 hlt (by omega) (hfit.resolve_right (fun hn => hn hlt))
                    refine OpWp.value (exec_append ho hc hargs hts (by rw [hv1, hv]; exact hrun)) ?_
                    obtain ⟨ha1, hi2⟩ := hi.drew (w' := w.drew) rfl rfl rfl rfl
                    have hnew : 0 < new.length * i.size := Nat.mul_pos hpos hsz
                    obtain ⟨V', ha2, hi3, e1, e2, e3, e4, e5⟩ := hi2.regrow g1 (olds.toArray ++ vs.toArray ++ Builtin.zeroCells z.cells (grownCap w (es.length + new.length) cap e - (es.length + new.length))) e (f := (es.length + new.length) * i.size)
                      (by rw [hfrV, Nat.add_mul]; omega) (by rw [hcsize]; exact Nat.mul_le_mul_right _ hgc)
                    have ha := ha1.trans ha2
                    have hheap := heap_alloc_new w.drew (.cells (olds.toArray ++ vs.toArray ++ Builtin.zeroCells z.cells (grownCap w (es.length + new.length) cap e - (es.length + new.length))) e)
                    refine ⟨V', ha, hi3, ?_⟩
                    simp only [VRel]
                    refine ⟨.inl (by omega), w.heap.size, 0, grownCap w (es.length + new.length) cap e, by simp, by simpa using hgc, ⟨hown.1, fun e => absurd e hown1, fun _ => ⟨by omega, by rw [e3]; simp, fun _ => ⟨e2, rfl, _, e, hheap, hcsize⟩⟩⟩, ?_⟩
                    refine rows_block hheap (rest := (Builtin.zeroCells z.cells (grownCap w (es.length + new.length) cap e - (es.length + new.length))).toList) (by simp) hE (VRels.ext ha.ei _ _ _ (fun _ => ha.er) (fun _ => ha.el) hVals) hOne (fun j hj => ?_)
                    rw [flatten_length hE, List.length_append] at hj
                    refine .inr ⟨by rw [e5]; exact hi.hB, .inr ⟨?_, ?_⟩⟩
                    · have e4' : V'.tag w.heap.size = (4, own - 3) := e4
                      rw [e4']
                    · have e4' : V'.tag w.heap.size = (4, own - 3) := e4
                      rw [e4']
                      show j < V'.fr (own - 3)
                      rw [e3]
                      exact hj
                  · -- in place
                    have hroom : es.length + new.length ≤ cap := by omega
                    have hroom' : (es.length + new.length) * i.size ≤ cap * i.size := Nat.mul_le_mul_right _ hroom
                    rw [Nat.add_mul] at hroom'
                    have hrun := run_append_room' (P := P) (w := w) t o.type e el i ht hi1 b es.length cap cur t3 ad new.length xcap vs k5 k3 k4 hroom (by omega)
                    refine OpWp.value (exec_append ho hc hargs hts (by rw [hv1, hv]; exact hrun)) ?_
                    have hheap := setRow_heap w b cur (cur.toList.take (es.length * i.size) ++ vs ++ cur.toList.drop (es.length * i.size + vs.length)).toArray el (0, 0) t3
                    have htake : cur.toList.take (es.length * i.size) = olds := by
                      apply List.ext_getElem?
                      intro j
                      rw [List.getElem?_take]
                      split
                      · rename_i hj
                        have hjl : j < olds.length := by omega
                        have := mcell j olds[j] (List.getElem?_eq_getElem hjl)
                        rw [add_mk, Nat.zero_add, cell_of_row w b j cur el (0, 0) t3] at this
                        rw [Array.getElem?_toList, this, List.getElem?_eq_getElem hjl]
                      · rename_i hj
                        rw [List.getElem?_eq_none (by omega)]
                    rw [htake] at hheap
                    rw [htake]
                    have hcs' : (olds ++ vs ++ cur.toList.drop (es.length * i.size + vs.length)).toArray.size = cur.size := by
                      simp only [List.size_toArray, List.length_append, List.length_drop, Array.length_toList]
                      omega
                    obtain ⟨ha, hinv⟩ := hi.extend g1 (w' := w.setRow b (olds ++ vs ++ cur.toList.drop (es.length * i.size + vs.length)).toArray) (by rw [t1]; exact Upd1.setRow w b _) (by rw [t1]; exact t3) (by rw [t1]; exact hheap) hcs'
                      (fun j hj => by
                        rw [hfrV] at hj
                        have hjl : j < olds.length := by omega
                        have := mcell j olds[j] (List.getElem?_eq_getElem hjl)
                        rw [add_mk, Nat.zero_add, cell_of_row w b j cur el (0, 0) t3] at this
                        rw [this]
                        simp [List.getElem?_append_left, hjl, List.append_assoc]) (f := (es.length + new.length) * i.size) (by rw [hfrV, Nat.add_mul]; omega) (by rw [Nat.add_mul]; omega)
                    refine ⟨_, ha, hinv, ?_⟩
                    simp only [VRel]
                    refine ⟨.inl (by omega), b, 0, cap, by simp, by simpa using hroom, ⟨hown.1, fun e => absurd e hown1, fun _ => ⟨g1, by simp [upd], fun _ => ⟨t1, rfl, _, el, hheap, by rw [hcs']; exact t4⟩⟩⟩, ?_⟩
                    refine rows_block hheap (rest := cur.toList.drop (es.length * i.size + vs.length)) (by simp) hE (VRels.ext ha.ei _ _ _ (fun _ => ha.er) (fun _ => ha.el) hVals) hOne (fun j hj => ?_)
                    rw [flatten_length hE, List.length_append] at hj
                    refine .inr ⟨by rw [← t1]; exact (hi.tag _ (by rw [ttag]; simp)).1, .inr ⟨?_, ?_⟩⟩
                    · show (V.tag b).1 = 4
                      rw [← t1, ttag]
                    · show j < upd V.fr (own - 3) _ (V.tag b).2
                      rw [← t1, ttag]
                      simpa [upd] using hj
                · cases hs
        · cases hs
      · cases hs
  · cases hs

end

end Go.Proofs.YtdnoonnanhnkaaaDoor
