/- Functions: whatever the small language says of a call comes about in the model. -/
import Derived.Test.YtdnoonnanhnkaaaDoorSimCode
set_option linter.unusedVariables false
set_option linter.unusedSimpArgs false
namespace Go.Proofs.YtdnoonnanhnkaaaDoor
open Go Go.RowKit

section
variable {P : Program} {h : Hint} {V : Vw} {w : World} {st : St} {a : Act}

def readRes (tmps : Array Value) : ResultVar → Sem Value
  | .tmp t => pure (tmps.getD t Go.undef)
  | .cell a t => do loadVar t (← asAddr (tmps.getD a Go.undef))

theorem readRes_sound (hi : Inv V st.loc st.sto w) (he : EnvRel V w st.env a.tmps) : ∀ (rs : List ResultVar) (irs : List IRes) (ds : List DVal), compRes P h rs = some irs → resVals st irs = some ds →
    ∃ vs, (rs.mapM (readRes a.tmps)).run P w = .ok vs w ∧ VRels V w 1 ds vs
  | [], irs, ds, hc, hr => by
    simp only [compRes, Option.some.injEq] at hc
    subst hc
    simp only [resVals, Option.some.injEq] at hr
    subst hr
    exact ⟨[], by simp, by simp only [VRels]⟩
  | .tmp t :: rs, irs, ds, hc, hr => by
    simp only [compRes, Option.map_eq_some_iff] at hc
    obtain ⟨irs', h1, rfl⟩ := hc
    simp only [resVals, IRes.val] at hr
    split at hr
    · rename_i v vs e1 e2
      simp only [Option.some.injEq] at e1
      subst e1
      split at hr
      · rename_i hok
        simp only [Option.some.injEq] at hr
        subst hr
        obtain ⟨us, g1, g2⟩ := readRes_sound hi he rs irs' vs h1 e2
        refine ⟨a.tmps.getD t Go.undef :: us, ?_, ?_⟩
        · simp [List.mapM_cons, readRes, g1]
        · simp only [VRels]
          exact ⟨_, _, rfl, okVal_up (he t) hok, g2⟩
      · cases hr
    · cases hr
  | .cell b t :: rs, irs, ds, hc, hr => by
    simp only [compRes] at hc
    split at hc
    · rename_i sz is hz h1
      split at hc
      · simp only [Option.some.injEq] at hc
        subst hc
        simp only [resVals, IRes.val] at hr
        split at hr
        · rename_i v vs e1 e2
          split at hr
          · rename_i hok
            simp only [Option.some.injEq] at hr
            subst hr
            obtain ⟨us, g1, g2⟩ := readRes_sound hi he rs is vs h1 e2
            have hb := he b
            generalize st.env b = x' at hb e1
            unfold readLoc at e1
            split at e1
            · rename_i r' ep off e
              simp only [List.cons.injEq, and_true] at e
              subst e
              split at e1
              · rename_i hcd
                obtain ⟨rfl, rfl⟩ := hcd
                split at e1
                · rename_i cs hcs
                  simp only [VRel] at hb
                  obtain ⟨-, h0, -, A, hv, hA⟩ := hb
                  have hA := hA (hi.ep r').symm
                  have hroot := (hi.root r' (by rw [hi.ep]; exact h0)).2
                  rw [hcs] at hroot
                  obtain ⟨u, hru, hrel⟩ := load_block (P := P) hz hroot e1
                  refine ⟨u :: us, ?_, ?_⟩
                  · simp only [Instr.loadAt, Instr.sureAddr, Sem.run_bind, Sem.run_pure, Result.andThen_ok] at hru
                    rw [Array.getD_eq_getD_getElem?] at hv
                    simp [List.mapM_cons, readRes, g1, hv, hA, asAddr, hru]
                  · simp only [VRels]
                    exact ⟨_, _, rfl, okVal_up hrel hok, g2⟩
                · cases e1
              · cases e1
            · cases e1
          · cases hr
        · cases hr
      · cases hc
    · cases hc

theorem results_sound {fn : Func} {F : IFunc} {d : DVal} (hi : Inv V st.loc st.sto w) (he : EnvRel V w st.env a.tmps) (hc : compRes P h fn.results.toList = some F.res) (hr : resVal st F.res = some d) :
    ∃ v, (results fn a.tmps).run P w = .ok v w ∧ VRel V w 1 d v := by
  unfold resVal at hr
  have hrun : (results fn a.tmps) = (fn.results.toList.mapM (readRes a.tmps)) >>= fun vs => pure (if h : vs.toArray.size = 1 then vs.toArray[0] else .tuple vs.toArray) := by
    have : (results fn a.tmps) = (List.toArray <$> (fn.results.toList.mapM (readRes a.tmps))) >>= fun vs => pure (if h : vs.size = 1 then vs[0] else .tuple vs) := by
      rw [← Array.mapM_eq_mapM_toList]
      rfl
    rw [this, map_eq_pure_bind, bind_assoc]
    simp only [pure_bind]
  split at hr
  · rename_i v e
    simp only [Option.some.injEq] at hr
    subst hr
    obtain ⟨vs, g1, g2⟩ := readRes_sound hi he _ _ _ hc e
    obtain ⟨u, rfl, g3⟩ := g2.one
    exact ⟨u, by rw [hrun, Sem.run_bind, g1]; simp, g3⟩
  · rename_i ds hne e
    simp only [Option.some.injEq] at hr
    subst hr
    obtain ⟨vs, g1, g2⟩ := readRes_sound hi he _ _ _ hc e
    refine ⟨.tuple vs.toArray, ?_, by simp only [VRel]; exact ⟨_, rfl, by simpa using g2⟩⟩
    have hl : vs.length ≠ 1 := by
      rw [g2.length]
      intro h1
      match ds, h1 with
      | [d], _ => exact hne d rfl
    rw [hrun, Sem.run_bind, g1]
    simp [hl]
  · cases hr
end

/-- The locals are gone. -/
def Vw.leave (V : Vw) : Vw := { V with ep := fun _ => 0 }

theorem Inv.leave {V : Vw} {L : Nat → Nat × DVal} {σ : Sto} {w : World} (h : Inv V L σ w) : Inv V.leave noRoots σ w := by
  have hI : ExtI V w V.leave w := fun b n hn => ⟨hn, rfl⟩
  have hS : ExtS V w V.leave w := ⟨Nat.le_refl _, fun _ _ => rfl, Nat.le_refl _, fun _ _ => Nat.le_refl _, fun _ _ _ => ⟨rfl, fun c el h => ⟨c, h, rfl⟩⟩⟩
  exact ⟨h.hB, h.tag, fun _ => rfl, fun r hr => by simp [Vw.leave] at hr, h.nobj, fun id hid => ⟨(h.obj id hid).1, (h.obj id hid).2.ext hI hS rfl⟩, h.ntok, h.fr, h.tag4, h.tok⟩

theorem VRel.leave {V : Vw} {w : World} {d : DVal} {v : Value} (h : VRel V w 1 d v) : VRel V.leave w 1 d v :=
  VRel.ext (V := V) (V' := V.leave) (w := w) (fun b n hn => ⟨hn, rfl⟩) _ _ _ (fun _ => ⟨Nat.le_refl _, fun _ _ => rfl, Nat.le_refl _, fun _ _ => Nat.le_refl _, fun _ _ _ => ⟨rfl, fun c el h => ⟨c, h, rfl⟩⟩⟩) (fun e => by omega) h

theorem Adv.leave {V V' : Vw} {w w' : World} (h : Adv V w V' w') (h0 : ∀ r, V.ep r = 0) : Adv V w V'.leave w' :=
  ⟨h.ei, ⟨h.er.nobj, h.er.phi, h.er.ntok, h.er.fr, h.er.tb⟩, ⟨fun r => by rw [h0]; exact Nat.zero_le _, fun r hr => by rw [h0] at hr; omega⟩, h.B, h.zero, h.frame, h.size, h.os, h.tape, h.output, h.I0⟩

/-- A function whose code the small language knows. -/
def Knows (P : Program) (f : FuncId) (F : IFunc) : Prop := ∃ fn h, P.funcs[f]? = some fn ∧ (fn.name == "runtime.NumGoroutine") = false ∧ compFunc P h fn = some F

theorem Knows.callable {P : Program} {f : FuncId} {F : IFunc} (hk : Knows P f F) : callable P f := by
  obtain ⟨fn, h, h1, h2, h3⟩ := hk
  refine ⟨fn, h1, h2, ?_⟩
  unfold compFunc at h3
  cases hb : fn.body with
  | none => rw [hb] at h3; simp at h3
  | some c => rfl

section
variable {P : Program} {Gl : List (Nat × Value)} {cp : Nat → List DVal → Option DVal} {ci : Nat → List DVal → Sto → Option (DVal × Sto)}

theorem fun_sound (hcp : ∀ f, PureOk P Gl f (cp f)) (hci : ∀ f, ImpOk P Gl f (ci f)) {n : Nat} {f : FuncId} {F : IFunc} (hk : Knows P f F) {V : Vw} {σ σ' : Sto} {w : World} {ds : List DVal} {vs : List Value} {r : DVal}
    (hi : Inv V noRoots σ w) (hG : HasG Gl V.imm w) (hv : VRels V w 0 ds vs) (hr : runFun cp ci n F ds σ = some (r, σ')) :
    Calls P f vs.toArray w fun e w' => ∃ v V', e = .returned v ∧ Adv V w V' w' ∧ Inv V' noRoots σ' w' ∧ VRel V' w' 1 r v := by
  obtain ⟨fn, h, h1, h2, h3⟩ := hk
  unfold compFunc at h3
  split at h3
  · rename_i c hbody
    split at h3
    · rename_i b rs hb hrs
      split at h3
      · rename_i hle
        simp only [Option.some.injEq] at h3
        subst h3
        unfold runFun at hr
        simp only at hr
        split at hr
        · rename_i hlen
          have hvl := hv.length
          have hsize : (vs.toArray ++ Array.replicate (fn.ntmps - vs.toArray.size) Go.undef).size = fn.ntmps := by simp; omega
          have hgood : Good V w fn.ntmps (enter ds σ) { tmps := vs.toArray ++ Array.replicate (fn.ntmps - vs.toArray.size) Go.undef, defers := [] } w := by
            refine ⟨V, .refl V w, hi, fun s => ?_, hsize, rfl⟩
            show VRel V w 0 (ds.getD s .undef) _
            rw [List.getD_eq_getElem?_getD, Array.getD_eq_getD_getElem?]
            cases hd : ds[s]? with
            | some d =>
              obtain ⟨v, hvs, hrel⟩ := hv.get hd
              have hlt : s < vs.length := (List.getElem?_eq_some_iff.1 hvs).1
              rw [Array.getElem?_append_left (by simpa using hlt)]
              simpa [hvs] using hrel
            | none =>
              have hge : vs.length ≤ s := by have := List.getElem?_eq_none_iff.1 hd; omega
              rw [Array.getElem?_append_right (by simpa using hge)]
              have : (Array.replicate (fn.ntmps - vs.toArray.size) Go.undef)[s - vs.toArray.size]?.getD Go.undef = Go.undef := by
                cases hq : (Array.replicate (fn.ntmps - vs.toArray.size) Go.undef)[s - vs.toArray.size]? with
                | none => rfl
                | some u => have := Array.getElem?_eq_some_iff.1 hq; obtain ⟨_, hu⟩ := this; simp at hu; simp [← hu]
              rw [this]
              simp [VRel]
          have hend : ∀ st, resVal st rs = some r → st.sto = σ' → ∀ a' w', Good V w fn.ntmps st a' w' →
              a'.defers = [] ∧ ∃ v, (results fn a'.tmps).run P w' = .ok v w' ∧ ∃ v' V', Ending.returned v = .returned v' ∧ Adv V w V' w' ∧ Inv V' noRoots σ' w' ∧ VRel V' w' 1 r v' := by
            intro st hres hsto a' w' hg
            obtain ⟨V1, g1, g2, g3, g4, g5⟩ := hg
            obtain ⟨v, hrun, hrel⟩ := results_sound (fn := fn) (F := ⟨fn.params.size + fn.nfree, rs, b⟩) g2 g3 hrs hres
            subst hsto
            exact ⟨g5, v, hrun, v, V1.leave, rfl, g1.leave (fun r => by rw [hi.ep]; rfl), g2.leave, hrel.leave⟩
          refine calls_of_wp h1 hbody ?_
          split at hr
          · rename_i st hst
            simp only [Option.map_eq_some_iff, Prod.mk.injEq] at hr
            obtain ⟨v, hv', rfl, rfl⟩ := hr
            exact code_sound hcp hci hG c b hb _ _ _ _ _ _ hst hgood fun a' w' hg => hend st hv' rfl a' w' hg
          · rename_i st hst
            simp only [Option.map_eq_some_iff, Prod.mk.injEq] at hr
            obtain ⟨v, hv', rfl, rfl⟩ := hr
            exact code_sound hcp hci hG c b hb _ _ _ _ _ _ hst hgood fun a' w' hg => hend st hv' rfl a' w' hg
          · cases hr
        · cases hr
      · cases h3
    · cases h3
  · cases h3

theorem VI_inv {I : Nat → Nat → Prop} {w : World} : Inv (VI I w.heap.size) noRoots emptySto w :=
  ⟨Nat.le_refl _, fun b hb => by simp [VI] at hb, fun _ => rfl, fun r hr => by simp [VI] at hr, rfl, fun id hid => by simp [VI] at hid, rfl, rfl, fun b hb => by simp [VI] at hb, fun g hg => by simp [VI] at hg⟩

theorem hand_sound {I : Nat → Nat → Prop} {w w' : World} {V' : Vw} {σ' : Sto} {d r : DVal} {v : Value} (ha : Adv (VI I w.heap.size) w V' w') (hi : Inv V' noRoots σ' w') (hv : VRel V' w' 1 d v) (hr : d.handBack σ' = some r) :
    Below w.heap.size w w' ∧ HRel I w w' r v := by
  have hB : V'.B = w.heap.size := ha.B
  have hI0 : V'.I0 = I := ha.I0
  refine ⟨⟨ha.os, ha.tape, ha.output, ha.size, fun b hb => ha.frame b hb rfl⟩, ?_⟩
  have himm : ∀ b n, V'.imm b n → newI I w w' none 0 b n := by
    intro b n hn
    have hlt := hi.imm_lt hn
    rcases hn with ⟨h1, h2⟩ | ⟨h1, -⟩
    · rw [hI0] at h2; exact .inl h2
    · exact .inr ⟨by omega, hlt, fun e => by simp at e⟩
  have hmap : ∀ {d : DVal} {v : Value}, VRel V' w' 2 d v → VRel (VI (newI I w w' none 0) w'.heap.size) w' 2 d v := fun h =>
    VRel.ext (V := V') (w := w') (fun b n hn => ⟨VI_imm.2 ⟨hi.imm_lt hn, himm b n hn⟩, rfl⟩) _ _ _ (fun e => by omega) (fun e => by omega) h
  have hseal : ∀ {d r : DVal} {v : Value}, VRel V' w' 0 d v → d.sealVal = some r → HRel I w w' r v := by
    intro d r v h0 hs
    have h2 := hmap (sealVal_rel h0 hs)
    unfold HRel
    split
    · rename_i sz es
      exfalso
      simp only [VRel] at h2
      rcases h2.1 with hh | ⟨-, hh⟩ <;> omega
    · exact h2
  unfold DVal.handBack at hr
  split at hr
  · rename_i own sz es
    simp only [Option.some.injEq] at hr
    subst hr
    simp only [VRel] at hv
    obtain ⟨-, b, off, cap, rfl, h1, h2, h3⟩ := hv
    have plain : ∀ q, q ≤ 1 → (q = 1 → own = 1) → HRel I w w' (.slice false q sz es) (.slice (some ⟨b, off, none⟩) es.length cap) := by
      intro q hq hq1
      have : VRel V' w' 2 (.slice false q sz es) (.slice (some ⟨b, off, none⟩) es.length cap) := by
        simp only [VRel]
        exact ⟨.inr ⟨trivial, hq⟩, b, off, cap, rfl, h1, ⟨by omega, fun e => h2.2.1 (hq1 e), fun e => by omega⟩, h3⟩
      unfold HRel
      split
      · rename_i sz' es' e
        simp only [DVal.slice.injEq] at e
        omega
      · exact hmap this
    split
    · rename_i e
      exact plain 1 (by omega) (fun _ => e)
    · split
      · rename_i e1 e2
        obtain ⟨e2, e3⟩ := e2
        obtain ⟨k1, k2, k3⟩ := h2.2.2 e2
        have hfr : es.length * sz = V'.fr (own - 3) := by rw [hi.fr]; exact e3.symm
        obtain ⟨k4, rfl, c, el, k5, k6⟩ := k3 hfr
        have htag := (hi.tok (own - 3) k1).1
        rw [k4] at htag
        have hBb := (hi.tag b (by rw [htag]; simp)).1
        unfold HRel
        simp only
        refine ⟨b, cap, c, el, rfl, by omega, k5, k6, h1, ?_⟩
        refine RowsRel.ext (V := V') (w := w') (fun b' n hn => ⟨VI_imm.2 ⟨hi.imm_lt hn, ?_⟩, rfl⟩) _ _ _ _ _ (fun e => by omega) (fun e => by omega) h3
        have hlt := hi.imm_lt hn
        rcases hn with ⟨m1, m2⟩ | ⟨m1, m2⟩
        · rw [hI0] at m2; exact .inl m2
        · refine .inr ⟨by omega, hlt, fun e => ?_⟩
          simp only [Option.some.injEq] at e
          subst e
          rw [htag] at m2
          simp only at m2
          rcases m2 with m2 | ⟨-, m2⟩
          · omega
          · omega
      · exact plain 0 (by omega) (fun e => by omega)
  · rename_i vs
    simp only [Option.map_eq_some_iff] at hr
    obtain ⟨es, hs, rfl⟩ := hr
    simp only [VRel] at hv
    obtain ⟨us, rfl, hus⟩ := hv
    have := sealVals_rel hus.open' hs
    unfold HRel
    refine hmap ?_
    simp only [VRel]
    exact ⟨us, rfl, this⟩
  · exact hseal hv.open' hr

end

/-- Every call that the small language answers, the model answers so. -/
theorem ev_sound {P : Program} {Gl : List (Nat × Value)} {prog : IProg} (hb : ∀ f F, prog f = some (.body F) → Knows P f F) (hp : ∀ f sem, prog f = some (.prim sem) → PureOk P Gl f sem) :
    ∀ n, (∀ f, PureOk P Gl f (evalP prog n f)) ∧ ∀ f, ImpOk P Gl f (evalI prog n f)
  | 0 => ⟨fun f I w ds vs r _ _ _ hr => by simp [evalP, ev] at hr, fun f V σ σ' w ds vs r _ _ _ hr => by simp [evalI, ev] at hr⟩
  | n + 1 => by
    obtain ⟨ihp, ihi⟩ := ev_sound hb hp n
    refine ⟨fun f I w ds vs r hI hG hv hr => ?_, fun f V σ σ' w ds vs r hi hG hv hr => ?_⟩
    · unfold evalP ev at hr
      split at hr
      · rename_i F hF
        simp only [Option.map_eq_some_iff, Option.bind_eq_some_iff] at hr
        obtain ⟨x, ⟨y, hy, z, hz, rfl⟩, rfl⟩ := hr
        refine ⟨(hb f F hF).callable, ?_⟩
        obtain ⟨d, σ'⟩ := y
        refine (fun_sound (cp := evalP prog n) (ci := evalI prog n) ihp ihi (hb f F hF) VI_inv (hG.ext fun b n hn => ⟨VI_imm.2 ⟨hI b n hn, hn⟩, rfl⟩) hv.open' hy).mono ?_
        rintro e w' ⟨v, V', rfl, ha, hinv, hrel⟩
        obtain ⟨q1, q2⟩ := hand_sound ha hinv hrel hz
        exact ⟨v, rfl, q1, q2⟩
      · rename_i sem hF
        simp only [Option.map_eq_some_iff] at hr
        obtain ⟨x, ⟨y, hy, rfl⟩, rfl⟩ := hr
        exact hp f sem hF I w ds vs y hI hG hv hy
      · simp at hr
    · unfold evalI ev at hr
      split at hr
      · rename_i F hF
        exact ⟨(hb f F hF).callable, fun_sound (cp := evalP prog n) (ci := evalI prog n) ihp ihi (hb f F hF) hi hG hv.open' hr⟩
      · cases hr

end Go.Proofs.YtdnoonnanhnkaaaDoor
