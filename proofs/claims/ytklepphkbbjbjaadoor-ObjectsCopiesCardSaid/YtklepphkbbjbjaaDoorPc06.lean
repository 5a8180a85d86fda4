/- Texts of this proof, part 6: see the card for what is proved. -/
import Derived.Test.YtklepphkbbjbjaaDoorPc05
namespace Go.Proofs.YtklepphkbbjbjaaDoor
set_option linter.unusedVariables false
set_option linter.unusedSimpArgs false
set_option maxRecDepth 20000
set_option maxHeartbeats 8000000
open Go
def stepV (S : List ObjV × Int) (x : StepV) : List ObjV × Int :=
  if x.kind = 0 then (addV S.1 S.2 x.dir x.name x.what x.label).1 else if x.kind = 1 then ((remV S.1 x.num).1, S.2) else ((labV S.1 x.num x.label).1, S.2)
def playV (S : List ObjV × Int) (l : List StepV) : List ObjV × Int := l.foldl stepV S
theorem addV_wf {os : List ObjV} {last : Int} (h : Wf os last) (dir : Int) (name : Bs) (kind label : Int) : Wf (addV os last dir name kind label).1.1 (addV os last dir name kind label).1.2 ∧ (addV os last dir name kind label).1.2 ≤ last + 1 := by
  unfold addV
  split
  · rename_i e
    exact ⟨h.add (addE_zero.1 e).1 label, Int.le_refl _⟩
  · exact ⟨h, by show last ≤ last + 1; omega⟩
theorem remV_wf {os : List ObjV} {last : Int} (h : Wf os last) (k : Int) : Wf (remV os k).1 last := by
  unfold remV
  split
  · rename_i e
    unfold remE at e
    split at e
    · cases e
    · split at e
      · cases e
      · rename_i c
        exact h.rem (fun h1 => c (.inl h1)) (Decidable.not_not.1 fun h2 => c (.inr h2))
  · exact h
theorem labV_wf {os : List ObjV} {last : Int} (h : Wf os last) (k lab : Int) : Wf (labV os k lab).1 last := by
  unfold labV
  split
  · exact h.lab k lab
  · exact h
theorem stepV_wf {S : List ObjV × Int} (h : Wf S.1 S.2) (x : StepV) : Wf (stepV S x).1 (stepV S x).2 ∧ (stepV S x).2 ≤ S.2 + 1 := by
  unfold stepV
  split
  · exact addV_wf h _ _ _ _
  · split
    · exact ⟨remV_wf h _, by show S.2 ≤ S.2 + 1; omega⟩
    · exact ⟨labV_wf h _ _, by show S.2 ≤ S.2 + 1; omega⟩
theorem playV_wf : ∀ (l : List StepV) {S : List ObjV × Int}, Wf S.1 S.2 → Wf (playV S l).1 (playV S l).2 ∧ (playV S l).2 ≤ S.2 + l.length
  | [], S, h => ⟨h, by simp [playV]⟩
  | x :: l, S, h => by
    obtain ⟨h1, h2⟩ := stepV_wf h x
    obtain ⟨h3, h4⟩ := playV_wf l h1
    refine ⟨h3, ?_⟩
    show (playV (stepV S x) l).2 ≤ _
    simp only [List.length_cons, Int.natCast_add, Int.natCast_one]
    omega
theorem l15 {n M : Nat} (steps : Sl StepV) (hM : ∀ x ∈ steps.l, x.name.length ≤ M) (hM2 : M ≤ 9223372036854775807) (hl : steps.l.length ≤ 100) (hn : 400000 + M ≤ n) (b0 z0 : DVal) (t0 : Nat) : ∀ (r i m : Nat) (s : StaV) (p : Pl) (σ : Sto), i + r = steps.l.length → r < m →
    Wf s.objs.l s.last → s.last + r ≤ 900 → TreeAt σ p s.objs.l s.last → p.t = t0 → (∀ w : StaV, jwrSem 0 2 [z0, w.d] = some w.d) →
    ∃ z σ' p', iterJ 0 (L15_0 (cpJ PR n) (ciJ PR n) n (.obj t0 0) (slD steps.z 6 (steps.l.map StepV.row))) m [.int .i64 i, b0, z0, s.d] σ =
      some (.done (.tup [(StaV.mk ⟨z, (playV (s.objs.l, s.last) (steps.l.drop i)).1⟩ (playV (s.objs.l, s.last) (steps.l.drop i)).2).d, .bool true]) σ') ∧
      TreeAt σ' p' (playV (s.objs.l, s.last) (steps.l.drop i)).1 (playV (s.objs.l, s.last) (steps.l.drop i)).2 ∧ Frm σ σ' p p' s.objs.l (playV (s.objs.l, s.last) (steps.l.drop i)).1 := by
  intro r
  induction r with
  | zero =>
    intro i m s p σ hi hm hw hb h ht hz0
    obtain ⟨m, rfl⟩ : ∃ q, m = q + 1 := ⟨m - 1, by omega⟩
    have hi' : ¬ ((i : Int) < steps.l.length) := by omega
    rw [List.drop_eq_nil_of_le (by omega)]
    refine ⟨s.objs.z, σ, p, iterJ_done ?_, h, Frm.of_kp (Kp.refl σ) p _⟩
    have hz := hz0 s
    simp -implicitDefEqProofs [L15_0, B15_0, hi', hz, -jwrSem.eq_1]
    rfl
  | succ r ih =>
    intro i m s p σ hi hm hw hb h ht hz0
    obtain ⟨m, rfl⟩ : ∃ q, m = q + 1 := ⟨m - 1, by omega⟩
    have hi' : ((i : Int) < steps.l.length) := by omega
    obtain ⟨x, hx⟩ := get_some (by omega : i < steps.l.length)
    have hw2 := wrap_succ (i := i) (by omega)
    simp only [Int.natCast_add, Int.natCast_one] at hw2
    have hxM := hM x (List.mem_of_getElem? hx)
    rw [drop_get hx]
    -- one call on both sides
    have key : ∃ (z : Zs) (σ1 : Sto) (p1 : Pl), L15_0 (cpJ PR n) (ciJ PR n) n (.obj t0 0) (slD steps.z 6 (steps.l.map StepV.row)) [.int .i64 i, b0, z0, s.d] σ = some (.next 0 [.int .i64 ((i + 1 : Nat) : Int), b0, z0, (StaV.mk ⟨z, (stepV (s.objs.l, s.last) x).1⟩ (stepV (s.objs.l, s.last) x).2).d] σ1) ∧
        TreeAt σ1 p1 (stepV (s.objs.l, s.last) x).1 (stepV (s.objs.l, s.last) x).2 ∧ Frm σ σ1 p p1 s.objs.l (stepV (s.objs.l, s.last) x).1 := by
      unfold stepV
      by_cases k0 : x.kind = 0
      · have k0' : (x.kind == 0) = true := by simpa using k0
        obtain ⟨z, h34⟩ := e34 (n := n) s hw (by omega) x.dir x.name x.what x.label (by omega) (by omega)
        obtain ⟨σ1, p1, h11, t1, f1⟩ := e11 (n := n) hw (by omega) (by omega) h x.dir x.name x.what x.label
        rw [ht] at h11
        rw [if_pos k0]
        refine ⟨z, σ1, p1, ?_, t1, f1⟩
        have c1 := StaV_wr (StaV.mk ⟨z, (addV s.objs.l s.last x.dir x.name x.what x.label).1.1⟩ (addV s.objs.l s.last x.dir x.name x.what x.label).1.2) .nils (.int .i64 0)
        have c2 := StaV_whole (StaV.mk ⟨z, (addV s.objs.l s.last x.dir x.name x.what x.label).1.1⟩ (addV s.objs.l s.last x.dir x.name x.what x.label).1.2)
        have c3 := StaV_wr2 s (StaV.mk ⟨z, (addV s.objs.l s.last x.dir x.name x.what x.label).1.1⟩ (addV s.objs.l s.last x.dir x.name x.what x.label).1.2)
        generalize (StaV.mk ⟨z, (addV s.objs.l s.last x.dir x.name x.what x.label).1.1⟩ (addV s.objs.l s.last x.dir x.name x.what x.label).1.2).d = SD at *
        generalize (addV s.objs.l s.last x.dir x.name x.what x.label).2.1 = A1 at *
        generalize (addV s.objs.l s.last x.dir x.name x.what x.label).2.2 = A2 at *
        simp -implicitDefEqProofs [L15_0, B15_0, hi', hx, k0, k0', h34, h11, c1, c2, c3, hw2, -jwrSem.eq_1, -fldSem.eq_1]
      · have k0' : (x.kind == 0) = false := by simpa using k0
        rw [if_neg k0]
        by_cases k1 : x.kind = 1
        · have k1' : (x.kind == 1) = true := by simpa using k1
          obtain ⟨z, h35⟩ := e35 (n := n) s hw (by omega) x.num (by omega)
          obtain ⟨σ1, h12, t1, f1⟩ := e12 (n := n) hw (by omega) (by omega) h x.num
          rw [ht] at h12
          rw [if_pos k1]
          refine ⟨z, σ1, p, ?_, t1, f1⟩
          have c1 := StaV_wr (StaV.mk ⟨z, (remV s.objs.l x.num).1⟩ s.last) .nils (.int .i64 0)
          have c2 := StaV_whole (StaV.mk ⟨z, (remV s.objs.l x.num).1⟩ s.last)
          have c3 := StaV_wr2 s (StaV.mk ⟨z, (remV s.objs.l x.num).1⟩ s.last)
          generalize (StaV.mk ⟨z, (remV s.objs.l x.num).1⟩ s.last).d = SD at *
          generalize (remV s.objs.l x.num).2 = A2 at *
          simp -implicitDefEqProofs [L15_0, B15_0, hi', hx, k0, k0', k1, k1', h35, h12, c1, c2, c3, hw2, -jwrSem.eq_1, -fldSem.eq_1]
        · have k1' : (x.kind == 1) = false := by simpa using k1
          obtain ⟨z, h36⟩ := e36 (n := n) s hw x.num x.label (by omega)
          obtain ⟨σ1, h29, t1, f1⟩ := e29 (n := n) hw (by omega) h x.num x.label
          rw [ht] at h29
          rw [if_neg k1]
          refine ⟨z, σ1, p, ?_, t1, f1⟩
          have c1 := StaV_wr (StaV.mk ⟨z, (labV s.objs.l x.num x.label).1⟩ s.last) .nils (.int .i64 0)
          have c2 := StaV_whole (StaV.mk ⟨z, (labV s.objs.l x.num x.label).1⟩ s.last)
          have c3 := StaV_wr2 s (StaV.mk ⟨z, (labV s.objs.l x.num x.label).1⟩ s.last)
          generalize (StaV.mk ⟨z, (labV s.objs.l x.num x.label).1⟩ s.last).d = SD at *
          generalize (labV s.objs.l x.num x.label).2 = A2 at *
          simp -implicitDefEqProofs [L15_0, B15_0, hi', hx, k0, k0', k1, k1', h36, h29, c1, c2, c3, hw2, -jwrSem.eq_1, -fldSem.eq_1]
    obtain ⟨z, σ1, p1, g1, g2, g3⟩ := key
    obtain ⟨w1, w2⟩ := stepV_wf (S := (s.objs.l, s.last)) hw x
    obtain ⟨z', σ', p', q1, q2, q3⟩ := ih (i + 1) m (StaV.mk ⟨z, (stepV (s.objs.l, s.last) x).1⟩ (stepV (s.objs.l, s.last) x).2) p1 σ1 (by omega) (by omega) w1 (by
      show (stepV (s.objs.l, s.last) x).2 + (r : Int) ≤ 900
      simp only [Int.natCast_add, Int.natCast_one] at hb
      have : (stepV (s.objs.l, s.last) x).2 ≤ s.last + 1 := w2
      omega) g2 (g3.same.trans ht) hz0
    refine ⟨z', σ', p', ?_, q2, g3.trans q3⟩
    rw [iterJ_next' g1]
    exact q1
theorem e15 {n M : Nat} (steps : Sl StepV) (hM : ∀ x ∈ steps.l, x.name.length ≤ M) (hM2 : M ≤ 9223372036854775807) (hl : steps.l.length ≤ 100) (hn : 400001 + M ≤ n) (s : StaV) {p : Pl} {σ : Sto} (hw : Wf s.objs.l s.last) (hb : s.last + steps.l.length ≤ 900) (h : TreeAt σ p s.objs.l s.last) :
    ∃ z σ' p', ciJ PR n 15 [.obj p.t 0, s.d, slD steps.z 6 (steps.l.map StepV.row)] σ =
      some (.tup [(StaV.mk ⟨z, (playV (s.objs.l, s.last) steps.l).1⟩ (playV (s.objs.l, s.last) steps.l).2).d, .bool true], σ') ∧
      TreeAt σ' p' (playV (s.objs.l, s.last) steps.l).1 (playV (s.objs.l, s.last) steps.l).2 ∧ Frm σ σ' p p' s.objs.l (playV (s.objs.l, s.last) steps.l).1 := by
  obtain ⟨n, rfl⟩ : ∃ m, n = m + 1 := ⟨n - 1, by omega⟩
  obtain ⟨z, σ', p', h1, h2, h3⟩ := l15 (n := n) steps hM hM2 hl (by omega) (.bool false) (.agg [.nils, .int .i64 0]) p.t steps.l.length 0 n s p σ (by omega) (by omega) hw hb h rfl (fun w => StaV_wr w _ _)
  simp only [Int.natCast_zero, List.drop_zero] at h1 h2 h3
  refine ⟨z, σ', p', ?_, h2, h3⟩
  rw [v15]
  simp -implicitDefEqProofs [D15, h1]
theorem own_idx {σ : Sto} {sz : Nat} {v : DVal} {l : List (List DVal)} (h : Own σ sz v l) {i : Nat} {e : List DVal} (hi : l[i]? = some e) : idxSSem sz [v, .int .i64 i] = some (.elem e 0) := by
  rcases h with ⟨rfl, rfl⟩ | rfl | ⟨t, rfl, -⟩
  · simp at hi
  · simp [idxSSem, hi]
  · simp [idxSSem, hi]
theorem Wf0.find_path {os : List ObjV} {last : Int} (h : Wf0 os last) : ∀ x ∈ os, findA os (rpath os x.num) = (x.num, true) := fun x hx => by
  unfold rpath
  by_cases h1 : x.num = 1
  · rw [if_pos h1, h1]; simp [findA]
  · rw [if_neg h1]
    have hfn := h.fnd_names x hx
    have hno := h.names_no x hx
    have hst := h.names_step hx h1
    unfold path
    cases hnm : names os x.num with
    | nil => rw [hnm] at hst; simp at hst
    | cons a r =>
      rw [hnm] at hfn hno
      have hj : (a :: r).flatMap (fun q => (47 : UInt8) :: q) = 47 :: joinC 47 a r := by simp [joinC]
      have hne : joinC 47 a r ≠ [] := fun e => by
        have h2 := (path_ne h hx h1).2
        unfold path at h2
        rw [hnm, hj, e] at h2
        exact h2 rfl
      rw [hj]
      simp only [findA, if_true, if_neg hne]
      rw [parts_join (hno a (by simp)) (fun q hq => hno q (List.mem_cons_of_mem _ hq)), hfn]
theorem rpath_len {os : List ObjV} {last : Int} (h : Wf os last) (k : Int) : (pathA os k).1.length ≤ 256 := by
  unfold pathA
  split
  · rename_i hk
    unfold hasN at hk
    cases hf : fo os k with
    | none => rw [hf] at hk; cases hk
    | some r =>
      obtain ⟨i, x⟩ := r
      obtain ⟨-, hx, rfl⟩ := fo_some hf
      show (rpath os x.num).length ≤ 256
      unfold rpath
      split
      · simp
      · exact h.short x hx
  · simp
theorem l26 {n : Nat} (hn : 1100000 ≤ n) (s : StaV) (hw : Wf s.objs.l s.last) (hb : s.last ≤ 900) {p : Pl} {v : DVal} {σ0 : Sto} {L : List Int} (hv : Own σ0 1 v (intR L)) (hL : L.length ≤ 1000) (u : DVal) : ∀ (r i m : Nat) (σ : Sto), i + r = L.length → r < m → TreeAt σ p s.objs.l s.last →
    ∃ σ', iterJ 0 (L26_0 (cpJ PR n) (ciJ PR n) n (.obj p.t 0) s.d v) m [.int .i64 i, u] σ = some (.done (.bool true) σ') ∧ Kp σ σ' := by
  intro r
  have hlen := hw.len
  have hls := own_len hv
  simp only [intR, List.length_map] at hls
  induction r with
  | zero =>
    intro i m σ hi hm h
    obtain ⟨m, rfl⟩ : ∃ q, m = q + 1 := ⟨m - 1, by omega⟩
    have hi' : ¬ ((i : Int) < L.length) := by omega
    refine ⟨σ, iterJ_done ?_, Kp.refl σ⟩
    simp -implicitDefEqProofs [L26_0, B26_0, hi', hls]
  | succ r ih =>
    intro i m σ hi hm h
    obtain ⟨m, rfl⟩ : ∃ q, m = q + 1 := ⟨m - 1, by omega⟩
    have hi' : ((i : Int) < L.length) := by omega
    obtain ⟨k, hk⟩ := get_some (by omega : i < L.length)
    have hw2 := wrap_succ (i := i) (by omega)
    simp only [Int.natCast_add, Int.natCast_one] at hw2
    have hix := own_idx hv (i := i) (e := [.int .i64 k]) (by simp [intR, hk])
    have h25 := e25 h (n := n) hw (by omega) (by omega) k
    have h38 := e38 (n := n) s hw (by omega) (by omega) k
    have h18 := e18 h (n := n) (by omega) k
    have h19 := e19 (n := n) s (by omega) (by omega) k
    have h28 := e28 h (n := n) (by omega) k
    have h43 := e43 (n := n) s (by omega) (by omega) k
    have h24 := e24 h (n := n) (by omega) k
    have h44 := e44 (n := n) s (by omega) (by omega) k
    have h21 := e21 hw (n := n) (by omega) h k
    obtain ⟨z, h22⟩ := e22 (n := n) s (by omega) (by omega) k
    have hcl : (chl s.objs.l k).length ≤ 256 := by rw [(chl_perm _ k).length_eq]; exact Nat.le_trans (List.length_filter_le _ _) hlen
    have h20 := e20 (n := n) .nil z ((chl s.objs.l k).map ObjV.num) ((chl s.objs.l k).map ObjV.num) (by simp; omega) (by simp; omega) (by omega)
    rw [decide_eq_true rfl, ← numR_int] at h20
    have hse : (chA σ s.objs.l k).1.sealVal = some (slD .nil 1 (numR (chl s.objs.l k))) := sealVal_apd
    have hst : (slD z 1 (numR (chl s.objs.l k))).stale = slD z 1 (numR (chl s.objs.l k)) := by simp
    have hse2 : (slD z 1 (numR (chl s.objs.l k))).sealVal = some (slD z 1 (numR (chl s.objs.l k))) := by simp
    have hkp := kp_ch σ s.objs.l k
    have hT := h.kp hkp
    have h16 := e16 hT (n := n) hw.toWf0 (by omega) (pathA s.objs.l k).1 (by have := rpath_len hw k; omega)
    have hpl := rpath_len hw k
    have hfp : (pathA s.objs.l k).2 = true → findA s.objs.l (pathA s.objs.l k).1 = (k, true) := fun e => by
      unfold pathA at e ⊢
      split at e
      · rename_i hk2
        rw [if_pos hk2]
        unfold hasN at hk2
        cases hf : fo s.objs.l k with
        | none => rw [hf] at hk2; cases hk2
        | some r =>
          obtain ⟨i, x⟩ := r
          obtain ⟨-, hx, rfl⟩ := fo_some hf
          exact hw.toWf0.find_path x hx
      · cases e
    obtain ⟨σ', g1, g2⟩ := ih (i + 1) m (chA σ s.objs.l k).2 (by omega) (by omega) hT
    refine ⟨σ', ?_, hkp.trans g2⟩
    rw [← g1]
    refine iterJ_next' ?_
    simp only [Int.natCast_add, Int.natCast_one]
    generalize chA σ s.objs.l k = CH at *
    generalize slD .nil 1 (numR (chl s.objs.l k)) = S1 at *
    generalize slD z 1 (numR (chl s.objs.l k)) = S2 at *
    generalize getN s.objs.l k = N at *
    generalize hasN s.objs.l k = H at *
    generalize hfa : findA s.objs.l (pathA s.objs.l k).1 = FA at *
    generalize (pathA s.objs.l k).1 = PA at *
    obtain ⟨ch, τ⟩ := CH
    simp only at hse h21
    cases hb2 : (pathA s.objs.l k).2 with
    | false =>
      rw [hb2] at h25 h38
      simp -implicitDefEqProofs [L26_0, B26_0, hi', hls, hix, h25, h38, h18, h19, h28, h43, h24, h44, h21, h22, hst, hse, hse2, h20, h16, hw2, -fldSem.eq_1]
    | true =>
      have := hfp hb2
      subst this
      rw [hb2] at h25 h38
      simp -implicitDefEqProofs [L26_0, B26_0, hi', hls, hix, h25, h38, h18, h19, h28, h43, h24, h44, h21, h22, hst, hse, hse2, h20, h16, hw2, -fldSem.eq_1]
theorem e26 {n : Nat} (hn : 1100001 ≤ n) (s : StaV) (hw : Wf s.objs.l s.last) (hb : s.last ≤ 900) {p : Pl} {σ : Sto} (h : TreeAt σ p s.objs.l s.last) : ∃ σ', ciJ PR n 26 [.obj p.t 0, s.d] σ = some (.bool true, σ') ∧ Kp σ σ' := by
  obtain ⟨n, rfl⟩ : ∃ m, n = m + 1 := ⟨n - 1, by omega⟩
  have hlen := hw.len
  obtain ⟨z, h42⟩ := e42 (n := n) s hw (by omega) (by omega)
  have h13 := e13 h (n := n) (by omega)
  obtain ⟨σ1, h23, k1⟩ := e23 hw (by omega) (n := n) (by omega) h
  have hal : (allN s.objs.l).length = s.objs.l.length := hw.toWf0.all_len (k := 1000) (by omega)
  have h20 := e20 (n := n) .full z (allN s.objs.l) (allN s.objs.l) (by omega) (by omega) (by omega)
  rw [decide_eq_true rfl] at h20
  have hse : (DVal.slice false 0 1 ((allN s.objs.l).map fun i => [.int .i64 i])).sealVal = some (slD .full 1 (intR (allN s.objs.l))) := rfl
  have hst : (slD z 1 (intR (allN s.objs.l))).stale = slD z 1 (intR (allN s.objs.l)) := by simp
  have hse2 : (slD z 1 (intR (allN s.objs.l))).sealVal = some (slD z 1 (intR (allN s.objs.l))) := by simp
  have hok2 : (slD z 1 (intR (allN s.objs.l))).okVal = true := by simp
  have hlp := hw.last_pos
  have w1 : IntKind.i64.wrap (s.last + 1) = s.last + 1 := wrap_i64 (by omega) (by omega)
  have hbs : POp.sem (cpJ PR n) [(.int .i64 (-1)), (.int .i64 0), .int .i64 (s.last + 1)] (.bslice false 1) = some (.slice false 1 1 (intR [-1, 0, s.last + 1])) := rfl
  obtain ⟨v, σ2, s1, o1⟩ := own_app (σ := σ1) (x := slD z 1 (intR (allN s.objs.l))) (new := intR (allN s.objs.l)) (own_lit σ1 1 (intR [-1, 0, s.last + 1])) elems_slD szOk_slD (by simp [intR]; omega)
  have e1 : intR [-1, 0, s.last + 1] ++ intR (allN s.objs.l) = intR ([-1, 0, s.last + 1] ++ allN s.objs.l) := by simp [intR]
  rw [e1] at o1
  have k2 : Kp σ1 σ2 := by
    have : σ2.nobj = σ1.nobj ∧ σ2.obj = σ1.obj := by
      have h9 : ∀ (x : DVal) (y : DVal × Sto), app2Sem false 1 σ1 [.slice false 1 1 (intR [-1, 0, s.last + 1]), x] = some y → y.2.nobj = σ1.nobj ∧ y.2.obj = σ1.obj := fun x y hy => by
        simp only [app2Sem, appSem] at hy
        split at hy
        · split at hy
          · cases hy
          · split at hy
            · split at hy
              · simp only [Option.some.injEq] at hy; subst hy; exact ⟨rfl, rfl⟩
              · simp only [if_true, Option.some.injEq] at hy; subst hy; exact ⟨rfl, rfl⟩
            · cases hy
        · cases hy
      exact h9 _ _ s1
    exact ⟨by rw [this.1]; exact Nat.le_refl _, fun i _ => by rw [this.2]⟩
  obtain ⟨σ3, g1, g2⟩ := l26 (n := n) (by omega) s hw hb o1 (by simp; omega) (.bool false) ([-1, 0, s.last + 1] ++ allN s.objs.l).length 0 n σ2 (by omega) (by simp; omega) ((h.kp k1).kp k2)
  refine ⟨σ3, ?_, (k1.trans k2).trans g2⟩
  simp only [Int.natCast_zero] at g1
  rw [v26]
  generalize slD .full 1 (intR (allN s.objs.l)) = S1 at *
  generalize slD z 1 (intR (allN s.objs.l)) = S2 at *
  generalize DVal.slice false 0 1 ((allN s.objs.l).map fun i => [.int .i64 i]) = S3 at *
  generalize DVal.slice false 1 1 (intR [-1, 0, s.last + 1]) = S4 at *
  simp -implicitDefEqProofs [D26, h42, h13, h23, h20, hse, hst, hse2, w1, hbs, s1, g1, -fldSem.eq_1, -POp.sem.eq_17, -POp.sem.eq_18]
end Go.Proofs.YtklepphkbbjbjaaDoor
namespace Go.Proofs.YtklepphkbbjbjaaDoor
set_option linter.unusedVariables false
set_option linter.unusedSimpArgs false
set_option maxRecDepth 20000
set_option maxHeartbeats 8000000
open Go
abbrev exA : List ObjV := [⟨1, 0, [], 2, 5⟩]
abbrev exB : List ObjV := [⟨1, 0, [], 2, 5⟩, ⟨2, 1, [101, 116, 99], 2, 6⟩]
abbrev exC : List ObjV := [⟨1, 0, [], 2, 5⟩, ⟨2, 1, [101, 116, 99], 2, 6⟩, ⟨3, 2, [112, 97, 115, 115, 119, 100], 1, 7⟩]
theorem ex1 : addV exA 1 1 [101, 116, 99] 2 6 = ((exB, 2), 2, 0) := by kernel_rfl
theorem ex2 : addV exB 2 2 [112, 97, 115, 115, 119, 100] 1 7 = ((exC, 3), 3, 0) := by kernel_rfl
theorem ex3 : addV exC 3 3 [120] 1 1 = ((exC, 3), 0, 13) := by kernel_rfl
theorem ex4 : addV exC 3 2 [112, 97, 115, 115, 119, 100] 1 1 = ((exC, 3), 0, 12) := by kernel_rfl
theorem ex5 : addV exC 3 1 [97, 47, 98] 1 1 = ((exC, 3), 0, 10) := by kernel_rfl
theorem ex6 : pathA exC 3 = ([47, 101, 116, 99, 47, 112, 97, 115, 115, 119, 100], true) := by kernel_rfl
theorem ex7 : remV exC 2 = (exC, 23) := by kernel_rfl
theorem ex8 : allN exC = [1, 2, 3] := by kernel_rfl
theorem ex9 : remV exC 3 = (exB, 0) := by kernel_rfl
theorem ex10 : (addV exB 3 1 [120] 4 1).2 = (4, 0) := by kernel_rfl
theorem e10 {n : Nat} (hn : 1100001 ≤ n) : cpJ PR n 10 [] = some (.bool true) := by
  obtain ⟨n, rfl⟩ : ∃ m, n = m + 1 := ⟨n - 1, by omega⟩
  have wA : Wf exA 1 := wf_root 5
  have wB : Wf exB 2 := by have := (addV_wf wA 1 [101, 116, 99] 2 6).1; rw [ex1] at this; exact this
  have wC : Wf exC 3 := by have := (addV_wf wB 2 [112, 97, 115, 115, 119, 100] 1 7).1; rw [ex2] at this; exact this
  obtain ⟨σ0, h0, t0, -⟩ := e9 (n := n) (by omega) emptySto 5
  obtain ⟨σ1, p1, h1, t1, f1⟩ := e11 (n := n) wA (by omega) (by omega) t0 1 [101, 116, 99] 2 6
  rw [ex1] at h1 t1 f1
  replace t1 : TreeAt σ1 p1 exB 2 := t1
  obtain ⟨σ2, p2, h2, t2, f2⟩ := e11 (n := n) wB (by omega) (by omega) t1 2 [112, 97, 115, 115, 119, 100] 1 7
  rw [ex2] at h2 t2 f2
  replace t2 : TreeAt σ2 p2 exC 3 := t2
  obtain ⟨σ3, p3, h3, t3, f3⟩ := e11 (n := n) wC (by omega) (by omega) t2 3 [120] 1 1
  rw [ex3] at h3 t3 f3
  replace t3 : TreeAt σ3 p3 exC 3 := t3
  obtain ⟨σ4, p4, h4, t4, f4⟩ := e11 (n := n) wC (by omega) (by omega) t3 2 [112, 97, 115, 115, 119, 100] 1 1
  rw [ex4] at h4 t4 f4
  replace t4 : TreeAt σ4 p4 exC 3 := t4
  obtain ⟨σ5, p5, h5, t5, f5⟩ := e11 (n := n) wC (by omega) (by omega) t4 1 [97, 47, 98] 1 1
  rw [ex5] at h5 t5 f5
  replace t5 : TreeAt σ5 p5 exC 3 := t5
  have h6 := e25 t5 (n := n) wC (by omega) (by omega) 3
  rw [ex6] at h6
  obtain ⟨σ7, h7, t7, f7⟩ := e12 (n := n) wC (by omega) (by omega) t5 2
  rw [ex7] at h7 t7 f7
  replace t7 : TreeAt σ7 p5 exC 3 := t7
  obtain ⟨σ8, h8, k8⟩ := e23 wC (by omega) (n := n) (by omega) t7
  rw [ex8] at h8
  have t8 := t7.kp k8
  obtain ⟨σ9, h9, t9, f9⟩ := e12 (n := n) wC (by omega) (by omega) t8 3
  rw [ex9] at h9 t9 f9
  replace t9 : TreeAt σ9 p5 exB 3 := t9
  have wD : Wf exB 3 := by have := remV_wf wC 3; rw [ex9] at this; exact this
  obtain ⟨σ10, p10, h10, t10, f10⟩ := e11 (n := n) wD (by omega) (by omega) t9 1 [120] 4 1
  rw [ex10] at h10
  have s0 : (newP emptySto).t = emptySto.nobj + 3 := rfl
  have s1 := f1.same.trans s0
  have s2 := f2.same.trans s1
  have s3 := f3.same.trans s2
  have s4 := f4.same.trans s3
  have s5 := f5.same.trans s4
  rw [s0] at h1
  rw [s1] at h2
  rw [s2] at h3
  rw [s3] at h4
  rw [s4] at h5
  rw [s5] at h6 h7 h8 h9 h10
  have hbs : POp.sem (cpJ PR n) [(.int .i64 1), (.int .i64 2), (.int .i64 3)] (.bslice false 1) = some (slD .lit 1 (intR [1, 2, 3])) := rfl
  have hs1 : (DVal.slice false 0 1 (([1, 2, 3] : List Int).map fun i => [.int .i64 i])).sealVal = some (slD .full 1 (intR [1, 2, 3])) := rfl
  have hs2 : (slD .lit 1 (intR [1, 2, 3])).sealVal = some (slD .lit 1 (intR [1, 2, 3])) := by simp
  have h20 := e20 (n := n) .full .lit [1, 2, 3] [1, 2, 3] (by simp) (by simp) (by omega)
  rw [decide_eq_true rfl] at h20
  rw [u10]
  generalize emptySto.nobj + 3 = TT at *
  generalize slD .full 1 (intR [1, 2, 3]) = S1 at *
  generalize slD .lit 1 (intR [1, 2, 3]) = S2 at *
  generalize DVal.slice false 0 1 (([1, 2, 3] : List Int).map fun i => [.int .i64 i]) = S3 at *
  simp -implicitDefEqProofs [D10, h0, h1, h2, h3, h4, h5, h6, h7, h8, h9, h10, hbs, hs1, hs2, h20, -POp.sem.eq_17, -POp.sem.eq_18]
end Go.Proofs.YtklepphkbbjbjaaDoor
namespace Go.Proofs.YtklepphkbbjbjaaDoor
set_option linter.unusedVariables false
set_option linter.unusedSimpArgs false
set_option maxRecDepth 20000
set_option maxHeartbeats 8000000
open Go
section
variable {n : Nat}
theorem start (hn : 10000000000000000000 ≤ n) (lab : Int) (steps : Sl StepV) (hM : ∀ x ∈ steps.l, x.name.length ≤ 9223372036854775807) (hl : steps.l.length ≤ 40) :
    ∃ (t : Nat) (σ0 : Sto) (w : StaV) (σ1 : Sto) (p1 : Pl), ciJ PR n 9 [.int .i64 lab] emptySto = some (.obj t 0, σ0) ∧ cpJ PR n 14 [.int .i64 lab] = some (StaV.mk ⟨.lit, [⟨1, 0, [], 2, lab⟩]⟩ 1).d ∧
      ciJ PR n 15 [.obj t 0, (StaV.mk ⟨.lit, [⟨1, 0, [], 2, lab⟩]⟩ 1).d, slD steps.z 6 (steps.l.map StepV.row)] σ0 = some (.tup [w.d, .bool true], σ1) ∧ p1.t = t ∧ TreeAt σ1 p1 w.objs.l w.last ∧ Wf w.objs.l w.last ∧ w.last ≤ 41 := by
  obtain ⟨σ0, h0, t0, -⟩ := e9 (n := n) (by omega) emptySto lab
  have h14 := e14 (n := n) (by omega) lab
  obtain ⟨z, σ1, p1, h15, t1, f1⟩ := e15 (n := n) (M := 9223372036854775807) steps hM (Nat.le_refl _) (by omega) (by omega) (StaV.mk ⟨.lit, [⟨1, 0, [], 2, lab⟩]⟩ 1) (p := newP emptySto) (σ := σ0) (wf_root lab) (by show (1 : Int) + _ ≤ 900; omega) t0
  obtain ⟨w1, w2⟩ := playV_wf steps.l (S := ([⟨1, 0, [], 2, lab⟩], 1)) (wf_root lab)
  exact ⟨_, σ0, _, σ1, p1, h0, h14, h15, f1.same, t1, w1, by show (playV ([⟨1, 0, [], 2, lab⟩], 1) steps.l).2 ≤ 41; have : (playV ([⟨1, 0, [], 2, lab⟩], 1) steps.l).2 ≤ 1 + (steps.l.length : Int) := w2; omega⟩
end
end Go.Proofs.YtklepphkbbjbjaaDoor
namespace Go.Proofs.YtklepphkbbjbjaaDoor
set_option linter.unusedVariables false
set_option linter.unusedSimpArgs false
set_option maxRecDepth 20000
set_option maxHeartbeats 8000000
open Go
theorem v27 (n : Nat) (xs : List DVal) (σ : Sto) : ciJ PR (n + 1) 27 xs σ = copySem xs σ := by
  have e : PR 27 = some (.sprim copySem) := by kernel_rfl
  simp [ciJ, evJ, e]
def NoT (σ : Sto) (td : DVal) : Prop := td = .nilp ∨ ∃ a, td = .obj a 0 ∧ a < σ.nobj ∧ σ.obj a = .agg [.nilm, .nilm, .int .i64 0]
section
variable {σ : Sto} {td : DVal} (h : NoT σ td)
include h
theorem NoT.d30 (C : CallP) (I : CallI) (n : Nat) : D30 C I n td σ = some (.done (.bool false) σ) := by
  rcases h with rfl | ⟨a, rfl, ha, ho⟩
  · simp -implicitDefEqProofs [D30]
  · have l0 : ldOSem σ none [.obj a 0] = some (.nilm, σ) := by rw [ld_obj _ ho ha]; rfl
    simp -implicitDefEqProofs [D30, l0]
theorem NoT.okVal : td.okVal = true := by rcases h with rfl | ⟨a, rfl, -⟩ <;> rfl
theorem NoT.e30 {n : Nat} (hn : 1 ≤ n) : ciJ PR n 30 [td] σ = some (.bool false, σ) := by
  obtain ⟨n, rfl⟩ : ∃ m, n = m + 1 := ⟨n - 1, by omega⟩
  rw [v30, h.d30]
  rfl
theorem NoT.e31 {n : Nat} (hn : 2 ≤ n) (k : Int) : ciJ PR n 31 [td, .int .i64 k] σ = some (.tup [zeroN.d, .bool false], σ) := by
  obtain ⟨n, rfl⟩ : ∃ m, n = m + 1 := ⟨n - 1, by omega⟩
  have h1 := h.e30 (n := n) (by omega)
  have hok := h.okVal
  have b1 : POp.sem (cpJ PR n) [] (.build [(.int .i64 0), (.str []), (.int .i64 0), (.int .i64 0)] []) = some zeroN.d := rfl
  rw [v31]
  have h2 := NodeV_wr zeroN (.int .i64 0) (.str []) (.int .i64 0) (.int .i64 0)
  have h3 := NodeV_whole zeroN
  have h4 := NodeV_okVal zeroN
  generalize zeroN.d = ZD at *
  simp -implicitDefEqProofs [D31, h1, hok, b1, h2, h3, h4, -jwrSem.eq_1, -fldSem.eq_1, -POp.sem.eq_17]
theorem NoT.e18 {n : Nat} (hn : 3 ≤ n) (k : Int) : ciJ PR n 18 [td, .int .i64 k] σ = some (.tup [.int .i64 0, .bool false], σ) := by
  obtain ⟨n, rfl⟩ : ∃ m, n = m + 1 := ⟨n - 1, by omega⟩
  have h1 := h.e31 (n := n) (by omega) k
  have hok := h.okVal
  rw [v18]
  have h0 : zeroN.kind = 0 := rfl
  generalize zeroN = N at *
  simp -implicitDefEqProofs [D18, h1, hok, h0, -jwrSem.eq_1, -fldSem.eq_1]
theorem NoT.e28 {n : Nat} (hn : 3 ≤ n) (k : Int) : ciJ PR n 28 [td, .int .i64 k] σ = some (.tup [.int .i64 0, .bool false], σ) := by
  obtain ⟨n, rfl⟩ : ∃ m, n = m + 1 := ⟨n - 1, by omega⟩
  have h1 := h.e31 (n := n) (by omega) k
  have hok := h.okVal
  rw [v28]
  have h0 : zeroN.label = 0 := rfl
  generalize zeroN = N at *
  simp -implicitDefEqProofs [D28, h1, hok, h0, -jwrSem.eq_1, -fldSem.eq_1]
theorem NoT.e24 {n : Nat} (hn : 3 ≤ n) (k : Int) : ciJ PR n 24 [td, .int .i64 k] σ = some (.tup [.int .i64 0, .bool false], σ) := by
  obtain ⟨n, rfl⟩ : ∃ m, n = m + 1 := ⟨n - 1, by omega⟩
  have h1 := h.e31 (n := n) (by omega) k
  have hok := h.okVal
  rw [v24]
  have h0 : zeroN.up = 0 := rfl
  generalize zeroN = N at *
  simp -implicitDefEqProofs [D24, h1, hok, h0, -jwrSem.eq_1, -fldSem.eq_1]
theorem NoT.e25 {n : Nat} (hn : 3 ≤ n) (k : Int) : ciJ PR n 25 [td, .int .i64 k] σ = some (.tup [.str [], .bool false], σ) := by
  obtain ⟨n, rfl⟩ : ∃ m, n = m + 1 := ⟨n - 1, by omega⟩
  have h1 := h.e31 (n := n) (by omega) k
  have hok := h.okVal
  rw [v25]
  generalize zeroN = N at *
  simp -implicitDefEqProofs [D25, h1, hok, -jwrSem.eq_1, -fldSem.eq_1]
theorem NoT.e13 {n : Nat} (hn : 2 ≤ n) : ciJ PR n 13 [td] σ = some (.int .i64 0, σ) := by
  obtain ⟨n, rfl⟩ : ∃ m, n = m + 1 := ⟨n - 1, by omega⟩
  have h1 := h.e30 (n := n) (by omega)
  have hok := h.okVal
  rw [v13]
  simp -implicitDefEqProofs [D13, h1, hok]
theorem NoT.e11 {n : Nat} (hn : 2 ≤ n) (d : Int) (q : Bs) (k l : Int) : ciJ PR n 11 [td, .int .i64 d, .str q, .int .i64 k, .int .i64 l] σ = some (.tup [.int .i64 0, .int .i64 1], σ) := by
  obtain ⟨n, rfl⟩ : ∃ m, n = m + 1 := ⟨n - 1, by omega⟩
  have h1 := h.e30 (n := n) (by omega)
  have hok := h.okVal
  rw [v11]
  simp -implicitDefEqProofs [D11, h1, hok]
theorem NoT.e12 {n : Nat} (hn : 2 ≤ n) (d : Int) : ciJ PR n 12 [td, .int .i64 d] σ = some (.int .i64 1, σ) := by
  obtain ⟨n, rfl⟩ : ∃ m, n = m + 1 := ⟨n - 1, by omega⟩
  have h1 := h.e30 (n := n) (by omega)
  have hok := h.okVal
  rw [v12]
  simp -implicitDefEqProofs [D12, h1, hok]
theorem NoT.e29 {n : Nat} (hn : 2 ≤ n) (d l : Int) : ciJ PR n 29 [td, .int .i64 d, .int .i64 l] σ = some (.int .i64 1, σ) := by
  obtain ⟨n, rfl⟩ : ∃ m, n = m + 1 := ⟨n - 1, by omega⟩
  have h1 := h.e30 (n := n) (by omega)
  have hok := h.okVal
  rw [v29]
  simp -implicitDefEqProofs [D29, h1, hok]
theorem NoT.e16 {n : Nat} (hn : 2 ≤ n) (q : Bs) : ciJ PR n 16 [td, .str q] σ = some (.tup [.int .i64 0, .bool false], σ) := by
  obtain ⟨n, rfl⟩ : ∃ m, n = m + 1 := ⟨n - 1, by omega⟩
  have h1 := h.e30 (n := n) (by omega)
  have hok := h.okVal
  rw [v16]
  simp -implicitDefEqProofs [D16, h1, hok]
theorem NoT.e21 {n : Nat} (hn : 2 ≤ n) (k : Int) : ciJ PR n 21 [td, .int .i64 k] σ = some (.nils, σ) := by
  obtain ⟨n, rfl⟩ : ∃ m, n = m + 1 := ⟨n - 1, by omega⟩
  rw [v21]
  have hok := h.okVal
  have g : ∀ o, outR (D21 (cpJ PR n) (ciJ PR n) n td (.int .i64 k) { σ with ora := o }) = some (.nils, { σ with ora := o }) := fun o => by
    have ho : NoT { σ with ora := o } td := h
    have h1 := ho.e30 (n := n) (by omega)
    generalize ({ σ with ora := o } : Sto) = σ0 at *
    simp -implicitDefEqProofs [D21, h1, hok, outR]
  rw [rdet_eq (g fun _ => 0) fun o => ⟨_, g o, rfl, rfl, rfl, rfl, fun id => .inl rfl⟩]
theorem NoT.g30 : ciJ PR0 1000 30 [td] σ = some (.bool false, σ) := by
  rw [w30, h.d30]
  rfl
theorem NoT.e23 {n : Nat} (hn : 1 ≤ n) : ciJ PR n 23 [td] σ = some (.nils, σ) := by
  obtain ⟨n, rfl⟩ : ∃ m, n = m + 1 := ⟨n - 1, by omega⟩
  have hg := h.g30
  have hl : listB td σ = some (.nils, σ) := by unfold listB; rw [hg]; rfl
  rw [v23]
  rcases h with rfl | ⟨a, rfl, -⟩
  · exact hl
  · exact hl
theorem NoT.e27 {n : Nat} (hn : 1 ≤ n) : ciJ PR n 27 [td] σ = some (.nilp, σ) := by
  obtain ⟨n, rfl⟩ : ∃ m, n = m + 1 := ⟨n - 1, by omega⟩
  have hg := h.g30
  have hl : copyB td σ = some (.nilp, σ) := by unfold copyB; rw [hg]; rfl
  rw [v27]
  rcases h with rfl | ⟨a, rfl, -⟩
  · exact hl
  · exact hl
end
end Go.Proofs.YtklepphkbbjbjaaDoor
namespace Go.Proofs.YtklepphkbbjbjaaDoor
set_option linter.unusedVariables false
set_option linter.unusedSimpArgs false
set_option maxRecDepth 20000
set_option maxHeartbeats 8000000
open Go
theorem TreeAt.frame {σ σ' : Sto} {q : Pl} {os : List ObjV} {last : Int} (h : TreeAt σ q os last) (hs : σ.nobj ≤ σ'.nobj) (hf : ∀ i, Foot q os i → σ'.obj i = σ.obj i) : TreeAt σ' q os last where
  tl := Nat.lt_of_lt_of_le h.tl hs
  nl := Nat.lt_of_lt_of_le h.nl hs
  dl := Nat.lt_of_lt_of_le h.dl hs
  fl x hx := Nat.lt_of_lt_of_le (h.fl x hx) hs
  tn := h.tn
  td := h.td
  nd := h.nd
  fn := h.fn
  ff := h.ff
  obj := (hf _ (.inl rfl)).trans h.obj
  nodes := (hf _ (.inr (.inl rfl))).trans h.nodes
  names := (hf _ (.inr (.inr (.inl rfl)))).trans h.names
  inner x hx := (hf _ (.inr (.inr (.inr ⟨x, hx, rfl⟩)))).trans (h.inner x hx)
theorem TreeAt.foot_lt {σ : Sto} {q : Pl} {os : List ObjV} {last : Int} (h : TreeAt σ q os last) {i : Nat} (hi : Foot q os i) : i < σ.nobj := by
  rcases hi with rfl | rfl | rfl | ⟨x, hx, rfl⟩
  · exact h.tl
  · exact h.nl
  · exact h.dl
  · exact h.fl x hx
def posI : List ObjV → Int → Nat
  | [], _ => 0
  | x :: l, k => if x.num = k then 0 else posI l k + 1
theorem posI_at : ∀ {l : List ObjV}, l.Pairwise (fun a b => a.num < b.num) → ∀ {i : Nat} {x : ObjV}, l[i]? = some x → posI l x.num = i
  | [], _, i, x, h => by simp at h
  | y :: l, hp, 0, x, h => by
    simp only [List.getElem?_cons_zero, Option.some.injEq] at h
    subst h
    simp [posI]
  | y :: l, hp, i + 1, x, h => by
    simp only [List.getElem?_cons_succ] at h
    obtain ⟨h1, h2⟩ := List.pairwise_cons.1 hp
    have := h1 x (List.mem_of_getElem? h)
    rw [posI, if_neg (by omega), posI_at h2 h]
def copyP (σ : Sto) (os : List ObjV) : Pl := ⟨σ.nobj + (dirs os).length + 2, σ.nobj + (dirs os).length + 1, σ.nobj + (dirs os).length, fun k => σ.nobj + posI (dirs os) k⟩
theorem e27 {σ : Sto} {p : Pl} {os : List ObjV} {last : Int} (hw : Wf0 os last) (h : TreeAt σ p os last) {n : Nat} (hn : 1 ≤ n) :
    ∃ σ', ciJ PR n 27 [.obj p.t 0] σ = some (.obj (copyP σ os).t 0, σ') ∧ TreeAt σ' (copyP σ os) os last ∧ Kp σ σ' ∧ ∀ i, Foot (copyP σ os) os i → σ.nobj ≤ i := by
  obtain ⟨n, rfl⟩ : ∃ m, n = m + 1 := ⟨n - 1, by omega⟩
  have hsd : (dirs os).Pairwise fun a b => a.num < b.num := hw.sorted.filter _
  obtain ⟨kp, hkp⟩ : ∃ kp, kp = (dirs os).map fun x => (x.num, p.phi x.num) := ⟨_, rfl⟩
  have hkl : kp.length = (dirs os).length := by rw [hkp]; simp
  have hnm : (dirs os).map (dirE p.phi) = kp.map fun a => .tup [.int .i64 a.1, .map a.2] := by rw [hkp, List.map_map]; rfl
  have hall : ∀ a ∈ kp, a.2 < σ.nobj ∧ isMapD (σ.obj a.2) = true := by
    intro a ha
    rw [hkp] at ha
    obtain ⟨x, hx, rfl⟩ := List.mem_map.1 ha
    refine ⟨h.fl x hx, ?_⟩
    show isMapD (σ.obj (p.phi x.num)) = true
    rw [h.inner x hx]
    simp only [isMapD, List.all_eq_true]
    intro e he
    obtain ⟨y, -, rfl⟩ := List.mem_map.1 he
    rfl
  have hns : (os.map ObjV.ent).all isTup = true := by
    rw [List.all_eq_true]
    intro e he
    obtain ⟨y, -, rfl⟩ := List.mem_map.1 he
    rfl
  have hc : copyT p.t σ = some (.obj (σ.nobj + kp.length + 2) 0, (((σ.newAll (kp.map fun a => σ.obj a.2)).new (.tup (reE σ.nobj kp))).new (.tup (os.map ObjV.ent))).new (.agg [.map (σ.nobj + kp.length + 1), .map (σ.nobj + kp.length), .int .i64 (last + 1)])) := by
    unfold copyT
    rw [h.obj]
    dsimp only
    rw [h.nodes, h.names]
    dsimp only
    rw [hnm, parseD_map]
    simp only [Option.bind_some]
    rw [if_pos ⟨⟨h.tl, h.nl, h.dl⟩, hns, hall⟩]
  have hx27 : copySem [.obj p.t 0] σ = copyT p.t σ := by
    show copyB (.obj p.t 0) σ = _
    unfold copyB
    rw [g30 h]
    rfl
  obtain ⟨σa, hσa⟩ : ∃ σa, σa = σ.newAll (kp.map fun a => σ.obj a.2) := ⟨_, rfl⟩
  have na : σa.nobj = σ.nobj + (dirs os).length := by rw [hσa, newAll_nobj]; simp [hkl]
  rw [← hσa, hkl] at hc
  refine ⟨_, by rw [v27, hx27]; exact hc, ?_, ?_, ?_⟩
  · have ob3 : ∀ i, i < σa.nobj + 2 → ∀ d, (((σa.new (.tup (reE σ.nobj kp))).new (.tup (os.map ObjV.ent))).new d).obj i = ((σa.new (.tup (reE σ.nobj kp))).new (.tup (os.map ObjV.ent))).obj i := fun i hi d => Sto.new_obj_ne (by simp only [Sto.new_nobj]; omega)
    refine ⟨?_, ?_, ?_, ?_, ?_, ?_, ?_, ?_, ?_, ?_, ?_, ?_, ?_⟩
    · simp only [copyP, Sto.new_nobj]; omega
    · simp only [copyP, Sto.new_nobj]; omega
    · simp only [copyP, Sto.new_nobj]; omega
    · intro x hx
      obtain ⟨i, hi⟩ := List.mem_iff_getElem?.1 hx
      have := (List.getElem?_eq_some_iff.1 hi).1
      simp only [copyP, Sto.new_nobj, posI_at hsd hi]; omega
    · simp only [copyP]; omega
    · simp only [copyP]; omega
    · simp only [copyP]; omega
    · intro x hx
      obtain ⟨i, hi⟩ := List.mem_iff_getElem?.1 hx
      have := (List.getElem?_eq_some_iff.1 hi).1
      simp only [copyP, posI_at hsd hi]; omega
    · intro x hx y hy e
      obtain ⟨i, hi⟩ := List.mem_iff_getElem?.1 hx
      obtain ⟨j, hj⟩ := List.mem_iff_getElem?.1 hy
      simp only [copyP, posI_at hsd hi, posI_at hsd hj] at e
      have : i = j := by omega
      subst this
      rw [hi] at hj
      simp only [Option.some.injEq] at hj
      rw [hj]
    · have : (copyP σ os).t = ((σa.new (.tup (reE σ.nobj kp))).new (.tup (os.map ObjV.ent))).nobj := by simp only [copyP, Sto.new_nobj]; omega
      rw [this, Sto.new_obj]
      rfl
    · rw [ob3 _ (by simp only [copyP]; omega)]
      have : (copyP σ os).nid = (σa.new (.tup (reE σ.nobj kp))).nobj := by simp only [copyP, Sto.new_nobj]; omega
      rw [this, Sto.new_obj]
    · rw [ob3 _ (by simp only [copyP]; omega), Sto.new_obj_ne (by simp only [copyP, Sto.new_nobj]; omega)]
      have : (copyP σ os).did = σa.nobj := by simp only [copyP]; omega
      rw [this, Sto.new_obj]
      congr 1
      apply List.ext_getElem?
      intro i
      rw [reE_get, hkp, List.getElem?_map, List.getElem?_map]
      cases hi : (dirs os)[i]? with
      | none => rfl
      | some x =>
        simp only [Option.map_some, dirE, copyP, posI_at hsd hi]
    · intro x hx
      obtain ⟨i, hi⟩ := List.mem_iff_getElem?.1 hx
      have hil := (List.getElem?_eq_some_iff.1 hi).1
      have hph : (copyP σ os).phi x.num = σ.nobj + i := by simp only [copyP, posI_at hsd hi]
      rw [hph, ob3 _ (by omega), Sto.new_obj_ne (by simp only [Sto.new_nobj]; omega), Sto.new_obj_ne (by omega), hσa, newAll_at _ _ i (σ.obj (p.phi x.num)) (by rw [hkp, List.map_map, List.getElem?_map, hi]; rfl)]
      exact h.inner x hx
  · refine ⟨by simp only [Sto.new_nobj]; omega, fun i hi => ?_⟩
    rw [Sto.new_obj_ne (by simp only [Sto.new_nobj]; omega), Sto.new_obj_ne (by simp only [Sto.new_nobj]; omega), Sto.new_obj_ne (by omega), hσa, newAll_old _ _ _ hi]
  · rintro i (rfl | rfl | rfl | ⟨x, hx, rfl⟩) <;> simp only [copyP] <;> omega
theorem Frm.other {σ σ' : Sto} {p p' q : Pl} {os os' oq : List ObjV} {lq : Int} (hf : Frm σ σ' p p' os os') (hq : TreeAt σ q oq lq) (hd : ∀ i, Foot p os i → ¬ Foot q oq i) :
    TreeAt σ' q oq lq ∧ ∀ i, Foot p' os' i → ¬ Foot q oq i := by
  refine ⟨hq.frame hf.size fun i hi => hf.keep i (hq.foot_lt hi) fun h => hd i h hi, fun i hi hq' => ?_⟩
  rcases hf.foot i hi with h | h
  · exact hd i h hq'
  · have := hq.foot_lt hq'; omega
theorem e7 {n : Nat} (hn : 10000000000000000001 ≤ n) (steps more : Sl StepV) (hM : ∀ x ∈ steps.l, x.name.length ≤ 9223372036854775807) (hM2 : ∀ x ∈ more.l, x.name.length ≤ 9223372036854775807) :
    cpJ PR n 7 [slD steps.z 6 (steps.l.map StepV.row), slD more.z 6 (more.l.map StepV.row)] = some (.bool true) := by
  obtain ⟨n, rfl⟩ : ∃ m, n = m + 1 := ⟨n - 1, by omega⟩
  have h10 := e10 (n := n) (by omega)
  have hls : lenSlSem [slD steps.z 6 (steps.l.map StepV.row)] = some (.int .i64 steps.l.length) := by simp
  have hse : (slD steps.z 6 (steps.l.map StepV.row)).okVal = true := by simp
  have hls2 : lenSlSem [slD more.z 6 (more.l.map StepV.row)] = some (.int .i64 more.l.length) := by simp
  have hse2 : (slD more.z 6 (more.l.map StepV.row)).okVal = true := by simp
  have hst2 : (slD more.z 6 (more.l.map StepV.row)).stale = slD more.z 6 (more.l.map StepV.row) := by simp
  rw [u7]
  by_cases hl : 40 < steps.l.length
  · have hl' : (40 : Int) < steps.l.length := by omega
    obtain ⟨σ0, h0, t0, -⟩ := e9 (n := n) (by omega) emptySto 1
    have h14 := e14 (n := n) (by omega) 1
    generalize slD steps.z 6 (steps.l.map StepV.row) = SL at *
    generalize slD more.z 6 (more.l.map StepV.row) = SM at *
    simp -implicitDefEqProofs [D7, h0, h14, hls, hl', h10, -jwrSem.eq_1, -fldSem.eq_1]
  have hl' : ¬ (40 : Int) < steps.l.length := by omega
  by_cases hm : 40 < more.l.length
  · have hm' : (40 : Int) < more.l.length := by omega
    obtain ⟨σ0, h0, t0, -⟩ := e9 (n := n) (by omega) emptySto 1
    have h14 := e14 (n := n) (by omega) 1
    generalize slD steps.z 6 (steps.l.map StepV.row) = SL at *
    generalize slD more.z 6 (more.l.map StepV.row) = SM at *
    simp -implicitDefEqProofs [D7, h0, h14, hls, hl', hls2, hst2, hm', h10, -jwrSem.eq_1, -fldSem.eq_1]
  · have hm' : ¬ (40 : Int) < more.l.length := by omega
    obtain ⟨t, σ0, w, σ1, p1, h0, h14, h15, ht, t1, hw, hb⟩ := start (n := n) (by omega) 1 steps hM (by omega)
    obtain ⟨σ2, h27, tc2, k2, f2⟩ := e27 hw.toWf0 t1 (n := n) (by omega)
    obtain ⟨q, hq⟩ : ∃ q, q = copyP σ1 w.objs.l := ⟨_, rfl⟩
    rw [← hq] at h27 tc2 f2
    have t2 := t1.kp k2
    have d2 : ∀ i, Foot p1 w.objs.l i → ¬ Foot q w.objs.l i := fun i hi hi' => by
      have := t1.foot_lt hi
      have := f2 i hi'
      omega
    -- the calls on the tree
    obtain ⟨z3, σ3, p3, g15, t3, f3⟩ := e15 (n := n) (M := 9223372036854775807) more hM2 (Nat.le_refl _) (by omega) (by omega) w hw (by omega) t2
    obtain ⟨w3, b3⟩ := playV_wf more.l (S := (w.objs.l, w.last)) hw
    obtain ⟨tc3, d3⟩ := f3.other tc2 d2
    have b3' : (playV (w.objs.l, w.last) more.l).2 ≤ 900 := by
      have : (playV (w.objs.l, w.last) more.l).2 ≤ w.last + more.l.length := b3
      omega
    obtain ⟨σ4, h26a, k4⟩ := e26 (n := n) (by omega) w hw (by omega) tc3
    -- the calls on the copy
    have tc4 := tc3.kp k4
    have t4 := t3.kp k4
    obtain ⟨z5, σ5, q5, g15b, tc5, f5⟩ := e15 (n := n) (M := 9223372036854775807) more hM2 (Nat.le_refl _) (by omega) (by omega) w hw (by omega) tc4
    obtain ⟨t5, -⟩ := f5.other t4 (fun i hi hi' => d3 i hi' hi)
    obtain ⟨W5, hW5⟩ : ∃ W5 : StaV, W5 = StaV.mk ⟨z5, (playV (w.objs.l, w.last) more.l).1⟩ (playV (w.objs.l, w.last) more.l).2 := ⟨_, rfl⟩
    obtain ⟨W3, hW3⟩ : ∃ W3 : StaV, W3 = StaV.mk ⟨z3, (playV (w.objs.l, w.last) more.l).1⟩ (playV (w.objs.l, w.last) more.l).2 := ⟨_, rfl⟩
    obtain ⟨σ6, h26b, k6⟩ := e26 (n := n) (by omega) W5 (by rw [hW5]; exact w3) (by rw [hW5]; exact b3') (p := q5) (by rw [hW5]; exact tc5)
    have t6 := t5.kp k6
    obtain ⟨σ7, h26c, k7⟩ := e26 (n := n) (by omega) W3 (by rw [hW3]; exact w3) (by rw [hW3]; exact b3') (p := p3) (by rw [hW3]; exact t6)
    rw [← hW3] at g15
    rw [← hW5] at g15b
    have e3 : p3.t = t := f3.same.trans ht
    have e5 : q5.t = q.t := f5.same
    rw [ht] at h27 g15
    rw [e3] at h26c
    rw [e5] at h26b
    have c1 := StaV_wr2 (StaV.mk ⟨.lit, [⟨1, 0, [], 2, 1⟩]⟩ 1) w
    have c2 := StaV_wr (StaV.mk ⟨.lit, [⟨1, 0, [], 2, 1⟩]⟩ 1) .nils (.int .i64 0)
    have c3 := StaV_whole (StaV.mk ⟨.lit, [⟨1, 0, [], 2, 1⟩]⟩ 1)
    have c4 := StaV_okVal (StaV.mk ⟨.lit, [⟨1, 0, [], 2, 1⟩]⟩ 1)
    have c5 := StaV_stale (StaV.mk ⟨.lit, [⟨1, 0, [], 2, 1⟩]⟩ 1)
    have c6 := StaV_wr W3 .nils (.int .i64 0)
    have c7 := StaV_wr W5 .nils (.int .i64 0)
    generalize slD steps.z 6 (steps.l.map StepV.row) = SL at *
    generalize slD more.z 6 (more.l.map StepV.row) = SM at *
    generalize (StaV.mk ⟨.lit, [⟨1, 0, [], 2, 1⟩]⟩ 1).d = S0 at *
    simp -implicitDefEqProofs [D7, h0, h14, hls, hse, hl', hls2, hse2, hst2, hm', h15, h27, g15, h26a, g15b, h26b, h26c, c1, c2, c3, c4, c5, c6, c7, h10, -jwrSem.eq_1, -fldSem.eq_1]
end Go.Proofs.YtklepphkbbjbjaaDoor
