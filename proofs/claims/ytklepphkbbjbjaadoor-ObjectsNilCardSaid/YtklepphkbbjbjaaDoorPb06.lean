/- Texts of this proof, part 6: see the card for what is proved. -/
import Derived.Test.YtklepphkbbjbjaaDoorPb05
namespace Go.Proofs.YtklepphkbbjbjaaDoor
set_option linter.unusedVariables false
set_option linter.unusedSimpArgs false
set_option maxRecDepth 20000
set_option maxHeartbeats 8000000
open Go
def stepV (S : List ObjV × Int) (x : StepV) : List ObjV × Int :=
  if x.kind = 0 then (addV S.1 S.2 x.dir x.name x.what x.label).1 else if x.kind = 1 then ((remV S.1 x.num).1, S.2) else ((labV S.1 x.num x.label).1, S.2)
def playV (S : List ObjV × Int) (l : List StepV) : List ObjV × Int := l.foldl stepV S
theorem addV_wf {os : List ObjV} {last : Int} (h : Wf os last) (dir : Int) (name : Bs) (kind label : Int) : Wf (addV os last dir name kind label).1.1 (addV os last dir name kind label).1.2 ∧ (addV os last dir name kind label).1.2 ≤ last + 1 := by
  unfold addV
  split
  · rename_i e
    exact ⟨h.add (addE_zero.1 e).1 label, Int.le_refl _⟩
  · exact ⟨h, by show last ≤ last + 1; omega⟩
theorem remV_wf {os : List ObjV} {last : Int} (h : Wf os last) (k : Int) : Wf (remV os k).1 last := by
  unfold remV
  split
  · rename_i e
    unfold remE at e
    split at e
    · cases e
    · split at e
      · cases e
      · rename_i c
        exact h.rem (fun h1 => c (.inl h1)) (Decidable.not_not.1 fun h2 => c (.inr h2))
  · exact h
theorem labV_wf {os : List ObjV} {last : Int} (h : Wf os last) (k lab : Int) : Wf (labV os k lab).1 last := by
  unfold labV
  split
  · exact h.lab k lab
  · exact h
theorem stepV_wf {S : List ObjV × Int} (h : Wf S.1 S.2) (x : StepV) : Wf (stepV S x).1 (stepV S x).2 ∧ (stepV S x).2 ≤ S.2 + 1 := by
  unfold stepV
  split
  · exact addV_wf h _ _ _ _
  · split
    · exact ⟨remV_wf h _, by show S.2 ≤ S.2 + 1; omega⟩
    · exact ⟨labV_wf h _ _, by show S.2 ≤ S.2 + 1; omega⟩
theorem playV_wf : ∀ (l : List StepV) {S : List ObjV × Int}, Wf S.1 S.2 → Wf (playV S l).1 (playV S l).2 ∧ (playV S l).2 ≤ S.2 + l.length
  | [], S, h => ⟨h, by simp [playV]⟩
  | x :: l, S, h => by
    obtain ⟨h1, h2⟩ := stepV_wf h x
    obtain ⟨h3, h4⟩ := playV_wf l h1
    refine ⟨h3, ?_⟩
    show (playV (stepV S x) l).2 ≤ _
    simp only [List.length_cons, Int.natCast_add, Int.natCast_one]
    omega
theorem l15 {n M : Nat} (steps : Sl StepV) (hM : ∀ x ∈ steps.l, x.name.length ≤ M) (hM2 : M ≤ 9223372036854775807) (hl : steps.l.length ≤ 100) (hn : 400000 + M ≤ n) (b0 z0 : DVal) (t0 : Nat) : ∀ (r i m : Nat) (s : StaV) (p : Pl) (σ : Sto), i + r = steps.l.length → r < m →
    Wf s.objs.l s.last → s.last + r ≤ 900 → TreeAt σ p s.objs.l s.last → p.t = t0 → (∀ w : StaV, jwrSem 0 2 [z0, w.d] = some w.d) →
    ∃ z σ' p', iterJ 0 (L15_0 (cpJ PR n) (ciJ PR n) n (.obj t0 0) (slD steps.z 6 (steps.l.map StepV.row))) m [.int .i64 i, b0, z0, s.d] σ =
      some (.done (.tup [(StaV.mk ⟨z, (playV (s.objs.l, s.last) (steps.l.drop i)).1⟩ (playV (s.objs.l, s.last) (steps.l.drop i)).2).d, .bool true]) σ') ∧
      TreeAt σ' p' (playV (s.objs.l, s.last) (steps.l.drop i)).1 (playV (s.objs.l, s.last) (steps.l.drop i)).2 ∧ Frm σ σ' p p' s.objs.l (playV (s.objs.l, s.last) (steps.l.drop i)).1 := by
  intro r
  induction r with
  | zero =>
    intro i m s p σ hi hm hw hb h ht hz0
    obtain ⟨m, rfl⟩ : ∃ q, m = q + 1 := ⟨m - 1, by omega⟩
    have hi' : ¬ ((i : Int) < steps.l.length) := by omega
    rw [List.drop_eq_nil_of_le (by omega)]
    refine ⟨s.objs.z, σ, p, iterJ_done ?_, h, Frm.of_kp (Kp.refl σ) p _⟩
    have hz := hz0 s
    simp -implicitDefEqProofs [L15_0, B15_0, hi', hz, -jwrSem.eq_1]
    rfl
  | succ r ih =>
    intro i m s p σ hi hm hw hb h ht hz0
    obtain ⟨m, rfl⟩ : ∃ q, m = q + 1 := ⟨m - 1, by omega⟩
    have hi' : ((i : Int) < steps.l.length) := by omega
    obtain ⟨x, hx⟩ := get_some (by omega : i < steps.l.length)
    have hw2 := wrap_succ (i := i) (by omega)
    simp only [Int.natCast_add, Int.natCast_one] at hw2
    have hxM := hM x (List.mem_of_getElem? hx)
    rw [drop_get hx]
    -- one call on both sides
    have key : ∃ (z : Zs) (σ1 : Sto) (p1 : Pl), L15_0 (cpJ PR n) (ciJ PR n) n (.obj t0 0) (slD steps.z 6 (steps.l.map StepV.row)) [.int .i64 i, b0, z0, s.d] σ = some (.next 0 [.int .i64 ((i + 1 : Nat) : Int), b0, z0, (StaV.mk ⟨z, (stepV (s.objs.l, s.last) x).1⟩ (stepV (s.objs.l, s.last) x).2).d] σ1) ∧
        TreeAt σ1 p1 (stepV (s.objs.l, s.last) x).1 (stepV (s.objs.l, s.last) x).2 ∧ Frm σ σ1 p p1 s.objs.l (stepV (s.objs.l, s.last) x).1 := by
      unfold stepV
      by_cases k0 : x.kind = 0
      · have k0' : (x.kind == 0) = true := by simpa using k0
        obtain ⟨z, h34⟩ := e34 (n := n) s hw (by omega) x.dir x.name x.what x.label (by omega) (by omega)
        obtain ⟨σ1, p1, h11, t1, f1⟩ := e11 (n := n) hw (by omega) (by omega) h x.dir x.name x.what x.label
        rw [ht] at h11
        rw [if_pos k0]
        refine ⟨z, σ1, p1, ?_, t1, f1⟩
        have c1 := StaV_wr (StaV.mk ⟨z, (addV s.objs.l s.last x.dir x.name x.what x.label).1.1⟩ (addV s.objs.l s.last x.dir x.name x.what x.label).1.2) .nils (.int .i64 0)
        have c2 := StaV_whole (StaV.mk ⟨z, (addV s.objs.l s.last x.dir x.name x.what x.label).1.1⟩ (addV s.objs.l s.last x.dir x.name x.what x.label).1.2)
        have c3 := StaV_wr2 s (StaV.mk ⟨z, (addV s.objs.l s.last x.dir x.name x.what x.label).1.1⟩ (addV s.objs.l s.last x.dir x.name x.what x.label).1.2)
        generalize (StaV.mk ⟨z, (addV s.objs.l s.last x.dir x.name x.what x.label).1.1⟩ (addV s.objs.l s.last x.dir x.name x.what x.label).1.2).d = SD at *
        generalize (addV s.objs.l s.last x.dir x.name x.what x.label).2.1 = A1 at *
        generalize (addV s.objs.l s.last x.dir x.name x.what x.label).2.2 = A2 at *
        simp -implicitDefEqProofs [L15_0, B15_0, hi', hx, k0, k0', h34, h11, c1, c2, c3, hw2, -jwrSem.eq_1, -fldSem.eq_1]
      · have k0' : (x.kind == 0) = false := by simpa using k0
        rw [if_neg k0]
        by_cases k1 : x.kind = 1
        · have k1' : (x.kind == 1) = true := by simpa using k1
          obtain ⟨z, h35⟩ := e35 (n := n) s hw (by omega) x.num (by omega)
          obtain ⟨σ1, h12, t1, f1⟩ := e12 (n := n) hw (by omega) (by omega) h x.num
          rw [ht] at h12
          rw [if_pos k1]
          refine ⟨z, σ1, p, ?_, t1, f1⟩
          have c1 := StaV_wr (StaV.mk ⟨z, (remV s.objs.l x.num).1⟩ s.last) .nils (.int .i64 0)
          have c2 := StaV_whole (StaV.mk ⟨z, (remV s.objs.l x.num).1⟩ s.last)
          have c3 := StaV_wr2 s (StaV.mk ⟨z, (remV s.objs.l x.num).1⟩ s.last)
          generalize (StaV.mk ⟨z, (remV s.objs.l x.num).1⟩ s.last).d = SD at *
          generalize (remV s.objs.l x.num).2 = A2 at *
          simp -implicitDefEqProofs [L15_0, B15_0, hi', hx, k0, k0', k1, k1', h35, h12, c1, c2, c3, hw2, -jwrSem.eq_1, -fldSem.eq_1]
        · have k1' : (x.kind == 1) = false := by simpa using k1
          obtain ⟨z, h36⟩ := e36 (n := n) s hw x.num x.label (by omega)
          obtain ⟨σ1, h29, t1, f1⟩ := e29 (n := n) hw (by omega) h x.num x.label
          rw [ht] at h29
          rw [if_neg k1]
          refine ⟨z, σ1, p, ?_, t1, f1⟩
          have c1 := StaV_wr (StaV.mk ⟨z, (labV s.objs.l x.num x.label).1⟩ s.last) .nils (.int .i64 0)
          have c2 := StaV_whole (StaV.mk ⟨z, (labV s.objs.l x.num x.label).1⟩ s.last)
          have c3 := StaV_wr2 s (StaV.mk ⟨z, (labV s.objs.l x.num x.label).1⟩ s.last)
          generalize (StaV.mk ⟨z, (labV s.objs.l x.num x.label).1⟩ s.last).d = SD at *
          generalize (labV s.objs.l x.num x.label).2 = A2 at *
          simp -implicitDefEqProofs [L15_0, B15_0, hi', hx, k0, k0', k1, k1', h36, h29, c1, c2, c3, hw2, -jwrSem.eq_1, -fldSem.eq_1]
    obtain ⟨z, σ1, p1, g1, g2, g3⟩ := key
    obtain ⟨w1, w2⟩ := stepV_wf (S := (s.objs.l, s.last)) hw x
    obtain ⟨z', σ', p', q1, q2, q3⟩ := ih (i + 1) m (StaV.mk ⟨z, (stepV (s.objs.l, s.last) x).1⟩ (stepV (s.objs.l, s.last) x).2) p1 σ1 (by omega) (by omega) w1 (by
      show (stepV (s.objs.l, s.last) x).2 + (r : Int) ≤ 900
      simp only [Int.natCast_add, Int.natCast_one] at hb
      have : (stepV (s.objs.l, s.last) x).2 ≤ s.last + 1 := w2
      omega) g2 (g3.same.trans ht) hz0
    refine ⟨z', σ', p', ?_, q2, g3.trans q3⟩
    rw [iterJ_next' g1]
    exact q1
theorem e15 {n M : Nat} (steps : Sl StepV) (hM : ∀ x ∈ steps.l, x.name.length ≤ M) (hM2 : M ≤ 9223372036854775807) (hl : steps.l.length ≤ 100) (hn : 400001 + M ≤ n) (s : StaV) {p : Pl} {σ : Sto} (hw : Wf s.objs.l s.last) (hb : s.last + steps.l.length ≤ 900) (h : TreeAt σ p s.objs.l s.last) :
    ∃ z σ' p', ciJ PR n 15 [.obj p.t 0, s.d, slD steps.z 6 (steps.l.map StepV.row)] σ =
      some (.tup [(StaV.mk ⟨z, (playV (s.objs.l, s.last) steps.l).1⟩ (playV (s.objs.l, s.last) steps.l).2).d, .bool true], σ') ∧
      TreeAt σ' p' (playV (s.objs.l, s.last) steps.l).1 (playV (s.objs.l, s.last) steps.l).2 ∧ Frm σ σ' p p' s.objs.l (playV (s.objs.l, s.last) steps.l).1 := by
  obtain ⟨n, rfl⟩ : ∃ m, n = m + 1 := ⟨n - 1, by omega⟩
  obtain ⟨z, σ', p', h1, h2, h3⟩ := l15 (n := n) steps hM hM2 hl (by omega) (.bool false) (.agg [.nils, .int .i64 0]) p.t steps.l.length 0 n s p σ (by omega) (by omega) hw hb h rfl (fun w => StaV_wr w _ _)
  simp only [Int.natCast_zero, List.drop_zero] at h1 h2 h3
  refine ⟨z, σ', p', ?_, h2, h3⟩
  rw [v15]
  simp -implicitDefEqProofs [D15, h1]
theorem own_idx {σ : Sto} {sz : Nat} {v : DVal} {l : List (List DVal)} (h : Own σ sz v l) {i : Nat} {e : List DVal} (hi : l[i]? = some e) : idxSSem sz [v, .int .i64 i] = some (.elem e 0) := by
  rcases h with ⟨rfl, rfl⟩ | rfl | ⟨t, rfl, -⟩
  · simp at hi
  · simp [idxSSem, hi]
  · simp [idxSSem, hi]
theorem Wf0.find_path {os : List ObjV} {last : Int} (h : Wf0 os last) : ∀ x ∈ os, findA os (rpath os x.num) = (x.num, true) := fun x hx => by
  unfold rpath
  by_cases h1 : x.num = 1
  · rw [if_pos h1, h1]; simp [findA]
  · rw [if_neg h1]
    have hfn := h.fnd_names x hx
    have hno := h.names_no x hx
    have hst := h.names_step hx h1
    unfold path
    cases hnm : names os x.num with
    | nil => rw [hnm] at hst; simp at hst
    | cons a r =>
      rw [hnm] at hfn hno
      have hj : (a :: r).flatMap (fun q => (47 : UInt8) :: q) = 47 :: joinC 47 a r := by simp [joinC]
      have hne : joinC 47 a r ≠ [] := fun e => by
        have h2 := (path_ne h hx h1).2
        unfold path at h2
        rw [hnm, hj, e] at h2
        exact h2 rfl
      rw [hj]
      simp only [findA, if_true, if_neg hne]
      rw [parts_join (hno a (by simp)) (fun q hq => hno q (List.mem_cons_of_mem _ hq)), hfn]
theorem rpath_len {os : List ObjV} {last : Int} (h : Wf os last) (k : Int) : (pathA os k).1.length ≤ 256 := by
  unfold pathA
  split
  · rename_i hk
    unfold hasN at hk
    cases hf : fo os k with
    | none => rw [hf] at hk; cases hk
    | some r =>
      obtain ⟨i, x⟩ := r
      obtain ⟨-, hx, rfl⟩ := fo_some hf
      show (rpath os x.num).length ≤ 256
      unfold rpath
      split
      · simp
      · exact h.short x hx
  · simp
theorem l26 {n : Nat} (hn : 1100000 ≤ n) (s : StaV) (hw : Wf s.objs.l s.last) (hb : s.last ≤ 900) {p : Pl} {v : DVal} {σ0 : Sto} {L : List Int} (hv : Own σ0 1 v (intR L)) (hL : L.length ≤ 1000) (u : DVal) : ∀ (r i m : Nat) (σ : Sto), i + r = L.length → r < m → TreeAt σ p s.objs.l s.last →
    ∃ σ', iterJ 0 (L26_0 (cpJ PR n) (ciJ PR n) n (.obj p.t 0) s.d v) m [.int .i64 i, u] σ = some (.done (.bool true) σ') ∧ Kp σ σ' := by
  intro r
  have hlen := hw.len
  have hls := own_len hv
  simp only [intR, List.length_map] at hls
  induction r with
  | zero =>
    intro i m σ hi hm h
    obtain ⟨m, rfl⟩ : ∃ q, m = q + 1 := ⟨m - 1, by omega⟩
    have hi' : ¬ ((i : Int) < L.length) := by omega
    refine ⟨σ, iterJ_done ?_, Kp.refl σ⟩
    simp -implicitDefEqProofs [L26_0, B26_0, hi', hls]
  | succ r ih =>
    intro i m σ hi hm h
    obtain ⟨m, rfl⟩ : ∃ q, m = q + 1 := ⟨m - 1, by omega⟩
    have hi' : ((i : Int) < L.length) := by omega
    obtain ⟨k, hk⟩ := get_some (by omega : i < L.length)
    have hw2 := wrap_succ (i := i) (by omega)
    simp only [Int.natCast_add, Int.natCast_one] at hw2
    have hix := own_idx hv (i := i) (e := [.int .i64 k]) (by simp [intR, hk])
    have h25 := e25 h (n := n) hw (by omega) (by omega) k
    have h38 := e38 (n := n) s hw (by omega) (by omega) k
    have h18 := e18 h (n := n) (by omega) k
    have h19 := e19 (n := n) s (by omega) (by omega) k
    have h28 := e28 h (n := n) (by omega) k
    have h43 := e43 (n := n) s (by omega) (by omega) k
    have h24 := e24 h (n := n) (by omega) k
    have h44 := e44 (n := n) s (by omega) (by omega) k
    have h21 := e21 hw (n := n) (by omega) h k
    obtain ⟨z, h22⟩ := e22 (n := n) s (by omega) (by omega) k
    have hcl : (chl s.objs.l k).length ≤ 256 := by rw [(chl_perm _ k).length_eq]; exact Nat.le_trans (List.length_filter_le _ _) hlen
    have h20 := e20 (n := n) .nil z ((chl s.objs.l k).map ObjV.num) ((chl s.objs.l k).map ObjV.num) (by simp; omega) (by simp; omega) (by omega)
    rw [decide_eq_true rfl, ← numR_int] at h20
    have hse : (chA σ s.objs.l k).1.sealVal = some (slD .nil 1 (numR (chl s.objs.l k))) := sealVal_apd
    have hst : (slD z 1 (numR (chl s.objs.l k))).stale = slD z 1 (numR (chl s.objs.l k)) := by simp
    have hse2 : (slD z 1 (numR (chl s.objs.l k))).sealVal = some (slD z 1 (numR (chl s.objs.l k))) := by simp
    have hkp := kp_ch σ s.objs.l k
    have hT := h.kp hkp
    have h16 := e16 hT (n := n) hw.toWf0 (by omega) (pathA s.objs.l k).1 (by have := rpath_len hw k; omega)
    have hpl := rpath_len hw k
    have hfp : (pathA s.objs.l k).2 = true → findA s.objs.l (pathA s.objs.l k).1 = (k, true) := fun e => by
      unfold pathA at e ⊢
      split at e
      · rename_i hk2
        rw [if_pos hk2]
        unfold hasN at hk2
        cases hf : fo s.objs.l k with
        | none => rw [hf] at hk2; cases hk2
        | some r =>
          obtain ⟨i, x⟩ := r
          obtain ⟨-, hx, rfl⟩ := fo_some hf
          exact hw.toWf0.find_path x hx
      · cases e
    obtain ⟨σ', g1, g2⟩ := ih (i + 1) m (chA σ s.objs.l k).2 (by omega) (by omega) hT
    refine ⟨σ', ?_, hkp.trans g2⟩
    rw [← g1]
    refine iterJ_next' ?_
    simp only [Int.natCast_add, Int.natCast_one]
    generalize chA σ s.objs.l k = CH at *
    generalize slD .nil 1 (numR (chl s.objs.l k)) = S1 at *
    generalize slD z 1 (numR (chl s.objs.l k)) = S2 at *
    generalize getN s.objs.l k = N at *
    generalize hasN s.objs.l k = H at *
    generalize hfa : findA s.objs.l (pathA s.objs.l k).1 = FA at *
    generalize (pathA s.objs.l k).1 = PA at *
    obtain ⟨ch, τ⟩ := CH
    simp only at hse h21
    cases hb2 : (pathA s.objs.l k).2 with
    | false =>
      rw [hb2] at h25 h38
      simp -implicitDefEqProofs [L26_0, B26_0, hi', hls, hix, h25, h38, h18, h19, h28, h43, h24, h44, h21, h22, hst, hse, hse2, h20, h16, hw2, -fldSem.eq_1]
    | true =>
      have := hfp hb2
      subst this
      rw [hb2] at h25 h38
      simp -implicitDefEqProofs [L26_0, B26_0, hi', hls, hix, h25, h38, h18, h19, h28, h43, h24, h44, h21, h22, hst, hse, hse2, h20, h16, hw2, -fldSem.eq_1]
theorem e26 {n : Nat} (hn : 1100001 ≤ n) (s : StaV) (hw : Wf s.objs.l s.last) (hb : s.last ≤ 900) {p : Pl} {σ : Sto} (h : TreeAt σ p s.objs.l s.last) : ∃ σ', ciJ PR n 26 [.obj p.t 0, s.d] σ = some (.bool true, σ') ∧ Kp σ σ' := by
  obtain ⟨n, rfl⟩ : ∃ m, n = m + 1 := ⟨n - 1, by omega⟩
  have hlen := hw.len
  obtain ⟨z, h42⟩ := e42 (n := n) s hw (by omega) (by omega)
  have h13 := e13 h (n := n) (by omega)
  obtain ⟨σ1, h23, k1⟩ := e23 hw (by omega) (n := n) (by omega) h
  have hal : (allN s.objs.l).length = s.objs.l.length := hw.toWf0.all_len (k := 1000) (by omega)
  have h20 := e20 (n := n) .full z (allN s.objs.l) (allN s.objs.l) (by omega) (by omega) (by omega)
  rw [decide_eq_true rfl] at h20
  have hse : (DVal.slice false 0 1 ((allN s.objs.l).map fun i => [.int .i64 i])).sealVal = some (slD .full 1 (intR (allN s.objs.l))) := rfl
  have hst : (slD z 1 (intR (allN s.objs.l))).stale = slD z 1 (intR (allN s.objs.l)) := by simp
  have hse2 : (slD z 1 (intR (allN s.objs.l))).sealVal = some (slD z 1 (intR (allN s.objs.l))) := by simp
  have hok2 : (slD z 1 (intR (allN s.objs.l))).okVal = true := by simp
  have hlp := hw.last_pos
  have w1 : IntKind.i64.wrap (s.last + 1) = s.last + 1 := wrap_i64 (by omega) (by omega)
  have hbs : POp.sem (cpJ PR n) [(.int .i64 (-1)), (.int .i64 0), .int .i64 (s.last + 1)] (.bslice false 1) = some (.slice false 1 1 (intR [-1, 0, s.last + 1])) := rfl
  obtain ⟨v, σ2, s1, o1⟩ := own_app (σ := σ1) (x := slD z 1 (intR (allN s.objs.l))) (new := intR (allN s.objs.l)) (own_lit σ1 1 (intR [-1, 0, s.last + 1])) elems_slD szOk_slD (by simp [intR]; omega)
  have e1 : intR [-1, 0, s.last + 1] ++ intR (allN s.objs.l) = intR ([-1, 0, s.last + 1] ++ allN s.objs.l) := by simp [intR]
  rw [e1] at o1
  have k2 : Kp σ1 σ2 := by
    have : σ2.nobj = σ1.nobj ∧ σ2.obj = σ1.obj := by
      have h9 : ∀ (x : DVal) (y : DVal × Sto), app2Sem false 1 σ1 [.slice false 1 1 (intR [-1, 0, s.last + 1]), x] = some y → y.2.nobj = σ1.nobj ∧ y.2.obj = σ1.obj := fun x y hy => by
        simp only [app2Sem, appSem] at hy
        split at hy
        · split at hy
          · cases hy
          · split at hy
            · split at hy
              · simp only [Option.some.injEq] at hy; subst hy; exact ⟨rfl, rfl⟩
              · simp only [if_true, Option.some.injEq] at hy; subst hy; exact ⟨rfl, rfl⟩
            · cases hy
        · cases hy
      exact h9 _ _ s1
    exact ⟨by rw [this.1]; exact Nat.le_refl _, fun i _ => by rw [this.2]⟩
  obtain ⟨σ3, g1, g2⟩ := l26 (n := n) (by omega) s hw hb o1 (by simp; omega) (.bool false) ([-1, 0, s.last + 1] ++ allN s.objs.l).length 0 n σ2 (by omega) (by simp; omega) ((h.kp k1).kp k2)
  refine ⟨σ3, ?_, (k1.trans k2).trans g2⟩
  simp only [Int.natCast_zero] at g1
  rw [v26]
  generalize slD .full 1 (intR (allN s.objs.l)) = S1 at *
  generalize slD z 1 (intR (allN s.objs.l)) = S2 at *
  generalize DVal.slice false 0 1 ((allN s.objs.l).map fun i => [.int .i64 i]) = S3 at *
  generalize DVal.slice false 1 1 (intR [-1, 0, s.last + 1]) = S4 at *
  simp -implicitDefEqProofs [D26, h42, h13, h23, h20, hse, hst, hse2, w1, hbs, s1, g1, -fldSem.eq_1, -POp.sem.eq_17, -POp.sem.eq_18]
end Go.Proofs.YtklepphkbbjbjaaDoor
namespace Go.Proofs.YtklepphkbbjbjaaDoor
set_option linter.unusedVariables false
set_option linter.unusedSimpArgs false
set_option maxRecDepth 20000
set_option maxHeartbeats 8000000
open Go
abbrev exA : List ObjV := [⟨1, 0, [], 2, 5⟩]
abbrev exB : List ObjV := [⟨1, 0, [], 2, 5⟩, ⟨2, 1, [101, 116, 99], 2, 6⟩]
abbrev exC : List ObjV := [⟨1, 0, [], 2, 5⟩, ⟨2, 1, [101, 116, 99], 2, 6⟩, ⟨3, 2, [112, 97, 115, 115, 119, 100], 1, 7⟩]
theorem ex1 : addV exA 1 1 [101, 116, 99] 2 6 = ((exB, 2), 2, 0) := by kernel_rfl
theorem ex2 : addV exB 2 2 [112, 97, 115, 115, 119, 100] 1 7 = ((exC, 3), 3, 0) := by kernel_rfl
theorem ex3 : addV exC 3 3 [120] 1 1 = ((exC, 3), 0, 13) := by kernel_rfl
theorem ex4 : addV exC 3 2 [112, 97, 115, 115, 119, 100] 1 1 = ((exC, 3), 0, 12) := by kernel_rfl
theorem ex5 : addV exC 3 1 [97, 47, 98] 1 1 = ((exC, 3), 0, 10) := by kernel_rfl
theorem ex6 : pathA exC 3 = ([47, 101, 116, 99, 47, 112, 97, 115, 115, 119, 100], true) := by kernel_rfl
theorem ex7 : remV exC 2 = (exC, 23) := by kernel_rfl
theorem ex8 : allN exC = [1, 2, 3] := by kernel_rfl
theorem ex9 : remV exC 3 = (exB, 0) := by kernel_rfl
theorem ex10 : (addV exB 3 1 [120] 4 1).2 = (4, 0) := by kernel_rfl
theorem e10 {n : Nat} (hn : 1100001 ≤ n) : cpJ PR n 10 [] = some (.bool true) := by
  obtain ⟨n, rfl⟩ : ∃ m, n = m + 1 := ⟨n - 1, by omega⟩
  have wA : Wf exA 1 := wf_root 5
  have wB : Wf exB 2 := by have := (addV_wf wA 1 [101, 116, 99] 2 6).1; rw [ex1] at this; exact this
  have wC : Wf exC 3 := by have := (addV_wf wB 2 [112, 97, 115, 115, 119, 100] 1 7).1; rw [ex2] at this; exact this
  obtain ⟨σ0, h0, t0, -⟩ := e9 (n := n) (by omega) emptySto 5
  obtain ⟨σ1, p1, h1, t1, f1⟩ := e11 (n := n) wA (by omega) (by omega) t0 1 [101, 116, 99] 2 6
  rw [ex1] at h1 t1 f1
  replace t1 : TreeAt σ1 p1 exB 2 := t1
  obtain ⟨σ2, p2, h2, t2, f2⟩ := e11 (n := n) wB (by omega) (by omega) t1 2 [112, 97, 115, 115, 119, 100] 1 7
  rw [ex2] at h2 t2 f2
  replace t2 : TreeAt σ2 p2 exC 3 := t2
  obtain ⟨σ3, p3, h3, t3, f3⟩ := e11 (n := n) wC (by omega) (by omega) t2 3 [120] 1 1
  rw [ex3] at h3 t3 f3
  replace t3 : TreeAt σ3 p3 exC 3 := t3
  obtain ⟨σ4, p4, h4, t4, f4⟩ := e11 (n := n) wC (by omega) (by omega) t3 2 [112, 97, 115, 115, 119, 100] 1 1
  rw [ex4] at h4 t4 f4
  replace t4 : TreeAt σ4 p4 exC 3 := t4
  obtain ⟨σ5, p5, h5, t5, f5⟩ := e11 (n := n) wC (by omega) (by omega) t4 1 [97, 47, 98] 1 1
  rw [ex5] at h5 t5 f5
  replace t5 : TreeAt σ5 p5 exC 3 := t5
  have h6 := e25 t5 (n := n) wC (by omega) (by omega) 3
  rw [ex6] at h6
  obtain ⟨σ7, h7, t7, f7⟩ := e12 (n := n) wC (by omega) (by omega) t5 2
  rw [ex7] at h7 t7 f7
  replace t7 : TreeAt σ7 p5 exC 3 := t7
  obtain ⟨σ8, h8, k8⟩ := e23 wC (by omega) (n := n) (by omega) t7
  rw [ex8] at h8
  have t8 := t7.kp k8
  obtain ⟨σ9, h9, t9, f9⟩ := e12 (n := n) wC (by omega) (by omega) t8 3
  rw [ex9] at h9 t9 f9
  replace t9 : TreeAt σ9 p5 exB 3 := t9
  have wD : Wf exB 3 := by have := remV_wf wC 3; rw [ex9] at this; exact this
  obtain ⟨σ10, p10, h10, t10, f10⟩ := e11 (n := n) wD (by omega) (by omega) t9 1 [120] 4 1
  rw [ex10] at h10
  have s0 : (newP emptySto).t = emptySto.nobj + 3 := rfl
  have s1 := f1.same.trans s0
  have s2 := f2.same.trans s1
  have s3 := f3.same.trans s2
  have s4 := f4.same.trans s3
  have s5 := f5.same.trans s4
  rw [s0] at h1
  rw [s1] at h2
  rw [s2] at h3
  rw [s3] at h4
  rw [s4] at h5
  rw [s5] at h6 h7 h8 h9 h10
  have hbs : POp.sem (cpJ PR n) [(.int .i64 1), (.int .i64 2), (.int .i64 3)] (.bslice false 1) = some (slD .lit 1 (intR [1, 2, 3])) := rfl
  have hs1 : (DVal.slice false 0 1 (([1, 2, 3] : List Int).map fun i => [.int .i64 i])).sealVal = some (slD .full 1 (intR [1, 2, 3])) := rfl
  have hs2 : (slD .lit 1 (intR [1, 2, 3])).sealVal = some (slD .lit 1 (intR [1, 2, 3])) := by simp
  have h20 := e20 (n := n) .full .lit [1, 2, 3] [1, 2, 3] (by simp) (by simp) (by omega)
  rw [decide_eq_true rfl] at h20
  rw [u10]
  generalize emptySto.nobj + 3 = TT at *
  generalize slD .full 1 (intR [1, 2, 3]) = S1 at *
  generalize slD .lit 1 (intR [1, 2, 3]) = S2 at *
  generalize DVal.slice false 0 1 (([1, 2, 3] : List Int).map fun i => [.int .i64 i]) = S3 at *
  simp -implicitDefEqProofs [D10, h0, h1, h2, h3, h4, h5, h6, h7, h8, h9, h10, hbs, hs1, hs2, h20, -POp.sem.eq_17, -POp.sem.eq_18]
end Go.Proofs.YtklepphkbbjbjaaDoor
namespace Go.Proofs.YtklepphkbbjbjaaDoor
set_option linter.unusedVariables false
set_option linter.unusedSimpArgs false
set_option maxRecDepth 20000
set_option maxHeartbeats 8000000
open Go
section
variable {n : Nat}
theorem start (hn : 10000000000000000000 ≤ n) (lab : Int) (steps : Sl StepV) (hM : ∀ x ∈ steps.l, x.name.length ≤ 9223372036854775807) (hl : steps.l.length ≤ 40) :
    ∃ (t : Nat) (σ0 : Sto) (w : StaV) (σ1 : Sto) (p1 : Pl), ciJ PR n 9 [.int .i64 lab] emptySto = some (.obj t 0, σ0) ∧ cpJ PR n 14 [.int .i64 lab] = some (StaV.mk ⟨.lit, [⟨1, 0, [], 2, lab⟩]⟩ 1).d ∧
      ciJ PR n 15 [.obj t 0, (StaV.mk ⟨.lit, [⟨1, 0, [], 2, lab⟩]⟩ 1).d, slD steps.z 6 (steps.l.map StepV.row)] σ0 = some (.tup [w.d, .bool true], σ1) ∧ p1.t = t ∧ TreeAt σ1 p1 w.objs.l w.last ∧ Wf w.objs.l w.last ∧ w.last ≤ 41 := by
  obtain ⟨σ0, h0, t0, -⟩ := e9 (n := n) (by omega) emptySto lab
  have h14 := e14 (n := n) (by omega) lab
  obtain ⟨z, σ1, p1, h15, t1, f1⟩ := e15 (n := n) (M := 9223372036854775807) steps hM (Nat.le_refl _) (by omega) (by omega) (StaV.mk ⟨.lit, [⟨1, 0, [], 2, lab⟩]⟩ 1) (p := newP emptySto) (σ := σ0) (wf_root lab) (by show (1 : Int) + _ ≤ 900; omega) t0
  obtain ⟨w1, w2⟩ := playV_wf steps.l (S := ([⟨1, 0, [], 2, lab⟩], 1)) (wf_root lab)
  exact ⟨_, σ0, _, σ1, p1, h0, h14, h15, f1.same, t1, w1, by show (playV ([⟨1, 0, [], 2, lab⟩], 1) steps.l).2 ≤ 41; have : (playV ([⟨1, 0, [], 2, lab⟩], 1) steps.l).2 ≤ 1 + (steps.l.length : Int) := w2; omega⟩
theorem e6 (hn : 10000000000000000001 ≤ n) (lab : Int) (steps : Sl StepV) (hM : ∀ x ∈ steps.l, x.name.length ≤ 9223372036854775807) : cpJ PR n 6 [.int .i64 lab, slD steps.z 6 (steps.l.map StepV.row)] = some (.bool true) := by
  obtain ⟨n, rfl⟩ : ∃ m, n = m + 1 := ⟨n - 1, by omega⟩
  have h10 := e10 (n := n) (by omega)
  have hls : lenSlSem [slD steps.z 6 (steps.l.map StepV.row)] = some (.int .i64 steps.l.length) := by simp
  have hse : (slD steps.z 6 (steps.l.map StepV.row)).okVal = true := by simp
  rw [u6]
  by_cases hl : 40 < steps.l.length
  · have hl' : (40 : Int) < steps.l.length := by omega
    obtain ⟨σ0, h0, t0, -⟩ := e9 (n := n) (by omega) emptySto lab
    have h14 := e14 (n := n) (by omega) lab
    generalize slD steps.z 6 (steps.l.map StepV.row) = SL at *
    simp -implicitDefEqProofs [D6, h0, h14, hls, hl', h10, -jwrSem.eq_1, -fldSem.eq_1]
  · have hl' : ¬ (40 : Int) < steps.l.length := by omega
    obtain ⟨t, σ0, w, σ1, p1, h0, h14, h15, ht, t1, hw, hb⟩ := start (n := n) (by omega) lab steps hM (by omega)
    obtain ⟨σ2, h26, -⟩ := e26 (n := n) (by omega) w hw (by omega) t1
    rw [ht] at h26
    have c1 := StaV_wr2 (StaV.mk ⟨.lit, [⟨1, 0, [], 2, lab⟩]⟩ 1) w
    have c2 := StaV_wr (StaV.mk ⟨.lit, [⟨1, 0, [], 2, lab⟩]⟩ 1) .nils (.int .i64 0)
    have c3 := StaV_whole (StaV.mk ⟨.lit, [⟨1, 0, [], 2, lab⟩]⟩ 1)
    have c4 := StaV_okVal (StaV.mk ⟨.lit, [⟨1, 0, [], 2, lab⟩]⟩ 1)
    have c5 := StaV_stale (StaV.mk ⟨.lit, [⟨1, 0, [], 2, lab⟩]⟩ 1)
    generalize slD steps.z 6 (steps.l.map StepV.row) = SL at *
    generalize (StaV.mk ⟨.lit, [⟨1, 0, [], 2, lab⟩]⟩ 1).d = S0 at *
    simp -implicitDefEqProofs [D6, h0, h14, hls, hse, hl', h15, h26, c1, c2, c3, c4, c5, h10, -jwrSem.eq_1, -fldSem.eq_1]
theorem e4 (hn : 10000000000000000001 ≤ n) (steps : Sl StepV) (hM : ∀ x ∈ steps.l, x.name.length ≤ 9223372036854775807) (q : Bs) (k : Int) : cpJ PR n 4 [slD steps.z 6 (steps.l.map StepV.row), .str q, .int .i64 k] = some (.bool true) := by
  obtain ⟨n, rfl⟩ : ∃ m, n = m + 1 := ⟨n - 1, by omega⟩
  have h10 := e10 (n := n) (by omega)
  have hls : lenSlSem [slD steps.z 6 (steps.l.map StepV.row)] = some (.int .i64 steps.l.length) := by simp
  have hse : (slD steps.z 6 (steps.l.map StepV.row)).okVal = true := by simp
  rw [u4]
  by_cases hl : 40 < steps.l.length
  · have hl' : (40 : Int) < steps.l.length := by omega
    obtain ⟨σ0, h0, t0, -⟩ := e9 (n := n) (by omega) emptySto 1
    have h14 := e14 (n := n) (by omega) 1
    generalize slD steps.z 6 (steps.l.map StepV.row) = SL at *
    simp -implicitDefEqProofs [D4, h0, h14, hls, hl', h10, -jwrSem.eq_1, -fldSem.eq_1]
  have hl' : ¬ (40 : Int) < steps.l.length := by omega
  by_cases hq : 600 < q.length
  · have hq' : (600 : Int) < q.length := by omega
    obtain ⟨σ0, h0, t0, -⟩ := e9 (n := n) (by omega) emptySto 1
    have h14 := e14 (n := n) (by omega) 1
    generalize slD steps.z 6 (steps.l.map StepV.row) = SL at *
    simp -implicitDefEqProofs [D4, h0, h14, hls, hl', hq', h10, -jwrSem.eq_1, -fldSem.eq_1]
  · have hq' : ¬ (600 : Int) < q.length := by omega
    obtain ⟨t, σ0, w, σ1, p1, h0, h14, h15, ht, t1, hw, hb⟩ := start (n := n) (by omega) 1 steps hM (by omega)
    have hlen := hw.len
    have h16 := e16 t1 (n := n) hw.toWf0 (by omega) q (by omega)
    have h17 := e17 (n := n) w hw (by omega) (by omega) q
    rw [hw.toWf0.find_same] at h17
    have h18 := e18 t1 (n := n) (by omega) k
    have h19 := e19 (n := n) w (by omega) (by omega) k
    have h21 := e21 hw (n := n) (by omega) t1 k
    obtain ⟨z, h22⟩ := e22 (n := n) w (by omega) (by omega) k
    rw [ht] at h16 h18 h21
    have hcl : (chl w.objs.l k).length ≤ 256 := by rw [(chl_perm _ k).length_eq]; exact Nat.le_trans (List.length_filter_le _ _) hlen
    have h20 := e20 (n := n) .nil z ((chl w.objs.l k).map ObjV.num) ((chl w.objs.l k).map ObjV.num) (by simp; omega) (by simp; omega) (by omega)
    rw [decide_eq_true rfl, ← numR_int] at h20
    have hs1 : (chA σ1 w.objs.l k).1.sealVal = some (slD .nil 1 (numR (chl w.objs.l k))) := sealVal_apd
    have hst : (slD z 1 (numR (chl w.objs.l k))).stale = slD z 1 (numR (chl w.objs.l k)) := by simp
    have hs2 : (slD z 1 (numR (chl w.objs.l k))).sealVal = some (slD z 1 (numR (chl w.objs.l k))) := by simp
    have c1 := StaV_wr2 (StaV.mk ⟨.lit, [⟨1, 0, [], 2, 1⟩]⟩ 1) w
    have c2 := StaV_wr (StaV.mk ⟨.lit, [⟨1, 0, [], 2, 1⟩]⟩ 1) .nils (.int .i64 0)
    have c3 := StaV_whole (StaV.mk ⟨.lit, [⟨1, 0, [], 2, 1⟩]⟩ 1)
    have c4 := StaV_okVal (StaV.mk ⟨.lit, [⟨1, 0, [], 2, 1⟩]⟩ 1)
    have c5 := StaV_stale (StaV.mk ⟨.lit, [⟨1, 0, [], 2, 1⟩]⟩ 1)
    generalize slD steps.z 6 (steps.l.map StepV.row) = SL at *
    generalize (StaV.mk ⟨.lit, [⟨1, 0, [], 2, 1⟩]⟩ 1).d = S0 at *
    generalize chA σ1 w.objs.l k = CH at *
    generalize slD .nil 1 (numR (chl w.objs.l k)) = S1 at *
    generalize slD z 1 (numR (chl w.objs.l k)) = S2 at *
    generalize getN w.objs.l k = N at *
    generalize hasN w.objs.l k = H at *
    generalize findA w.objs.l q = FA at *
    obtain ⟨ch, τ⟩ := CH
    simp only at hs1 h21
    simp -implicitDefEqProofs [D4, h0, h14, hls, hse, hl', hq', h15, h16, h17, h18, h19, h21, h22, h20, hs1, hst, hs2, c1, c2, c3, c4, c5, h10, -jwrSem.eq_1, -fldSem.eq_1]
theorem l5_0 {A : List Int} (hA : A.Nodup) (hlA : A.length ≤ 1000) {i : Nat} {m : Int} (hm : A[i]? = some m) {up : Int} (u : DVal) (σ : Sto) : ∀ (r k q : Nat) (b : Bool), k + r = i → r < q → (b || ((A.take i).drop k).any (fun x => x == up)) = true →
    iterJ 1 (L5_0 (cpJ PR n) (ciJ PR n) n (slD .full 1 (intR A)) (.int .i64 i) (.int .i64 up) (.bool true) (.int .i64 m) (.bool true)) q [.int .i64 k, .bool b, u] σ = some (.next 0 [.int .i64 ((i + 1 : Nat) : Int), u] σ) := by
  have hil : i < A.length := (List.getElem?_eq_some_iff.1 hm).1
  have hw := wrap_succ (i := i) (by omega)
  simp only [Int.natCast_add, Int.natCast_one] at hw
  have hxi : idxSSem 1 [slD .full 1 (intR A), .int .i64 (i : Int)] = some (.elem [.int .i64 m] 0) := by simp [intR, hm]
  intro r
  induction r with
  | zero =>
    intro k q b hk hq hb
    obtain ⟨q, rfl⟩ : ∃ j, q = j + 1 := ⟨q - 1, by omega⟩
    have hk' : ¬ ((k : Int) < (i : Int)) := by omega
    rw [List.drop_eq_nil_of_le (by rw [List.length_take]; omega)] at hb
    simp only [List.any_nil, Bool.or_false] at hb
    subst hb
    refine iterJ_out ?_ (by decide)
    generalize slD .full 1 (intR A) = SA at *
    simp -implicitDefEqProofs [L5_0, B5_0, hk', hxi, hw]
  | succ r ih =>
    intro k q b hk hq hb
    obtain ⟨q, rfl⟩ : ∃ j, q = j + 1 := ⟨q - 1, by omega⟩
    have hk' : ((k : Int) < (i : Int)) := by omega
    obtain ⟨x, hx⟩ := get_some (by omega : k < A.length)
    have hxk : idxSSem 1 [slD .full 1 (intR A), .int .i64 (k : Int)] = some (.elem [.int .i64 x] 0) := by simp [intR, hx]
    have hw2 := wrap_succ (i := k) (by omega)
    simp only [Int.natCast_add, Int.natCast_one] at hw2
    have hne : ¬ x = m := fun e => by
      subst e
      have h1 := List.getElem?_eq_some_iff.1 hx
      have h2 := List.getElem?_eq_some_iff.1 hm
      obtain ⟨l1, e1⟩ := h1
      obtain ⟨l2, e2⟩ := h2
      exact List.pairwise_iff_getElem.1 hA k i l1 l2 (by omega) (e1.trans e2.symm)
    have hne' : (x == m) = false := by simpa using hne
    have hdr : (A.take i).drop k = x :: (A.take i).drop (k + 1) := drop_get (by rw [List.getElem?_take, if_pos (by omega)]; exact hx)
    rw [hdr, List.any_cons, ← Bool.or_assoc] at hb
    rw [iterJ_next' (vs' := [.int .i64 ((k + 1 : Nat) : Int), .bool (b || (x == up)), u]) (σ' := σ) ?_, ih (k + 1) q (b || (x == up)) (by omega) (by omega) hb]
    generalize slD .full 1 (intR A) = SA at *
    cases b with
    | true => simp -implicitDefEqProofs [L5_0, B5_0, hk', hxi, hxk, hw2, hne, hne']
    | false => simp -implicitDefEqProofs [L5_0, B5_0, hk', hxi, hxk, hw2, hne, hne']
theorem l5_1 (hn : 1200000 ≤ n) {os : List ObjV} {last : Int} (hw : Wf os last) (hb : last ≤ 900) {p : Pl} {σ : Sto} (h : TreeAt σ p os last) (u : DVal) : ∀ (r i m : Nat), i + r = (allN os).length → r < m →
    iterJ 0 (L5_1 (cpJ PR n) (ciJ PR n) n (.obj p.t 0) (slD .full 1 (intR (allN os)))) m [.int .i64 i, u] σ = some (.done (.bool true) σ) := by
  have h10 := e10 (n := n) (by omega)
  have hlen := hw.len
  have hal : (allN os).length = os.length := hw.toWf0.all_len (k := 1000) (by omega)
  have hnd : (allN os).Nodup := hw.toWf0.pre_nodup 1000 1 hw.last_pos (by omega)
  have hls : lenSlSem [slD .full 1 (intR (allN os))] = some (.int .i64 (allN os).length) := by simp [intR]
  intro r
  induction r with
  | zero =>
    intro i m hi hm
    obtain ⟨m, rfl⟩ : ∃ q, m = q + 1 := ⟨m - 1, by omega⟩
    have hi' : ¬ ((i : Int) < (allN os).length) := by omega
    refine iterJ_done ?_
    generalize slD .full 1 (intR (allN os)) = SA at *
    simp -implicitDefEqProofs [L5_1, B5_1, hi', hls, h10]
  | succ r ih =>
    intro i m hi hm
    obtain ⟨m, rfl⟩ : ∃ q, m = q + 1 := ⟨m - 1, by omega⟩
    have hi' : ((i : Int) < (allN os).length) := by omega
    obtain ⟨k, hk⟩ := get_some (by omega : i < (allN os).length)
    have hix : idxSSem 1 [slD .full 1 (intR (allN os)), .int .i64 (i : Int)] = some (.elem [.int .i64 k] 0) := by simp [intR, hk]
    obtain ⟨x, hx, rfl⟩ := List.mem_map.1 ((hw.toWf0.mem_all (k := 1000) (by omega)).1 (List.mem_of_getElem? hk))
    obtain ⟨j, hf, -⟩ := hw.toWf0.fo hx
    have hg : getN os x.num = x.node := by unfold getN; rw [hf]
    have hh : hasN os x.num = true := by unfold hasN; rw [hf]; rfl
    have h24 := e24 h (n := n) (by omega) x.num
    have h25 := e25 h (n := n) hw (by omega) (by omega) x.num
    have hpa : pathA os x.num = (rpath os x.num, true) := by unfold pathA; rw [if_pos hh]
    have hpl := rpath_len hw x.num
    rw [hg, hh] at h24
    rw [hpa] at h25 hpl
    have h16 := e16 h (n := n) hw.toWf0 (by omega) (rpath os x.num) (by simp only at hpl; omega)
    rw [hw.toWf0.find_path x hx] at h16
    have nu : NodeV.up x.node = x.dir := rfl
    rw [nu] at h24
    have hbef : (((x.num == 1) && (x.dir == 0)) || (((allN os).take i).drop 0).any (fun y => y == x.dir)) = true := by
      by_cases h1 : x.num = 1
      · obtain ⟨y, hy, e1, e2, -⟩ := hw.toWf0.one
        have : x = y := hw.toWf0.inj hx hy (h1.trans e1.symm)
        subst this
        simp [e1, e2]
      · have hsp : pre os 1000 1 = (allN os).take i ++ x.num :: (allN os).drop (i + 1) := by
          show allN os = _
          rw [← drop_get hk, List.take_append_drop]
        have := hw.toWf0.after 1000 1 hx h1 hsp
        simp [h1]
        exact this
    have hin := l5_0 (n := n) hnd (by omega) hk (up := x.dir) u σ i 0 n _ (by omega) (by omega) hbef
    simp only [Int.natCast_zero] at hin
    rw [← ih (i + 1) m (by omega) (by omega)]
    refine iterJ_next' ?_
    generalize slD .full 1 (intR (allN os)) = SA at *
    generalize rpath os x.num = RP at *
    by_cases h1 : x.num = 1
    · have h1' : (x.num == 1) = true := by simpa using h1
      rw [h1', Bool.true_and] at hin
      clear hbef hf hg hh hpa hpl h1' nu
      generalize x.num = k at *
      subst h1
      simp -implicitDefEqProofs [L5_1, B5_1, hi', hls, hix, h24, h25, h16, hin]
    · have h1' : (x.num == 1) = false := by simpa using h1
      rw [h1', Bool.false_and] at hin
      simp -implicitDefEqProofs [L5_1, B5_1, hi', hls, hix, h24, h25, h16, h1, h1', hin]
theorem e5 (hn : 10000000000000000001 ≤ n) (steps : Sl StepV) (hM : ∀ x ∈ steps.l, x.name.length ≤ 9223372036854775807) : cpJ PR n 5 [slD steps.z 6 (steps.l.map StepV.row)] = some (.bool true) := by
  obtain ⟨n, rfl⟩ : ∃ m, n = m + 1 := ⟨n - 1, by omega⟩
  have h10 := e10 (n := n) (by omega)
  have hls : lenSlSem [slD steps.z 6 (steps.l.map StepV.row)] = some (.int .i64 steps.l.length) := by simp
  have hse : (slD steps.z 6 (steps.l.map StepV.row)).okVal = true := by simp
  rw [u5]
  by_cases hl : 40 < steps.l.length
  · have hl' : (40 : Int) < steps.l.length := by omega
    obtain ⟨σ0, h0, t0, -⟩ := e9 (n := n) (by omega) emptySto 1
    generalize slD steps.z 6 (steps.l.map StepV.row) = SL at *
    simp -implicitDefEqProofs [D5, h0, hls, hl', h10, -jwrSem.eq_1, -fldSem.eq_1]
  · have hl' : ¬ (40 : Int) < steps.l.length := by omega
    obtain ⟨t, σ0, w, σ1, p1, h0, h14, h15, ht, t1, hw, hb⟩ := start (n := n) (by omega) 1 steps hM (by omega)
    have hlen := hw.len
    obtain ⟨σ2, h23, k2⟩ := e23 hw (by omega) (n := n) (by omega) t1
    have t2 := t1.kp k2
    have h13 := e13 t2 (n := n) (by omega)
    have hal : (allN w.objs.l).length = w.objs.l.length := hw.toWf0.all_len (k := 1000) (by omega)
    have hl5 := l5_1 (n := n) (by omega) hw (by omega) t2 (.bool false) (allN w.objs.l).length 0 n (by omega) (by omega)
    simp only [Int.natCast_zero] at hl5
    rw [ht] at h23 h13 hl5
    have e1 : (DVal.slice false 0 1 ((allN w.objs.l).map fun i => [.int .i64 i])) = slD .full 1 (intR (allN w.objs.l)) := rfl
    rw [e1] at h23
    have hlA : lenSlSem [slD .full 1 (intR (allN w.objs.l))] = some (.int .i64 w.objs.l.length) := by rw [← hal]; simp [intR]
    have c1 := StaV_wr w .nils (.int .i64 0)
    have c4 := StaV_okVal (StaV.mk ⟨.lit, [⟨1, 0, [], 2, 1⟩]⟩ 1)
    have c5 := StaV_stale (StaV.mk ⟨.lit, [⟨1, 0, [], 2, 1⟩]⟩ 1)
    generalize slD steps.z 6 (steps.l.map StepV.row) = SL at *
    generalize slD .full 1 (intR (allN w.objs.l)) = SA at *
    generalize (StaV.mk ⟨.lit, [⟨1, 0, [], 2, 1⟩]⟩ 1).d = S0 at *
    simp -implicitDefEqProofs [D5, h0, h14, hls, hse, hl', h15, h23, h13, hlA, hl5, c1, c4, c5, -jwrSem.eq_1, -fldSem.eq_1]
end
end Go.Proofs.YtklepphkbbjbjaaDoor
namespace Go.Proofs.YtklepphkbbjbjaaDoor
set_option linter.unusedVariables false
set_option linter.unusedSimpArgs false
set_option maxRecDepth 20000
set_option maxHeartbeats 8000000
open Go
def nmF (i : Nat) : Bs := [102, (97 + i % 26).toUInt8, (97 + i / 26).toUInt8]
def obF (kind : Int) (j : Nat) : ObjV := ⟨(j : Int) + 1, 1, nmF j, kind, j⟩
def osF (kind : Int) (i : Nat) : List ObjV := ⟨1, 0, [], 2, 0⟩ :: (List.range i).map fun j => obF kind (j + 1)
theorem osF_succ (kind : Int) (i : Nat) : osF kind (i + 1) = osF kind i ++ [obF kind (i + 1)] := by
  simp [osF, List.range_succ]
theorem mem_osF {kind : Int} {i : Nat} {x : ObjV} : x ∈ osF kind i ↔ x = ⟨1, 0, [], 2, 0⟩ ∨ ∃ j, j < i ∧ x = obF kind (j + 1) := by
  simp only [osF, List.mem_cons, List.mem_map, List.mem_range]
  constructor
  · rintro (h | ⟨j, hj, rfl⟩)
    · exact .inl h
    · exact .inr ⟨j, hj, rfl⟩
  · rintro (h | ⟨j, hj, rfl⟩)
    · exact .inl h
    · exact .inr ⟨j, hj, rfl⟩
theorem len_osF (kind : Int) (i : Nat) : (osF kind i).length = i + 1 := by simp [osF]
theorem toU8 {n : Nat} (h : n < 256) : (n.toUInt8).toNat = n := by
  simp [Nat.toUInt8, UInt8.toNat_ofNat, Nat.mod_eq_of_lt h]
theorem nmF_inj {a b : Nat} (ha : a < 300) (hb : b < 300) (h : nmF a = nmF b) : a = b := by
  simp only [nmF, List.cons.injEq, and_true, true_and] at h
  obtain ⟨h1, h2⟩ := h
  have h1 := congrArg UInt8.toNat h1
  have h2 := congrArg UInt8.toNat h2
  rw [toU8 (by omega), toU8 (by omega)] at h1 h2
  omega
theorem nmF_ok {i : Nat} (hi : i < 300) : nameV (nmF i) = true := by
  have p1 : pB (102 : UInt8) = true := by decide
  have p2 : ∀ n : Nat, 97 ≤ n → n ≤ 122 → pB n.toUInt8 = true := fun n h1 h2 => by
    have e := toU8 (n := n) (by omega)
    have hne : ∀ c : UInt8, c.toNat < 97 → (n.toUInt8 == c) = false := fun c hc => by
      simp only [beq_eq_false_iff_ne]
      intro e2
      rw [e2] at e
      omega
    unfold pB
    rw [e]
    simp only [bne, hne 47 (by decide), hne 42 (by decide), hne 63 (by decide), hne 34 (by decide), Bool.not_false, Bool.and_true, Bool.and_eq_true, decide_eq_true_eq]
    omega
  simp only [nameV, nmF, List.length_cons, List.length_nil, List.all_cons, List.all_nil, p1, p2 (97 + i % 26) (by omega) (by omega), p2 (97 + i / 26) (by omega) (by omega)]
  rfl
theorem kids_osF {kind : Int} {i : Nat} {d : Int} (hd : d ≠ 1) (hd0 : d ≠ 0) : kids (osF kind i) d = [] := by
  refine List.eq_nil_iff_forall_not_mem.2 fun x hx => ?_
  obtain ⟨h1, h2, h3⟩ := mem_kids.1 hx
  rcases mem_osF.1 h1 with rfl | ⟨j, hj, rfl⟩
  · exact h3 rfl
  · exact hd h2.symm
theorem kid_osF_none {kind : Int} {i : Nat} {q : Bs} (hq : ∀ j, j < i → nmF (j + 1) ≠ q) : kid (osF kind i) 1 q = none := by
  refine firstAt_no fun x hx => ?_
  obtain ⟨h1, h2, h3⟩ := mem_kids.1 hx
  rcases mem_osF.1 h1 with rfl | ⟨j, hj, rfl⟩
  · exact absurd rfl h3
  · have := hq j hj
    simp only [beq_eq_false_iff_ne]
    exact fun e => this e.symm
theorem full_ok {kind : Int} (h1 : 1 ≤ kind) (h4 : kind ≤ 4) {os : List ObjV} {last : Int} (hw : Wf os last) {q : Bs} (hq : nameV q = true) (hk : kid os 1 q = none) (hl : os.length < 256) : addE os 1 q kind = 0 := by
  obtain ⟨x, hx, e1, -, -, e2⟩ := hw.toWf0.one
  obtain ⟨i, hf, -⟩ := hw.toWf0.fo hx
  rw [e1] at hf
  have hql : q.length ≤ 32 := by
    simp only [nameV, Bool.and_eq_true, decide_eq_true_eq] at hq
    exact hq.1.2
  exact addE_zero.2 ⟨⟨⟨x, hx, e1, e2⟩, h1, h4, hq, hk, by rw [path_root]; simp; omega, hl⟩, i, x, hf, e2⟩
theorem osF_add {kind : Int} (h1 : 1 ≤ kind) (h4 : kind ≤ 4) {i : Nat} (hi : i < 255) (hw : Wf (osF kind i) ((i : Int) + 1)) :
    addV (osF kind i) ((i : Int) + 1) 1 (nmF (i + 1)) kind ((i + 1 : Nat) : Int) = ((osF kind (i + 1), ((i + 1 : Nat) : Int) + 1), ((i + 1 : Nat) : Int) + 1, 0) := by
  have hE := full_ok h1 h4 hw (nmF_ok (i := i + 1) (by omega)) (kid_osF_none fun j hj e => by have := nmF_inj (by omega) (by omega) e; omega) (by rw [len_osF]; omega)
  unfold addV
  rw [if_pos hE, osF_succ]
  simp only [obF, Int.natCast_add, Int.natCast_one]
theorem osF_wf {kind : Int} (h1 : 1 ≤ kind) (h4 : kind ≤ 4) : ∀ (i : Nat), i ≤ 255 → Wf (osF kind i) ((i : Int) + 1)
  | 0, _ => wf_root 0
  | i + 1, hi => by
    have hw := osF_wf h1 h4 i (by omega)
    have := (addV_wf hw 1 (nmF (i + 1)) kind ((i + 1 : Nat) : Int)).1
    rw [osF_add h1 h4 (by omega) hw] at this
    exact this
theorem l3 {n : Nat} (hn : 1200000 ≤ n) {kind : Int} (h1 : 1 ≤ kind) (h4 : kind ≤ 4) {t : Nat} (u : DVal) : ∀ (r i m : Nat) (σ : Sto) (p : Pl), i + r = 255 → r < m → TreeAt σ p (osF kind i) ((i : Int) + 1) → p.t = t →
    ∃ σ', iterJ 0 (L3_0 (cpJ PR n) (ciJ PR n) n (.int .i64 kind) (.obj t 0)) m [.int .i64 ((i + 1 : Nat) : Int), u] σ = some (.done (.bool true) σ') := by
  intro r
  induction r with
  | zero =>
    intro i m σ p hi hm h ht
    obtain ⟨m, rfl⟩ : ∃ q, m = q + 1 := ⟨m - 1, by omega⟩
    obtain rfl : i = 255 := by omega
    have hw := osF_wf h1 h4 255 (by omega)
    have h10 := e10 (n := n) (by omega)
    have hlen := len_osF kind 255
    -- the fourth object is not there any more; no name is 'one'
    have hone : ∀ j, nmF j ≠ [111, 110, 101] := fun j e => by
      simp only [nmF, List.cons.injEq] at e
      exact absurd e.1 (by decide)
    have hnone : nameV [111, 110, 101] = true := by decide
    have A1 : addV (osF kind 255) (((255 : Nat) : Int) + 1) 1 [111, 110, 101] kind 0 = ((osF kind 255, ((255 : Nat) : Int) + 1), 0, 25) := by
      have hE : addE (osF kind 255) 1 [111, 110, 101] kind = 25 := by
        obtain ⟨x, hx, e1, -, -, e2⟩ := hw.toWf0.one
        obtain ⟨i, hf, -⟩ := hw.toWf0.fo hx
        rw [e1] at hf
        have hk : kid (osF kind 255) 1 [111, 110, 101] = none := kid_osF_none fun j _ => hone _
        unfold addE
        rw [hf]
        simp only
        rw [if_neg (by simpa using e2), if_neg (by omega), if_neg (by rw [hnone]; simp), if_neg (by rw [hk]; simp), if_neg (by rw [path_root]; simp), if_pos (by rw [hlen]; omega)]
      unfold addV
      rw [hE]
      rfl
    have A2 : addV (osF kind 255) (((255 : Nat) : Int) + 1) 1 [102, 98, 97] kind 0 = ((osF kind 255, ((255 : Nat) : Int) + 1), 0, 12) := by
      have hE : addE (osF kind 255) 1 [102, 98, 97] kind = 12 := by
        obtain ⟨x, hx, e1, -, -, e2⟩ := hw.toWf0.one
        obtain ⟨i, hf, -⟩ := hw.toWf0.fo hx
        rw [e1] at hf
        have hin : obF kind 1 ∈ kids (osF kind 255) 1 := mem_kids.2 ⟨mem_osF.2 (.inr ⟨0, by omega, rfl⟩), rfl, by show (((1 : Nat) : Int) + 1) ≠ 1; omega⟩
        obtain ⟨j, hk⟩ := hw.toWf0.kid hin
        have hnm : (obF kind 1).name = [102, 98, 97] := by show nmF 1 = _; decide
        rw [hnm] at hk
        unfold addE
        rw [hf]
        simp only
        rw [if_neg (by simpa using e2), if_neg (by omega), if_neg (by rw [show nameV [102, 98, 97] = true by decide]; simp), if_pos (by rw [hk]; rfl)]
      unfold addV
      rw [hE]
      rfl
    have hrem : remV (osF kind 255) 2 = ((osF kind 255).filter (fun x => x.num != 2), 0) := by
      have hin : obF kind 1 ∈ osF kind 255 := mem_osF.2 (.inr ⟨0, by omega, rfl⟩)
      obtain ⟨j, hf, -⟩ := hw.toWf0.fo hin
      rw [show (obF kind 1).num = 2 from rfl] at hf
      have hE : remE (osF kind 255) 2 = 0 := by
        unfold remE
        rw [hf]
        simp only
        rw [if_neg]
        rw [kids_osF (by decide) (by decide)]
        simp
      unfold remV
      rw [if_pos hE]
    have hw3 := remV_wf hw 2
    rw [hrem] at hw3
    have hlen3 : ((osF kind 255).filter (fun x => x.num != 2)).length = 255 := by
      have hin : obF kind 1 ∈ osF kind 255 := mem_osF.2 (.inr ⟨0, by omega, rfl⟩)
      obtain ⟨j, hf, -⟩ := hw.toWf0.fo hin
      rw [show (obF kind 1).num = 2 from rfl] at hf
      have he := erase_first (i := 0) (m := j) (x := obF kind 1) (by rw [Nat.zero_add]; exact hf) (num_apart hw.toWf0 2)
      rw [ne_comm_num] at he
      have hj : j < (osF kind 255).length := (List.getElem?_eq_some_iff.1 (fo_some hf).1).1
      rw [← he, List.length_eraseIdx_of_lt hj, hlen]
    have A3 : addV ((osF kind 255).filter (fun x => x.num != 2)) (((255 : Nat) : Int) + 1) 1 [111, 110, 101] kind 0 = (((osF kind 255).filter (fun x => x.num != 2) ++ [⟨((255 : Nat) : Int) + 1 + 1, 1, [111, 110, 101], kind, 0⟩], ((255 : Nat) : Int) + 1 + 1), ((255 : Nat) : Int) + 1 + 1, 0) := by
      have hk : kid ((osF kind 255).filter (fun x => x.num != 2)) 1 [111, 110, 101] = none := by
        refine firstAt_no fun x hx => ?_
        rw [kids_wo] at hx
        obtain ⟨g1, g2, g3⟩ := mem_kids.1 (List.mem_filter.1 hx).1
        rcases mem_osF.1 g1 with rfl | ⟨j, hj, rfl⟩
        · exact absurd rfl g3
        · simp only [beq_eq_false_iff_ne]
          exact fun e => hone (j + 1) e.symm
      have hE := full_ok h1 h4 hw3 hnone hk (by rw [hlen3]; omega)
      unfold addV
      rw [if_pos hE]
    -- the calls
    obtain ⟨σ1, p1, c1, t1, f1⟩ := e11 (n := n) hw (by omega) (by omega) h 1 [111, 110, 101] kind 0
    rw [A1] at c1 t1 f1
    obtain ⟨σ2, p2, c2, t2, f2⟩ := e11 (n := n) hw (by omega) (by omega) t1 1 [102, 98, 97] kind 0
    rw [A2] at c2 t2 f2
    obtain ⟨σ3, c3, t3, f3⟩ := e12 (n := n) hw (by omega) (by omega) t2 2
    rw [hrem] at c3 t3 f3
    obtain ⟨σ4, p4, c4, t4, f4⟩ := e11 (n := n) hw3 (by omega) (by omega) t3 1 [111, 110, 101] kind 0
    rw [A3] at c4 t4 f4
    have c5 := e13 t4 (n := n) (by omega)
    have hlen5 : (((osF kind 255).filter (fun x => x.num != 2) ++ [(⟨((255 : Nat) : Int) + 1 + 1, 1, [111, 110, 101], kind, 0⟩ : ObjV)]).length : Int) = 256 := by
      rw [List.length_append, hlen3]
      rfl
    have s1 := f1.same.trans ht
    have s2 := f2.same.trans s1
    have s4 := f4.same.trans s2
    simp only at c5
    rw [hlen5, s4] at c5
    rw [ht] at c1
    rw [s1] at c2
    rw [s2] at c3 c4
    refine ⟨σ4, iterJ_done ?_⟩
    rw [show (((255 : Nat) : Int) + 1 + 1) = 257 from rfl] at c4
    rw [show ((255 + 1 : Nat) : Int) = 256 from rfl]
    simp -implicitDefEqProofs [L3_0, B3_0, c1, c2, c3, c4, c5, h10]
  | succ r ih =>
    intro i m σ p hi hm h ht
    obtain ⟨m, rfl⟩ : ∃ q, m = q + 1 := ⟨m - 1, by omega⟩
    have hw := osF_wf h1 h4 i (by omega)
    obtain ⟨σ1, p1, c1, t1, f1⟩ := e11 (n := n) hw (by omega) (by omega) h 1 (nmF (i + 1)) kind ((i + 1 : Nat) : Int)
    rw [osF_add h1 h4 (by omega) hw, ht] at c1
    rw [osF_add h1 h4 (by omega) hw] at t1 f1
    obtain ⟨σ', g⟩ := ih (i + 1) m σ1 p1 (by omega) (by omega) t1 (f1.same.trans ht)
    refine ⟨σ', ?_⟩
    rw [← g]
    refine iterJ_next' ?_
    simp only at c1
    have hr : (i + 1) % 26 < 26 := Nat.mod_lt _ (by omega)
    have hq : (i + 1) / 26 < 10 := by omega
    have b0 : bin2Sem .lss [.int .i64 ((i + 1 : Nat) : Int), .int .i64 256] = some (.bool true) := by
      have : (((i + 1 : Nat) : Int) < 256) := by omega
      simp only [bin2Sem, binSem, binInt, this, decide_true, if_true]
    have b1 : bin2Sem .rem [.int .i64 ((i + 1 : Nat) : Int), .int .i64 26] = some (.int .i64 (((i + 1) % 26 : Nat) : Int)) := rfl
    have b5 : bin2Sem .quo [.int .i64 ((i + 1 : Nat) : Int), .int .i64 26] = some (.int .i64 (((i + 1) / 26 : Nat) : Int)) := by
      have w : IntKind.i64.wrap ((((i + 1) / 26 : Nat) : Int)) = (((i + 1) / 26 : Nat) : Int) := wrap_i64 (by omega) (by omega)
      show some (DVal.int .i64 (IntKind.i64.wrap (((i + 1) / 26 : Nat) : Int))) = _
      rw [w]
    have b2 : ∀ a : Nat, a < 100 → bin2Sem .add [.int .i64 97, .int .i64 (a : Int)] = some (.int .i64 ((97 + a : Nat) : Int)) := fun a ha => by
      have w : IntKind.i64.wrap (97 + (a : Int)) = ((97 + a : Nat) : Int) := by rw [wrap_i64 (by omega) (by omega)]; omega
      show some (DVal.int .i64 (IntKind.i64.wrap (97 + (a : Int)))) = _
      rw [w]
    have b3 : ∀ a : Nat, a < 256 → convSem .u8 [.int .i64 (a : Int)] = some (.int .u8 (a : Int)) := fun a ha => by
      have w : IntKind.u8.wrap (a : Int) = (a : Int) := by simp -implicitDefEqProofs [IntKind.wrap, IntKind.bits, IntKind.signed]; omega
      show some (DVal.int .u8 (IntKind.u8.wrap (a : Int))) = _
      rw [w]
    have b8 : POp.sem (cpJ PR n) [.int .u8 102, .int .u8 ((97 + (i + 1) % 26 : Nat) : Int), .int .u8 ((97 + (i + 1) / 26 : Nat) : Int)] (.bslice false 1) = some (.slice false 1 1 [[.int .u8 102], [.int .u8 ((97 + (i + 1) % 26 : Nat) : Int)], [.int .u8 ((97 + (i + 1) / 26 : Nat) : Int)]]) := rfl
    have b9 : convBSem [.slice false 1 1 [[.int .u8 102], [.int .u8 ((97 + (i + 1) % 26 : Nat) : Int)], [.int .u8 ((97 + (i + 1) / 26 : Nat) : Int)]]] = some (.str (nmF (i + 1))) := by
      have k1 : ∀ (a : Nat) (es : List (List DVal)), a < 256 → bytesOf ([.int .u8 (a : Int)] :: es) = (bytesOf es).map (a.toUInt8 :: ·) := fun a es ha => by
        show (if 0 ≤ (a : Int) ∧ (a : Int) < 256 then (bytesOf es).map ((a : Int).toNat.toUInt8 :: ·) else none) = _
        rw [if_pos ⟨by omega, by omega⟩]
        rfl
      show (bytesOf _).map DVal.str = _
      rw [show (DVal.int .u8 102) = DVal.int .u8 ((102 : Nat) : Int) from rfl, k1 102 _ (by decide), k1 _ _ (by omega), k1 _ _ (by omega)]
      rfl
    have b10 : bin2Sem .add [.int .i64 ((i + 1 : Nat) : Int), .int .i64 1] = some (.int .i64 (((i + 1 : Nat) : Int) + 1)) := by
      have w : IntKind.i64.wrap (((i + 1 : Nat) : Int) + 1) = ((i + 1 : Nat) : Int) + 1 := wrap_i64 (by omega) (by omega)
      show some (DVal.int .i64 (IntKind.i64.wrap (((i + 1 : Nat) : Int) + 1))) = _
      rw [w]
    have b11 : ∀ a : Int, bin2Sem .neq [.int .i64 a, .int .i64 a] = some (.bool false) := fun a => by
      show some (DVal.bool (a != a)) = _
      simp
    have b12 := b11 0
    have b11 := b11 (((i + 1 : Nat) : Int) + 1)
    have b2a := b2 ((i + 1) % 26) (by omega)
    have b2b := b2 ((i + 1) / 26) (by omega)
    have b3a := b3 (97 + (i + 1) % 26) (by omega)
    have b3b := b3 (97 + (i + 1) / 26) (by omega)
    rw [show ((i + 1 + 1 : Nat) : Int) = ((i + 1 : Nat) : Int) + 1 from rfl]
    generalize nmF (i + 1) = NM at *
    generalize (((97 + (i + 1) % 26 : Nat) : Int)) = W1 at *
    generalize (((97 + (i + 1) / 26 : Nat) : Int)) = W2 at *
    generalize ((((i + 1) % 26 : Nat) : Int)) = W3 at *
    generalize ((((i + 1) / 26 : Nat) : Int)) = W4 at *
    generalize ((i + 1 : Nat) : Int) = W0 at *
    simp -implicitDefEqProofs [L3_0, B3_0, b0, b1, b2a, b2b, b3a, b3b, b5, b8, b9, b10, b11, b12, c1, -bin2Sem.eq_1, -convSem.eq_1, -POp.sem.eq_18]
theorem e3 {n : Nat} (hn : 1200001 ≤ n) (kind : Int) : cpJ PR n 3 [.int .i64 kind] = some (.bool true) := by
  obtain ⟨n, rfl⟩ : ∃ m, n = m + 1 := ⟨n - 1, by omega⟩
  have h10 := e10 (n := n) (by omega)
  obtain ⟨σ0, h0, t0, -⟩ := e9 (n := n) (by omega) emptySto 0
  rw [u3]
  by_cases h1 : kind < 1
  · simp -implicitDefEqProofs [D3, h0, h1, h10]
  by_cases h4 : 4 < kind
  · simp -implicitDefEqProofs [D3, h0, h1, h4, h10]
  obtain ⟨σ1, hl⟩ := l3 (n := n) (by omega) (kind := kind) (by omega) (by omega) (t := emptySto.nobj + 3) (.bool false) 255 0 n σ0 (newP emptySto) (by omega) (by omega) t0 rfl
  rw [show ((0 + 1 : Nat) : Int) = 1 from rfl] at hl
  simp -implicitDefEqProofs [D3, h0, h1, h4, hl]
end Go.Proofs.YtklepphkbbjbjaaDoor
namespace Go.Proofs.YtklepphkbbjbjaaDoor
set_option linter.unusedVariables false
set_option linter.unusedSimpArgs false
set_option maxRecDepth 20000
set_option maxHeartbeats 8000000
open Go
theorem v27 (n : Nat) (xs : List DVal) (σ : Sto) : ciJ PR (n + 1) 27 xs σ = copySem xs σ := by
  have e : PR 27 = some (.sprim copySem) := by kernel_rfl
  simp [ciJ, evJ, e]
def NoT (σ : Sto) (td : DVal) : Prop := td = .nilp ∨ ∃ a, td = .obj a 0 ∧ a < σ.nobj ∧ σ.obj a = .agg [.nilm, .nilm, .int .i64 0]
section
variable {σ : Sto} {td : DVal} (h : NoT σ td)
include h
theorem NoT.d30 (C : CallP) (I : CallI) (n : Nat) : D30 C I n td σ = some (.done (.bool false) σ) := by
  rcases h with rfl | ⟨a, rfl, ha, ho⟩
  · simp -implicitDefEqProofs [D30]
  · have l0 : ldOSem σ none [.obj a 0] = some (.nilm, σ) := by rw [ld_obj _ ho ha]; rfl
    simp -implicitDefEqProofs [D30, l0]
theorem NoT.okVal : td.okVal = true := by rcases h with rfl | ⟨a, rfl, -⟩ <;> rfl
theorem NoT.e30 {n : Nat} (hn : 1 ≤ n) : ciJ PR n 30 [td] σ = some (.bool false, σ) := by
  obtain ⟨n, rfl⟩ : ∃ m, n = m + 1 := ⟨n - 1, by omega⟩
  rw [v30, h.d30]
  rfl
theorem NoT.e31 {n : Nat} (hn : 2 ≤ n) (k : Int) : ciJ PR n 31 [td, .int .i64 k] σ = some (.tup [zeroN.d, .bool false], σ) := by
  obtain ⟨n, rfl⟩ : ∃ m, n = m + 1 := ⟨n - 1, by omega⟩
  have h1 := h.e30 (n := n) (by omega)
  have hok := h.okVal
  have b1 : POp.sem (cpJ PR n) [] (.build [(.int .i64 0), (.str []), (.int .i64 0), (.int .i64 0)] []) = some zeroN.d := rfl
  rw [v31]
  have h2 := NodeV_wr zeroN (.int .i64 0) (.str []) (.int .i64 0) (.int .i64 0)
  have h3 := NodeV_whole zeroN
  have h4 := NodeV_okVal zeroN
  generalize zeroN.d = ZD at *
  simp -implicitDefEqProofs [D31, h1, hok, b1, h2, h3, h4, -jwrSem.eq_1, -fldSem.eq_1, -POp.sem.eq_17]
theorem NoT.e18 {n : Nat} (hn : 3 ≤ n) (k : Int) : ciJ PR n 18 [td, .int .i64 k] σ = some (.tup [.int .i64 0, .bool false], σ) := by
  obtain ⟨n, rfl⟩ : ∃ m, n = m + 1 := ⟨n - 1, by omega⟩
  have h1 := h.e31 (n := n) (by omega) k
  have hok := h.okVal
  rw [v18]
  have h0 : zeroN.kind = 0 := rfl
  generalize zeroN = N at *
  simp -implicitDefEqProofs [D18, h1, hok, h0, -jwrSem.eq_1, -fldSem.eq_1]
theorem NoT.e28 {n : Nat} (hn : 3 ≤ n) (k : Int) : ciJ PR n 28 [td, .int .i64 k] σ = some (.tup [.int .i64 0, .bool false], σ) := by
  obtain ⟨n, rfl⟩ : ∃ m, n = m + 1 := ⟨n - 1, by omega⟩
  have h1 := h.e31 (n := n) (by omega) k
  have hok := h.okVal
  rw [v28]
  have h0 : zeroN.label = 0 := rfl
  generalize zeroN = N at *
  simp -implicitDefEqProofs [D28, h1, hok, h0, -jwrSem.eq_1, -fldSem.eq_1]
theorem NoT.e24 {n : Nat} (hn : 3 ≤ n) (k : Int) : ciJ PR n 24 [td, .int .i64 k] σ = some (.tup [.int .i64 0, .bool false], σ) := by
  obtain ⟨n, rfl⟩ : ∃ m, n = m + 1 := ⟨n - 1, by omega⟩
  have h1 := h.e31 (n := n) (by omega) k
  have hok := h.okVal
  rw [v24]
  have h0 : zeroN.up = 0 := rfl
  generalize zeroN = N at *
  simp -implicitDefEqProofs [D24, h1, hok, h0, -jwrSem.eq_1, -fldSem.eq_1]
theorem NoT.e25 {n : Nat} (hn : 3 ≤ n) (k : Int) : ciJ PR n 25 [td, .int .i64 k] σ = some (.tup [.str [], .bool false], σ) := by
  obtain ⟨n, rfl⟩ : ∃ m, n = m + 1 := ⟨n - 1, by omega⟩
  have h1 := h.e31 (n := n) (by omega) k
  have hok := h.okVal
  rw [v25]
  generalize zeroN = N at *
  simp -implicitDefEqProofs [D25, h1, hok, -jwrSem.eq_1, -fldSem.eq_1]
theorem NoT.e13 {n : Nat} (hn : 2 ≤ n) : ciJ PR n 13 [td] σ = some (.int .i64 0, σ) := by
  obtain ⟨n, rfl⟩ : ∃ m, n = m + 1 := ⟨n - 1, by omega⟩
  have h1 := h.e30 (n := n) (by omega)
  have hok := h.okVal
  rw [v13]
  simp -implicitDefEqProofs [D13, h1, hok]
theorem NoT.e11 {n : Nat} (hn : 2 ≤ n) (d : Int) (q : Bs) (k l : Int) : ciJ PR n 11 [td, .int .i64 d, .str q, .int .i64 k, .int .i64 l] σ = some (.tup [.int .i64 0, .int .i64 1], σ) := by
  obtain ⟨n, rfl⟩ : ∃ m, n = m + 1 := ⟨n - 1, by omega⟩
  have h1 := h.e30 (n := n) (by omega)
  have hok := h.okVal
  rw [v11]
  simp -implicitDefEqProofs [D11, h1, hok]
theorem NoT.e12 {n : Nat} (hn : 2 ≤ n) (d : Int) : ciJ PR n 12 [td, .int .i64 d] σ = some (.int .i64 1, σ) := by
  obtain ⟨n, rfl⟩ : ∃ m, n = m + 1 := ⟨n - 1, by omega⟩
  have h1 := h.e30 (n := n) (by omega)
  have hok := h.okVal
  rw [v12]
  simp -implicitDefEqProofs [D12, h1, hok]
theorem NoT.e29 {n : Nat} (hn : 2 ≤ n) (d l : Int) : ciJ PR n 29 [td, .int .i64 d, .int .i64 l] σ = some (.int .i64 1, σ) := by
  obtain ⟨n, rfl⟩ : ∃ m, n = m + 1 := ⟨n - 1, by omega⟩
  have h1 := h.e30 (n := n) (by omega)
  have hok := h.okVal
  rw [v29]
  simp -implicitDefEqProofs [D29, h1, hok]
theorem NoT.e16 {n : Nat} (hn : 2 ≤ n) (q : Bs) : ciJ PR n 16 [td, .str q] σ = some (.tup [.int .i64 0, .bool false], σ) := by
  obtain ⟨n, rfl⟩ : ∃ m, n = m + 1 := ⟨n - 1, by omega⟩
  have h1 := h.e30 (n := n) (by omega)
  have hok := h.okVal
  rw [v16]
  simp -implicitDefEqProofs [D16, h1, hok]
theorem NoT.e21 {n : Nat} (hn : 2 ≤ n) (k : Int) : ciJ PR n 21 [td, .int .i64 k] σ = some (.nils, σ) := by
  obtain ⟨n, rfl⟩ : ∃ m, n = m + 1 := ⟨n - 1, by omega⟩
  rw [v21]
  have hok := h.okVal
  have g : ∀ o, outR (D21 (cpJ PR n) (ciJ PR n) n td (.int .i64 k) { σ with ora := o }) = some (.nils, { σ with ora := o }) := fun o => by
    have ho : NoT { σ with ora := o } td := h
    have h1 := ho.e30 (n := n) (by omega)
    generalize ({ σ with ora := o } : Sto) = σ0 at *
    simp -implicitDefEqProofs [D21, h1, hok, outR]
  rw [rdet_eq (g fun _ => 0) fun o => ⟨_, g o, rfl, rfl, rfl, rfl, fun id => .inl rfl⟩]
theorem NoT.g30 : ciJ PR0 1000 30 [td] σ = some (.bool false, σ) := by
  rw [w30, h.d30]
  rfl
theorem NoT.e23 {n : Nat} (hn : 1 ≤ n) : ciJ PR n 23 [td] σ = some (.nils, σ) := by
  obtain ⟨n, rfl⟩ : ∃ m, n = m + 1 := ⟨n - 1, by omega⟩
  have hg := h.g30
  have hl : listB td σ = some (.nils, σ) := by unfold listB; rw [hg]; rfl
  rw [v23]
  rcases h with rfl | ⟨a, rfl, -⟩
  · exact hl
  · exact hl
theorem NoT.e27 {n : Nat} (hn : 1 ≤ n) : ciJ PR n 27 [td] σ = some (.nilp, σ) := by
  obtain ⟨n, rfl⟩ : ∃ m, n = m + 1 := ⟨n - 1, by omega⟩
  have hg := h.g30
  have hl : copyB td σ = some (.nilp, σ) := by unfold copyB; rw [hg]; rfl
  rw [v27]
  rcases h with rfl | ⟨a, rfl, -⟩
  · exact hl
  · exact hl
end
theorem l8 {n : Nat} (hn : 1200000 ≤ n) (x : StepV) {a : Nat} {sl : DVal} (hs : ∀ (i : Nat) (e : List DVal), ([[DVal.nilp], [.obj a 0]] : List (List DVal))[i]? = some e → idxSSem 1 [sl, .int .i64 (i : Int)] = some (.elem e 0)) (u : DVal) : ∀ (r i m : Nat) (σ : Sto), i + r = 2 → r < m →
    NoT σ .nilp → NoT σ (.obj a 0) → iterJ 0 (L8_0 (cpJ PR n) (ciJ PR n) n x.d sl (.int .i64 2)) m [.int .i64 i, u] σ = some (.done (.bool true) σ) := by
  intro r
  have h10 := e10 (n := n) (by omega)
  induction r with
  | zero =>
    intro i m σ hi hm h1 h2
    obtain ⟨m, rfl⟩ : ∃ q, m = q + 1 := ⟨m - 1, by omega⟩
    obtain rfl : i = 2 := by omega
    refine iterJ_done ?_
    simp -implicitDefEqProofs [L8_0, B8_0, h10]
  | succ r ih =>
    intro i m σ hi hm h1 h2
    obtain ⟨m, rfl⟩ : ∃ q, m = q + 1 := ⟨m - 1, by omega⟩
    have hi' : ((i : Int) < 2) := by omega
    have hw := wrap_succ (i := i) (by omega)
    simp only [Int.natCast_add, Int.natCast_one] at hw
    obtain ⟨td, hix, ht⟩ : ∃ td, idxSSem 1 [sl, .int .i64 (i : Int)] = some (.elem [td] 0) ∧ NoT σ td := by
      obtain rfl | rfl : i = 0 ∨ i = 1 := by omega
      · exact ⟨.nilp, hs 0 _ rfl, h1⟩
      · exact ⟨.obj a 0, hs 1 _ rfl, h2⟩
    rw [← ih (i + 1) m σ (by omega) (by omega) h1 h2]
    refine iterJ_next' ?_
    have c1 := ht.e11 (n := n) (by omega) x.dir x.name x.what x.label
    have c2 := ht.e16 (n := n) (by omega) x.name
    have c3 := ht.e25 (n := n) (by omega) x.num
    have c4 := ht.e18 (n := n) (by omega) x.num
    have c5 := ht.e28 (n := n) (by omega) x.num
    have c6 := ht.e24 (n := n) (by omega) x.num
    have c7 := ht.e12 (n := n) (by omega) x.num
    have c8 := ht.e29 (n := n) (by omega) x.num 1
    have c9 := ht.e21 (n := n) (by omega) x.num
    have c10 := ht.e23 (n := n) (by omega)
    have c11 := ht.e13 (n := n) (by omega)
    have c12 := ht.e27 (n := n) (by omega)
    have hok := ht.okVal
    have hld : ldESem none [.elem [td] 0] = some td := rfl
    simp only [Int.natCast_add, Int.natCast_one]
    simp -implicitDefEqProofs [L8_0, B8_0, hi', hix, hld, c1, c2, c3, c4, c5, c6, c7, c8, c9, c10, c11, c12, hok, hw, -jwrSem.eq_1, -fldSem.eq_1, -ldESem.eq_1]
theorem e8 {n : Nat} (hn : 1200001 ≤ n) (x : StepV) : cpJ PR n 8 [x.d] = some (.bool true) := by
  obtain ⟨n, rfl⟩ : ∃ m, n = m + 1 := ⟨n - 1, by omega⟩
  obtain ⟨τ, e1⟩ : ∃ τ, τ = emptySto.new (.agg [.nilm, .nilm, .int .i64 0]) := ⟨_, rfl⟩
  have b1 : POp.sem (cpJ PR n) [] (.build [.nilm, .nilm, (.int .i64 0)] []) = some (.agg [.nilm, .nilm, .int .i64 0]) := rfl
  have b2 : boxOSem emptySto [.agg [.nilm, .nilm, .int .i64 0]] = some (.obj emptySto.nobj 0, τ) := by rw [e1]; rfl
  have b3 : POp.sem (cpJ PR n) [.nilp, .obj emptySto.nobj 0] (.bslice true 1) = some (.slice true 1 1 [[.nilp], [.obj emptySto.nobj 0]]) := rfl
  have h1 : NoT τ .nilp := .inl rfl
  have h2 : NoT τ (.obj emptySto.nobj 0) := .inr ⟨_, rfl, by rw [e1]; exact Nat.lt_succ_self _, by rw [e1]; simp⟩
  have hl := l8 (n := n) (by omega) x (a := emptySto.nobj) (sl := .slice true 1 1 [[.nilp], [.obj emptySto.nobj 0]]) (fun i e he => by
    have : (0 : Int) ≤ (i : Int) := by omega
    simp only [idxSSem, this, and_self, if_true, Int.toNat_natCast, he, Option.map_some]) (.bool false) 2 0 n τ (by omega) (by omega) h1 h2
  simp only [Int.natCast_zero] at hl
  have hls : lenSlSem [.slice true 1 1 [[.nilp], [.obj emptySto.nobj 0]]] = some (.int .i64 2) := rfl
  rw [u8]
  generalize DVal.slice true 1 1 [[.nilp], [.obj emptySto.nobj 0]] = SL at *
  generalize DVal.obj emptySto.nobj 0 = OB at *
  generalize DVal.agg [.nilm, .nilm, .int .i64 0] = AG at *
  simp -implicitDefEqProofs [D8, b1, b2, b3, hls, hl, -POp.sem.eq_17, -POp.sem.eq_18]
end Go.Proofs.YtklepphkbbjbjaaDoor
