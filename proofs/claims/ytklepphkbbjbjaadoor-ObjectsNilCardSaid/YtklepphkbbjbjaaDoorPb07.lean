/- Texts of this proof, part 7: see the card for what is proved. -/
import Derived.Test.YtklepphkbbjbjaaDoorPb03
import Derived.Test.YtklepphkbbjbjaaDoorChecked
import Derived.KernelRfl
import Derived.RangeFuncNested
import Derived.RangeFuncBound
import Derived.RangeFuncCalls
import Derived.RangeFuncLeaves
import Derived.Shelf.Abstract
import Derived.WalkKit
import Derived.OwnWalkIn
import Derived.TacticsInMore
import Derived.LoopNIn
import Derived.LoopIn
import Derived.Maps.AppendAt
import Derived.Test.YtklepphkbbjbjaaDoorPb01
import Derived.Test.YtklepphkbbjbjaaDoorPb05
import Derived.Test.YtklepphkbbjbjaaDoorPb04
namespace Go.Proofs.YtklepphkbbjbjaaDoor
set_option linter.unusedVariables false
set_option maxRecDepth 100000
open Go
def fns : List (Nat × Nat) := [(9, 2), (11, 2), (12, 2), (13, 2), (15, 2), (16, 2), (18, 2), (21, 2), (24, 2), (25, 2), (26, 2), (28, 2), (29, 2), (30, 2), (31, 2), (33, 2), (23, 2), (27, 2), (40, 2), (45, 2), (46, 2)]
def pts : List Nat := []
theorem K3 : KnowsJ Tryd.prog 3 1 T3 := ⟨Tryd.f3, hintJ H3 fns pts, Tryd.func3, by kernel_rfl, by kernel_rfl⟩
theorem K4 : KnowsJ Tryd.prog 4 3 T4 := ⟨Tryd.f4, hintJ H4 fns pts, Tryd.func4, by kernel_rfl, by kernel_rfl⟩
theorem K5 : KnowsJ Tryd.prog 5 1 T5 := ⟨Tryd.f5, hintJ H5 fns pts, Tryd.func5, by kernel_rfl, by kernel_rfl⟩
theorem K6 : KnowsJ Tryd.prog 6 2 T6 := ⟨Tryd.f6, hintJ H6 fns pts, Tryd.func6, by kernel_rfl, by kernel_rfl⟩
theorem K8 : KnowsJ Tryd.prog 8 1 T8 := ⟨Tryd.f8, hintJ H8 fns pts, Tryd.func8, by kernel_rfl, by kernel_rfl⟩
theorem K9 : KnowsJ Tryd.prog 9 1 T9 := ⟨Tryd.f9, hintJ H9 fns pts, Tryd.func9, by kernel_rfl, by kernel_rfl⟩
theorem K10 : KnowsJ Tryd.prog 10 0 T10 := ⟨Tryd.f10, hintJ H10 fns pts, Tryd.func10, by kernel_rfl, by kernel_rfl⟩
theorem K11 : KnowsJ Tryd.prog 11 5 T11 := ⟨Tryd.f11, hintJ H11 fns pts, Tryd.func11, by kernel_rfl, by kernel_rfl⟩
theorem K12 : KnowsJ Tryd.prog 12 2 T12 := ⟨Tryd.f12, hintJ H12 fns pts, Tryd.func12, by kernel_rfl, by kernel_rfl⟩
theorem K13 : KnowsJ Tryd.prog 13 1 T13 := ⟨Tryd.f13, hintJ H13 fns pts, Tryd.func13, by kernel_rfl, by kernel_rfl⟩
theorem K14 : KnowsJ Tryd.prog 14 1 T14 := ⟨Tryd.f14, hintJ H14 fns pts, Tryd.func14, by kernel_rfl, by kernel_rfl⟩
theorem K15 : KnowsJ Tryd.prog 15 3 T15 := ⟨Tryd.f15, hintJ H15 fns pts, Tryd.func15, by kernel_rfl, by kernel_rfl⟩
theorem K16 : KnowsJ Tryd.prog 16 2 T16 := ⟨Tryd.f16, hintJ H16 fns pts, Tryd.func16, by kernel_rfl, by kernel_rfl⟩
theorem K17 : KnowsJ Tryd.prog 17 2 T17 := ⟨Tryd.f17, hintJ H17 fns pts, Tryd.func17, by kernel_rfl, by kernel_rfl⟩
theorem K18 : KnowsJ Tryd.prog 18 2 T18 := ⟨Tryd.f18, hintJ H18 fns pts, Tryd.func18, by kernel_rfl, by kernel_rfl⟩
theorem K19 : KnowsJ Tryd.prog 19 2 T19 := ⟨Tryd.f19, hintJ H19 fns pts, Tryd.func19, by kernel_rfl, by kernel_rfl⟩
theorem K20 : KnowsJ Tryd.prog 20 2 T20 := ⟨Tryd.f20, hintJ H20 fns pts, Tryd.func20, by kernel_rfl, by kernel_rfl⟩
theorem K21 : KnowsR Tryd.prog 21 2 T21 := ⟨Tryd.f21, hintR H21 fns pts, Tryd.func21, by kernel_rfl, by kernel_rfl⟩
theorem K22 : KnowsJ Tryd.prog 22 2 T22 := ⟨Tryd.f22, hintJ H22 fns pts, Tryd.func22, by kernel_rfl, by kernel_rfl⟩
theorem K24 : KnowsJ Tryd.prog 24 2 T24 := ⟨Tryd.f24, hintJ H24 fns pts, Tryd.func24, by kernel_rfl, by kernel_rfl⟩
theorem K25 : KnowsJ Tryd.prog 25 2 T25 := ⟨Tryd.f25, hintJ H25 fns pts, Tryd.func25, by kernel_rfl, by kernel_rfl⟩
theorem K26 : KnowsJ Tryd.prog 26 2 T26 := ⟨Tryd.f26, hintJ H26 fns pts, Tryd.func26, by kernel_rfl, by kernel_rfl⟩
theorem K28 : KnowsJ Tryd.prog 28 2 T28 := ⟨Tryd.f28, hintJ H28 fns pts, Tryd.func28, by kernel_rfl, by kernel_rfl⟩
theorem K29 : KnowsJ Tryd.prog 29 3 T29 := ⟨Tryd.f29, hintJ H29 fns pts, Tryd.func29, by kernel_rfl, by kernel_rfl⟩
theorem K30 : KnowsJ Tryd.prog 30 1 T30 := ⟨Tryd.f30, hintJ H30 fns pts, Tryd.func30, by kernel_rfl, by kernel_rfl⟩
theorem K31 : KnowsJ Tryd.prog 31 2 T31 := ⟨Tryd.f31, hintJ H31 fns pts, Tryd.func31, by kernel_rfl, by kernel_rfl⟩
theorem K32 : KnowsJ Tryd.prog 32 1 T32 := ⟨Tryd.f32, hintJ H32 fns pts, Tryd.func32, by kernel_rfl, by kernel_rfl⟩
theorem K33 : KnowsJ Tryd.prog 33 2 T33 := ⟨Tryd.f33, hintJ H33 fns pts, Tryd.func33, by kernel_rfl, by kernel_rfl⟩
theorem K34 : KnowsJ Tryd.prog 34 5 T34 := ⟨Tryd.f34, hintJ H34 fns pts, Tryd.func34, by kernel_rfl, by kernel_rfl⟩
theorem K35 : KnowsJ Tryd.prog 35 2 T35 := ⟨Tryd.f35, hintJ H35 fns pts, Tryd.func35, by kernel_rfl, by kernel_rfl⟩
theorem K36 : KnowsJ Tryd.prog 36 3 T36 := ⟨Tryd.f36, hintJ H36 fns pts, Tryd.func36, by kernel_rfl, by kernel_rfl⟩
theorem K37 : KnowsJ Tryd.prog 37 2 T37 := ⟨Tryd.f37, hintJ H37 fns pts, Tryd.func37, by kernel_rfl, by kernel_rfl⟩
theorem K38 : KnowsJ Tryd.prog 38 2 T38 := ⟨Tryd.f38, hintJ H38 fns pts, Tryd.func38, by kernel_rfl, by kernel_rfl⟩
theorem K39 : KnowsJ Tryd.prog 39 2 T39 := ⟨Tryd.f39, hintJ H39 fns pts, Tryd.func39, by kernel_rfl, by kernel_rfl⟩
theorem K42 : KnowsJ Tryd.prog 42 1 T42 := ⟨Tryd.f42, hintJ H42 fns pts, Tryd.func42, by kernel_rfl, by kernel_rfl⟩
theorem K43 : KnowsJ Tryd.prog 43 2 T43 := ⟨Tryd.f43, hintJ H43 fns pts, Tryd.func43, by kernel_rfl, by kernel_rfl⟩
theorem K44 : KnowsJ Tryd.prog 44 2 T44 := ⟨Tryd.f44, hintJ H44 fns pts, Tryd.func44, by kernel_rfl, by kernel_rfl⟩
theorem K47 : KnowsJ Tryd.prog 47 2 T47 := ⟨Tryd.f47, hintJ H47 fns pts, Tryd.func47, by kernel_rfl, by kernel_rfl⟩
theorem K48 : KnowsJ Tryd.prog 48 1 T48 := ⟨Tryd.f48, hintJ H48 fns pts, Tryd.func48, by kernel_rfl, by kernel_rfl⟩
theorem K49 : KnowsJ Tryd.prog 49 1 T49 := ⟨Tryd.f49, hintJ H49 fns pts, Tryd.func49, by kernel_rfl, by kernel_rfl⟩
theorem K50 : KnowsJ Tryd.prog 50 3 T50 := ⟨Tryd.f50, hintJ H50 fns pts, Tryd.func50, by kernel_rfl, by kernel_rfl⟩
theorem K56 : KnowsJ Tryd.prog 56 2 T56 := ⟨Tryd.f56, hintJ H56 fns pts, Tryd.func56, by kernel_rfl, by kernel_rfl⟩
theorem K59 : KnowsJ Tryd.prog 59 1 T59 := ⟨Tryd.f59, hintJ H59 fns pts, Tryd.func59, by kernel_rfl, by kernel_rfl⟩
theorem K60 : KnowsJ Tryd.prog 60 2 T60 := ⟨Tryd.f60, hintJ H60 fns pts, Tryd.func60, by kernel_rfl, by kernel_rfl⟩
theorem K76 : KnowsJ Tryd.prog 76 1 T76 := ⟨Tryd.f76, hintJ H76 fns pts, Tryd.func76, by kernel_rfl, by kernel_rfl⟩
theorem K77 : KnowsJ Tryd.prog 77 1 T77 := ⟨Tryd.f77, hintJ H77 fns pts, Tryd.func77, by kernel_rfl, by kernel_rfl⟩
theorem K88 : KnowsJ Tryd.prog 88 2 T88 := ⟨Tryd.f88, hintJ H88 fns pts, Tryd.func88, by kernel_rfl, by kernel_rfl⟩
theorem K95 : KnowsJ Tryd.prog 95 2 T95 := ⟨Tryd.f95, hintJ H95 fns pts, Tryd.func95, by kernel_rfl, by kernel_rfl⟩
theorem K98 : KnowsJ Tryd.prog 98 2 T98 := ⟨Tryd.f98, hintJ H98 fns pts, Tryd.func98, by kernel_rfl, by kernel_rfl⟩
end Go.Proofs.YtklepphkbbjbjaaDoor
namespace Go.Proofs.YtklepphkbbjbjaaDoor
set_option linter.unusedVariables false
set_option linter.unusedSimpArgs false
open Go Go.RowKit Go.Shelf
attribute [local go_sem] Oper.semAt_some
theorem rowsS_at {g : Int → Sto → Option (List Int × Sto)} : ∀ {es : List (List DVal)} {σ : Sto} {z : List Int × Sto}, rowsS g es σ = some z → ∀ e ∈ es, ∃ k, e = [.int .i64 k]
  | [], _, _, _, e, he => by cases he
  | x :: es, σ, z, h, e, he => by
    unfold rowsS at h
    split at h
    · rename_i q; cases q
    · rename_i k es' q
      simp only [List.cons.injEq] at q
      obtain ⟨rfl, rfl⟩ := q
      simp only [Option.bind_eq_some_iff, Option.map_eq_some_iff] at h
      obtain ⟨a, -, b, hb, -⟩ := h
      rcases List.mem_cons.1 he with rfl | he
      · exact ⟨k, rfl⟩
      · exact rowsS_at hb e he
    · cases h
theorem rowsS_cons {g : Int → Sto → Option (List Int × Sto)} {k : Int} {es : List (List DVal)} {σ : Sto} {z : List Int × Sto} (h : rowsS g ([.int .i64 k] :: es) σ = some z) : ∃ a b, g k σ = some a ∧ rowsS g es a.2 = some b ∧ z = (a.1 ++ b.1, b.2) := by
  unfold rowsS at h
  simp only [Option.bind_eq_some_iff, Option.map_eq_some_iff] at h
  obtain ⟨a, h1, b, h2, rfl⟩ := h
  exact ⟨a, b, h1, h2, rfl⟩
theorem rows_cell {V : Vw} {w : World} {m b : Nat} : ∀ {es : List (List DVal)} {off i : Nat} {k : Int}, RowsRel V w m b 1 off es → es[i]? = some [.int .i64 k] → w.cell? ⟨b, off + i, none⟩ = some (.int .i64 k)
  | [], _, _, _, _, h => by simp at h
  | e :: es, off, i, k, hr, h => by
    simp only [RowsRel] at hr
    obtain ⟨h1, h2, h3⟩ := hr
    cases i with
    | zero =>
      simp only [List.getElem?_cons_zero, Option.some.injEq] at h
      subst h
      simp only [RowRel, VRel] at h2
      obtain ⟨-, ⟨v, hv, -, rfl⟩, -⟩ := h2
      exact hv
    | succ i =>
      have := rows_cell h3 (i := i) (k := k) (by simpa using h)
      rwa [show off + 1 + i = off + (i + 1) by omega] at this
section
variable {Gl : List (Nat × Nat × Option Value)}
theorem HasG.stp {V V' : Vw} {w w' : World} (h : HasG Gl V.imm w) (hs : Stp V w V' w') : HasG Gl V'.imm w' := h.ext hs.ei
set_option maxRecDepth 100000 in
set_option maxHeartbeats 4000000 in
theorem walkOver (hcs : ImpOk Tryd.prog Gl 21 (ciJ PR0 1000 21)) (l N : Nat) (J : Vw → List Int → World → Prop)
    (hJ : ∀ V pre W V' W', J V pre W → Adv V W V' W' → J V' pre W')
    (hY : ∀ m V σ pre x W, J V pre W → Inv V noRoots σ W → HasG Gl V.imm W → pre.length < N → YieldAt Fence.wide m Tryd.prog l #[.int .i64 x] W fun e W' =>
      e = .returned (.bool true) ∧ ∃ V', Stp V W V' W' ∧ Inv V' noRoots σ W' ∧ J V' (pre ++ [x]) W') (td : DVal) :
    ∀ (n : Nat) (d : Int) (σ : Sto) (z : List Int × Sto) (m : Nat) (tv : Value) (V : Vw) (W : World) (pre : List Int), walkS td n d σ = some z → Inv V noRoots σ W → HasG Gl V.imm W → VRel V W 1 td tv → J V pre W → pre.length + z.1.length ≤ N →
      CallsIn Fence.wide m Tryd.prog 55 #[tv, .int .i64 d, .func (.yield l) #[] #[]] W fun e W' =>
        e = .returned (.bool true) ∧ ∃ V', Stp V W V' W' ∧ Inv V' noRoots z.2 W' ∧ J V' (pre ++ z.1) W' := by
  intro n
  induction n with
  | zero => intro d σ z m tv V W pre h; simp [walkS] at h
  | succ n ih =>
    intro d σ z m tv V W pre h hi hG ht hj hN
    have hdd : ∀ k : Nat, (Fence.wide.depth.isSome = true → 1 ≤ k) := fun k h => by simp [Fence.wide] at h
    simp only [walkS, Option.bind_eq_some_iff] at h
    obtain ⟨y, hy, hz⟩ := h
    have hzl : 1 ≤ z.1.length := by
      split at hz
      · simp only [Option.some.injEq] at hz; subst hz; simp
      · split at hz
        · simp only [Option.map_eq_some_iff] at hz
          obtain ⟨q, -, rfl⟩ := hz
          simp
        · cases hz
      · cases hz
    -- the round at this node, and behind it the call of Children
    have hr1 : YieldAt Fence.wide (m - 1) Tryd.prog l #[.int .i64 d] W fun e W1 => e = .returned (.bool true) ∧ ∃ V1, Stp V W V1 W1 ∧ Inv V1 noRoots σ W1 ∧ J V1 (pre ++ [d]) W1 :=
      hY (m - 1) V σ pre d W hj hi hG (by omega)
    have hch : ∀ V1 W1, Stp V W V1 W1 → Inv V1 noRoots σ W1 → J V1 (pre ++ [d]) W1 → CallsIn Fence.wide (m - 1) Tryd.prog 21 #[tv, .int .i64 d] W1 fun e W2 =>
        ∃ V2 es zr, Stp V W V2 W2 ∧ Inv V2 noRoots y.2 W2 ∧ J V2 (pre ++ [d]) W2 ∧ es.length ≤ 1000000 ∧ rowsS (walkS td n) es y.2 = some zr ∧ z = (d :: zr.1, zr.2) ∧
          ((e = .returned (.slice none 0 0) ∧ es = []) ∨ ∃ b off cap, e = .returned (.slice (some ⟨b, off, none⟩) es.length cap) ∧ RowsRel V2 W2 2 b 1 off es) := fun V1 W1 hs1 hi1 hj1 => by
      refine callsIn_wide.2 ((hcs V1 σ y.2 W1 [td, .int .i64 d] [tv, .int .i64 d] y.1 hi1 (hG.stp hs1) ?_ hy).2.mono ?_)
      · simp only [VRels]
        exact ⟨_, _, rfl, VRel.ext hs1.ei td 1 tv (fun _ => hs1.er) (fun e => by omega) ht, _, _, rfl, by simp only [VRel], rfl⟩
      · rintro e W2 ⟨v, V2, rfl, ha, hi2, hv⟩
        refine ⟨V2, ?_⟩
        split at hz
        · rename_i hy1
          rw [hy1] at hv
          simp only [VRel] at hv
          simp only [Option.some.injEq] at hz
          exact ⟨[], ([], y.2), hs1.trans ha.stp, hi2, hJ _ _ _ _ _ hj1 ha, by simp, rfl, hz.symm, .inl ⟨by rw [hv], rfl⟩⟩
        · rename_i own es hy1
          rw [hy1] at hv
          simp only [VRel] at hv
          obtain ⟨-, b, off, cap, rfl, -, -, hrows⟩ := hv
          split at hz
          · rename_i hlen
            simp only [Option.map_eq_some_iff] at hz
            obtain ⟨zr, hzr, hz⟩ := hz
            exact ⟨es, zr, hs1.trans ha.stp, hi2, hJ _ _ _ _ _ hj1 ha, hlen, hzr, hz.symm, .inr ⟨b, off, cap, rfl, hrows⟩⟩
          · cases hz
        · cases hz
    obtain ⟨fn, tmps, assign, body, hyy, hR⟩ := hr1
    refine callsIn_of_wp Tryd.func55 rfl trivial ?_ rfl
    simp only [Tryd.ntmps55, List.size_toArray, List.length_cons, List.length_nil, Nat.reduceAdd, Nat.reduceSub, Array.replicate_succ, Array.replicate_zero, List.push_toArray, List.append_toArray, List.nil_append, List.cons_append]
    gi_wp2_with (first
      | ((try refine ⟨hdd _, ?_⟩); refine hR.mono ?_; clear hR; rintro e W1 ⟨rfl, V1, hs1, hi1, hj1⟩; have hch1 := hch V1 W1 hs1 hi1 hj1; clear hch)
      | (refine ⟨trivial, hdd _, ?_⟩; refine hch1.mono ?_; clear hch1; rintro e W2 ⟨V2, es, zr, hs2, hi2, hj2, hlen, hzr, hze, (⟨rfl, hes⟩ | ⟨b, off, cap, rfl, hrows⟩)⟩))
    · subst hes
      simp only [rowsS, Option.some.injEq] at hzr
      subst hzr
      subst hze
      gi_loopw [17] (fun i wr => i = .int .i64 0 ∧ wr = W2) (fun _ _ => 0)
      case atStart => exact ⟨rfl, rfl⟩
      case round =>
        obtain ⟨rfl, rfl⟩ := hrel
        gi_wp2
        go_ret
        exact ⟨rfl, V2, hs2, hi2, hj2⟩
    · subst hze
      simp only [List.length_cons] at hN
      gi_loopw [17] (fun i wr => ∃ (k : Nat) (V3 : Vw) (σ3 : Sto) (zs : List Int) (zq : List Int × Sto), i = .int .i64 k ∧ k ≤ es.length ∧ Stp V2 W2 V3 wr ∧ Inv V3 noRoots σ3 wr ∧ J V3 (pre ++ d :: zs) wr ∧
          rowsS (walkS td n) (es.drop k) σ3 = some zq ∧ zs ++ zq.1 = zr.1 ∧ zq.2 = zr.2) (fun i _ => es.length - (intOf i).toNat)
      case atStart => exact ⟨0, V2, y.2, [], zr, rfl, Nat.zero_le _, .refl _ _, hi2, hj2, by simpa using hzr, rfl, rfl⟩
      case round =>
        obtain ⟨k, V3, σ3, zs, zq, rfl, hk, hs3, hi3, hj3, hzq, hz1, hz2⟩ := hrel
        by_cases hlt : k < es.length
        · rw [List.drop_eq_getElem_cons hlt] at hzq
          obtain ⟨c, hc⟩ := rowsS_at hzr es[k] (List.getElem_mem hlt)
          rw [hc] at hzq
          obtain ⟨a, b', ha, hb', rfl⟩ := rowsS_cons hzq
          have hcell : wr.cell? ⟨b, off + k, none⟩ = some (.int .i64 c) := by
            have hr3 := RowsRel.ext hs3.ei es 2 b 1 off (fun e => by omega) (fun e => by omega) hrows
            exact rows_cell hr3 (by rw [List.getElem?_eq_getElem hlt, hc])
          have hzl2 : zs.length + (a.1.length + b'.1.length) = zr.1.length := by rw [← hz1]; simp
          have hcall := ih c σ3 a (m - 1) tv V3 wr (pre ++ d :: zs) ha hi3 ((hG.stp hs2).stp hs3) (VRel.ext (hs2.trans hs3).ei td 1 tv (fun _ => (hs2.trans hs3).er) (fun e => by omega) ht) hj3 (by simp; omega)
          gi_wp2_with (refine ⟨trivial, hdd _, ?_⟩; refine hcall.mono ?_; clear hcall; rintro e W4 ⟨rfl, V4, hs4, hi4, hj4⟩)
          go_roundw
          case rel => exact ⟨k + 1, V4, a.2, zs ++ a.1, b', by simp, by omega, hs3.trans hs4, hi4, by simpa using hj4, hb', by rw [← hz1]; simp, hz2⟩
          case measure => simp [intOf]; omega
        · obtain rfl : k = es.length := by omega
          rw [List.drop_length] at hzq
          simp only [rowsS, Option.some.injEq] at hzq
          subst hzq
          gi_wp2
          go_ret
          simp only [List.append_nil] at hz1
          exact ⟨rfl, V3, hs2.trans hs3, hz2 ▸ hi3, hz1 ▸ hj3⟩
end
end Go.Proofs.YtklepphkbbjbjaaDoor
namespace Go.Proofs.YtklepphkbbjbjaaDoor
set_option linter.unusedVariables false
set_option linter.unusedSimpArgs false
open Go Go.RowKit Go.Shelf
attribute [local go_sem] Oper.semAt_some
theorem old_alloc (w : World) (o : Obj) (i : Nat) (h : i < w.heap.size) : (w.alloc o).heap[i]? = w.heap[i]? := by
  show (w.heap.push o)[i]? = _
  rw [Array.getElem?_push, if_neg (by omega)]
section
variable {P : Program}
theorem run_append_one (w : World) (base : Nat) (t ty e : TypeId) (i : TypeInfo) (z : Value) (bytes : Nat) (ht : P.underlying t = some (.slice e)) (hi : P.info? e = some i) (hz : i.zero = some z)
    (hsize : i.size = 1) (hby : i.bytes = bytes) (hzs : z.cells.size = 1) (v : Value) (n : Nat) (xs : List Value) (hown : w.ownsRow base e 1 v n xs)
    (a : Addr) (c : Nat) (u : Value) (hnews : w.cell? a = some u) (h1 : u.oneCell' = true) (h63 : n + 1 ≤ maxLen) (hbytes : (n + 1) * bytes ≤ 140737488355328) (hbase : base ≤ w.heap.size) :
    ∃ v' w', (Builtin.append_ #[t, t] ty #[v, .slice (some a) 1 c]).run P w = .ok v' w' ∧ w'.ownsRow base e 1 v' (n + 1) (xs ++ [u]) ∧ w.grownBy w' v.ownBlock ∧
      (∀ p, v.ownBlock = some p → ∀ c el, w.heap[p]? = some (.cells c el (0, 0)) → ∃ c', w'.heap[p]? = some (.cells c' el (0, 0)) ∧ c'.size = c.size) ∧ (v'.ownBlock = v.ownBlock ∨ v'.ownBlock = some w.heap.size) := by
  have hn : ∀ (j : Nat) (u' : Value), [u][j]? = some u' → w.cell? (a.add j) = some u' := fun j u' h => by
    cases j with
    | zero => simp only [List.getElem?_cons_zero, Option.some.injEq] at h; subst h; rw [show a.add 0 = a by unfold Addr.add; split <;> simp_all]; exact hnews
    | succ j => simp at h
  obtain ⟨v', w', hr, h2, h3, -⟩ := run_append_own (P := P) w base t ty e i z 1 bytes ht hi hz hsize hby hzs (by decide) v n xs hown a 1 c [u] (by simp) hn (by simpa using h1) h63 hbytes hbase
  refine ⟨v', w', hr, h2, h3, ?_⟩
  rcases hown.2 with ⟨rfl, rfl⟩ | ⟨g, cap, cur, rfl, hbg, hg, hnc, hcm, hcs, htake⟩
  · refine ⟨fun p hp => by simp [Value.ownBlock] at hp, .inr ?_⟩
    have hr2 := run_append_nil (P := P) w t ty e i z ht hi hz a 1 c [u] (by simp [hsize]) hn (by omega) (by simp only [maxLen] at h63; omega) (by have hb := hbytes; rw [hby]; omega)
    rw [hr] at hr2
    simp only [Result.ok.injEq] at hr2
    rw [hr2.1]
    rfl
  · by_cases hroom : n + 1 ≤ cap
    · have hr2 := run_append_room (P := P) w t ty e i ht hi g n cap cur hg a 1 c [u] (by simp [hsize]) hn (by simpa using h1) hroom (by simp [hsize]; omega)
      rw [hr] at hr2
      simp only [Result.ok.injEq] at hr2
      obtain ⟨rfl, rfl⟩ := hr2
      refine ⟨fun p hp c' el hc' => ?_, .inl rfl⟩
      simp only [Value.ownBlock, Option.some.injEq] at hp
      subst hp
      rw [hg] at hc'
      simp only [Option.some.injEq, Obj.cells.injEq, and_true] at hc'
      obtain ⟨rfl, rfl⟩ := hc'
      refine ⟨_, setRow_heap w g cur _ e _ hg, ?_⟩
      simp only [List.size_toArray, List.length_append, List.length_take, List.length_drop, Array.length_toList, List.length_cons, List.length_nil, hsize]
      omega
    · have holds : ∀ j u, xs[j]? = some u → w.cell? ((⟨g, 0, none⟩ : Addr).add j) = some u := hown.cells (g := g) rfl
      have hr2 := run_append_grow (P := P) w t ty e i z ht hi hz ⟨g, 0, none⟩ n cap xs (by rw [hown.1, hsize]) holds a 1 c [u] (by simp [hsize]) hn (by omega) (by simp only [maxLen] at h63; omega) (growslice_fits (by omega) (by rw [hby]; exact hbytes))
      rw [hr] at hr2
      simp only [Result.ok.injEq] at hr2
      obtain ⟨rfl, rfl⟩ := hr2
      refine ⟨fun p hp c' el hc' => ?_, .inr rfl⟩
      simp only [Value.ownBlock, Option.some.injEq] at hp
      subst hp
      exact ⟨c', by rw [old_alloc _ _ _ (by simpa using (Array.getElem?_eq_some_iff.1 hc').1)]; exact hc', rfl⟩
theorem wpListIn_append_one {F : Fence} {nF : Nat} (w : World) {ops : Array Oper} {rest : List Oper} {o : Oper} {a : Act} {Q : Exit → Act → World → Prop}
    (hgd : o.guard = none) (s x : Operand) (t : TypeId) (ho : o.op = .call { callee := .builtin .append, args := #[s, x], argTypes := #[t, t] })
    (base : Nat) (e : TypeId) (i : TypeInfo) (z : Value) (bytes : Nat) (ht : P.underlying t = some (.slice e)) (hi : P.info? e = some i) (hz : i.zero = some z)
    (hsize : i.size = 1) (hby : i.bytes = bytes) (hzs : z.cells.size = 1) (v : Value) (n : Nat) (xs : List Value) (hs : a.eval s = v) (hown : w.ownsRow base e 1 v n xs)
    (ad : Addr) (c : Nat) (u : Value) (hx : a.eval x = .slice (some ad) 1 c) (hnews : w.cell? ad = some u) (h1 : u.oneCell' = true) (h63 : n + 1 ≤ maxLen) (hbytes : (n + 1) * bytes ≤ 140737488355328) (hbase : base ≤ w.heap.size)
    (h : ∀ v' w', w'.ownsRow base e 1 v' (n + 1) (xs ++ [u]) → w.grownBy w' v.ownBlock →
      (∀ p, v.ownBlock = some p → ∀ c el, w.heap[p]? = some (.cells c el (0, 0)) → ∃ c', w'.heap[p]? = some (.cells c' el (0, 0)) ∧ c'.size = c.size) → (v'.ownBlock = v.ownBlock ∨ v'.ownBlock = some w.heap.size) → wpListIn F nF P ops Q rest (a.put o.dst v') w') :
    wpListIn F nF P ops Q (o :: rest) a w := by
  refine wpListIn_plain hgd fun K hK => ?_
  obtain ⟨v', w', hr, h2, h3, h4, h5⟩ := run_append_one (P := P) w base t o.type e i z bytes ht hi hz hsize hby hzs v n xs hown ad c u hnews h1 h63 hbytes hbase
  unfold Oper.wpIn
  refine ⟨by simp [Oper.about, ho, resolve, Target.leads, Sem.run_pure], ?_⟩
  rw [Oper.semAt_plain F _ _ (by rw [ho]; intro c hc'; cases hc')]
  simp [execOp, ho, resolve, invoke, builtin, hs, hx, hr, Result.andThen]
  exact hK _ _ (h v' w' h2 h3 h4 h5)
end
section
variable {F : Fence} {n : Nat} {P : Program} {fn : FuncId} {tmps : Array Value} {ps : Array Tmp} {assign body : Code} {D : Nat}
def recOf (fn : FuncId) (tmps : Array Value) (ps : Array Tmp) (assign body : Code) (D : Nat) (st : LoopState) (pe : Option Code) : Loop := { state := st, pending := pe, fn, tmps, params := ps, assign, body, defers := D }
theorem wpIn_range_own {g : Operand} {Q : Exit → Act → World → Prop} {a : Act} {w : World} (hro : F.round = none) (h1 : F.depth.isSome = true → 1 ≤ n) {gf : Nat} {lb : Array Value} (hg : a.eval g = .func (.func gf) #[] lb) (hFg : F.fn gf)
    (eg : ∀ args w, (callFunc gf args).run P w = .ok (.enter gf args) w)
    (h : ∀ fn, F.fn fn → ∀ (rec : LoopState → Option Code → Loop) (W1 : World), rec = recOf fn a.tmps ps assign body w.heap.size → (w.alloc (.deferred (some []))).alloc (.loop (rec .ready none)) = W1 →
      CallsIn F (n - 1) P gf (#[.func (.yield (w.heap.size + 1)) #[] #[]] ++ lb) W1 fun e W =>
      (∃ v, e = .returned v) ∧ W.heap[w.heap.size + 1]? = some (.loop (rec .ready none)) ∧
        Q .normal { a with defers := { target := .collected w.heap.size, args := #[] } :: a.defers } (W.putObj (w.heap.size + 1) (.loop (rec .exhausted none)))) :
    (Code.rangeFunc g ps assign body).wpIn F n P Q a w := by
  refine wpIn_rangeFunc ?_
  intro fn hfn
  rw [hro]
  obtain ⟨rec, hrec⟩ : ∃ rec : LoopState → Option Code → Loop, rec = recOf fn a.tmps ps assign body w.heap.size := ⟨_, rfl⟩
  obtain ⟨W1, hW1⟩ : ∃ W1, (w.alloc (.deferred (some []))).alloc (.loop (rec .ready none)) = W1 := ⟨_, rfl⟩
  have hc := h fn hfn rec W1 hrec hW1
  refine ⟨w.heap.size + 1, [{ target := .collected w.heap.size, args := #[] }], W1, { target := .fn (.func gf) lb, args := #[.func (.yield (w.heap.size + 1)) #[] #[]] }, W1, gf,
    #[.func (.yield (w.heap.size + 1)) #[] #[]] ++ lb, W1, ?_, ?_, ?_, ?_, h1, ?_⟩
  · rw [← hW1, hrec]; exact run_enterLoop_outer _ _ _ _ _
  · simp only [resolve, hg]
    simp [go_sem]
  · intro f' hf'; simp [Target.leads] at hf'; subst hf'; exact hFg
  · simp [invoke, go_sem, eg]
  · refine hc.mono ?_
    rintro e W ⟨⟨v, rfl⟩, hl, hq⟩
    refine ⟨none, _, ?_, hq⟩
    have := run_endLoop (P := P) hl (by rw [hrec]; simp [recOf])
    rw [hrec] at this ⊢
    exact this
theorem yield_own {rec : LoopState → Option Code → Loop} (hrec : rec = recOf fn tmps ps assign body D) {l m : Nat} {args : Array Value} {W : World} {R : Ending → World → Prop} (hfn : F.fn fn) (hl : W.heap[l]? = some (.loop (rec .ready none))) (hps : args.size = ps.size)
    (h : assign.wpIn (F.inRound l) m P (Exit.then (fun a₁ w₁ => w₁.heap[l]? = some (.loop (rec .ready none)) ∧
      body.wpIn (F.inRound l) m P (fun e _ W3 => e = .normal ∧ W3.heap[l]? = some (.loop (rec .busy none)) ∧ R (.returned (.bool true)) (W3.putObj l (.loop (rec .ready none)))) a₁ (w₁.putObj l (.loop (rec .busy none)))) (fun _ _ _ => False))
      { tmps := (ps.zip args).foldl (fun t (p, v) => t.setIfInBounds p v) tmps, defers := [] } W) : YieldAt F m P l args W R := by
  subst hrec
  refine ⟨fn, _, assign, body, run_yield (P := P) hl hps, roundIn_of_wpIn hfn (wpIn_mono h ?_)⟩
  intro e a W1 hp
  cases e with
  | normal =>
    obtain ⟨hl1, hb⟩ := hp
    refine ⟨_, run_beginRound hl1 rfl, wpIn_mono hb ?_⟩
    rintro e a3 W3 ⟨rfl, hl3, hR⟩
    exact ⟨_, _, run_endRound (P := P) none hl3, hR⟩
  | ret => exact hp.elim
  | exit id => exact hp.elim
  | goto t => exact hp.elim
  | panic c => exact hp.elim
  | outgrown => exact hp.elim
end
section
variable {Gl : List (Nat × Nat × Option Value)} {V0 : Vw} {w0 : World}
structure JAt (V0 : Vw) (w0 : World) (D Bo : Nat) (rec : LoopState → Option Code → Loop) (V : Vw) (pre : List Int) (W : World) : Prop where
  adv : Adv V0 w0 V W
  d : W.heap[D]? = some (.deferred (some []))
  dt : (V.tag D).1 = 0
  r : W.heap[D + 1]? = some (.loop (rec .ready none))
  rt : (V.tag (D + 1)).1 = 0
  bt : (V.tag Bo).1 = 0
  own : ∃ v, Boxed W Bo 45 v ∧ W.ownsRow w0.heap.size 3 1 v pre.length (pre.map (Value.int .i64)) ∧ ∀ p, v.ownBlock = some p → (V.tag p).1 = 0
theorem JAt.later {D Bo : Nat} {rec : LoopState → Option Code → Loop} {V V' : Vw} {pre : List Int} {W W' : World} (h : JAt V0 w0 D Bo rec V pre W) (ha : Adv V W V' W') : JAt V0 w0 D Bo rec V' pre W' := by
  obtain ⟨h1, h2, h3, h4, h5, h6, v, h7, h8, h9⟩ := h
  have lt2 := (Array.getElem?_eq_some_iff.1 h2).1
  have lt4 := (Array.getElem?_eq_some_iff.1 h4).1
  refine ⟨h1.trans ha, (ha.frame _ lt2 h3).trans h2, ha.zero _ lt2 h3, (ha.frame _ lt4 h5).trans h4, ha.zero _ lt4 h5, ha.zero _ h7.lt h6, v, (ha.frame _ h7.lt h6).trans h7, ?_, fun p hp => ha.zero _ (h8.lt p hp).2 (h9 p hp)⟩
  refine ⟨h8.1, ?_⟩
  rcases h8.2 with hn | ⟨g, cap, cur, rfl, hb, hgg, rest⟩
  · exact .inl hn
  · exact .inr ⟨g, cap, cur, rfl, hb, (ha.frame g (Array.getElem?_eq_some_iff.1 hgg).1 (h9 g rfl)).trans hgg, rest⟩
theorem step0 {V : Vw} {σ : Sto} {W W' : World} {row : Option Nat} (ha : Adv V0 w0 V W) (hi : Inv V noRoots σ W) (hB : V.B ≤ w0.heap.size) (hg : W.grownBy W' row)
    (hrow : ∀ p, row = some p → w0.heap.size ≤ p ∧ (V.tag p).1 = 0 ∧ ∀ c el, W.heap[p]? = some (.cells c el (0, 0)) → ∃ c', W'.heap[p]? = some (.cells c' el (0, 0)) ∧ c'.size = c.size) :
    Adv V0 w0 V W' ∧ Inv V noRoots σ W' ∧ Stp V W V W' := by
  obtain ⟨h1, h2⟩ := hi.grown0 hg (fun p e => ⟨Nat.le_trans hB (hrow p e).1, (hrow p e).2⟩)
  exact ⟨ha.grown0 h1 hg (fun p e => (hrow p e).1), h2, h1⟩
theorem JAt.round {D Bo : Nat} {rec : LoopState → Option Code → Loop} {V : Vw} {σ : Sto} {pre : List Int} {W : World} (hj : JAt V0 w0 D Bo rec V pre W) (hi : Inv V noRoots σ W) (hB : V.B ≤ w0.heap.size) (hD : w0.heap.size ≤ D) (hBo : w0.heap.size ≤ Bo)
    {v : Value} (hv : Boxed W Bo 45 v) (hrow : W.ownsRow w0.heap.size 3 1 v pre.length (pre.map (Value.int .i64))) (hvt : ∀ p, v.ownBlock = some p → (V.tag p).1 = 0) {x : Int} {Wk Wl : World} (hWk : Wk = W.putObj (D + 1) (.loop (rec .busy none))) (hWl : Wl = Wk.alloc (.cells #[.int .i64 x] 3))
    {v' : Value} {w1 : World} (hown : w1.ownsRow w0.heap.size 3 1 v' (pre.length + 1) (pre.map (Value.int .i64) ++ [.int .i64 x])) (hgrow : Wl.grownBy w1 v.ownBlock)
    (hsz : ∀ p, v.ownBlock = some p → ∀ c el, Wl.heap[p]? = some (.cells c el (0, 0)) → ∃ c', w1.heap[p]? = some (.cells c' el (0, 0)) ∧ c'.size = c.size) (hblk : v'.ownBlock = v.ownBlock ∨ v'.ownBlock = some Wl.heap.size) :
    Boxed w1 Bo 45 v ∧ (w1.setCell ⟨Bo, 0, none⟩ v').heap[D + 1]? = some (.loop (rec .busy none)) ∧
      (Stp V W V ((w1.setCell ⟨Bo, 0, none⟩ v').putObj (D + 1) (.loop (rec .ready none))) ∧ Inv V noRoots σ ((w1.setCell ⟨Bo, 0, none⟩ v').putObj (D + 1) (.loop (rec .ready none))) ∧
        JAt V0 w0 D Bo rec V (pre ++ [x]) ((w1.setCell ⟨Bo, 0, none⟩ v').putObj (D + 1) (.loop (rec .ready none)))) := by
  have ltD := (Array.getElem?_eq_some_iff.1 hj.d).1
  have ltl := (Array.getElem?_eq_some_iff.1 hj.r).1
  have gk : W.grownBy Wk (some (D + 1)) := by rw [hWk]; exact grownBy_putObj' _ _ _
  have gl : Wk.grownBy Wl none := by rw [hWl]; exact World.grownBy_alloc _ _ _
  have hneB : Bo ≠ D + 1 := fun e => by have := hj.r; rw [← e, show W.heap[Bo]? = _ from hv] at this; cases this
  have hneD : Bo ≠ D := fun e => by have := hj.d; rw [← e, show W.heap[Bo]? = _ from hv] at this; cases this
  have hvk : Boxed Wk Bo 45 v := hv.kept gk (fun e => hneB (by cases e; rfl))
  have hrk : Wk.ownsRow w0.heap.size 3 1 v pre.length (pre.map (Value.int .i64)) := by rw [hWk]; exact ownsRow_putObj hrow _ hj.r rfl
  have hszk : w0.heap.size ≤ Wk.heap.size := Nat.le_trans hj.adv.size gk.size
  obtain ⟨b1, b2, b3, b4, -⟩ := hvk.appended (w1 := w1) (tmp := .cells #[.int .i64 x] 3) (by decide) hrk hszk hBo hown (by rw [← hWl]; exact hgrow)
  have hlk : Wk.heap[D + 1]? = some (.loop (rec .busy none)) := by rw [hWk]; exact World.putObj_heap_same ltl
  have hdk : Wk.heap[D]? = some (.deferred (some [])) := by rw [hWk]; exact (World.putObj_heap_other (by omega)).trans hj.d
  have hl3 := b4.same _ _ hlk rfl
  have hd3 := b4.same _ _ hdk rfl
  have g3 : w1.grownBy (w1.setCell ⟨Bo, 0, none⟩ v') (some Bo) := grownBy_setCell' _ _ _
  have g4 : (w1.setCell ⟨Bo, 0, none⟩ v').grownBy ((w1.setCell ⟨Bo, 0, none⟩ v').putObj (D + 1) (.loop (rec .ready none))) (some (D + 1)) := grownBy_putObj' _ _ _
  obtain ⟨a1, i1, s1⟩ := step0 hj.adv hi hB gk (fun p e => by
    simp only [Option.some.injEq] at e
    subst e
    exact ⟨by omega, hj.rt, fun c el h => by rw [hj.r] at h; cases h⟩)
  obtain ⟨a2, i2, s2⟩ := step0 a1 i1 hB gl (fun p e => by cases e)
  have hnew : (V.tag Wl.heap.size).1 = 0 := i2.tag_new (Nat.le_refl _)
  have hvt' : ∀ p, v'.ownBlock = some p → (V.tag p).1 = 0 := fun p e => by
    rcases hblk with h | h
    · exact hvt p (h.symm.trans e)
    · rw [h] at e; simp only [Option.some.injEq] at e; subst e; exact hnew
  obtain ⟨a3, i3, s3⟩ := step0 a2 i2 hB hgrow (fun p e => ⟨by
    rcases hrow.2 with ⟨rfl, -⟩ | ⟨g, cap, cur, rfl, hb, -⟩
    · simp [Value.ownBlock] at e
    · simp only [Value.ownBlock, Option.some.injEq] at e; omega, hvt p e, hsz p e⟩)
  obtain ⟨a4, i4, s4⟩ := step0 a3 i3 hB g3 (fun p e => by
    simp only [Option.some.injEq] at e
    subst e
    refine ⟨hBo, hj.bt, fun c el h => ?_⟩
    rw [show w1.heap[Bo]? = _ from b1] at h
    simp only [Option.some.injEq, Obj.cells.injEq] at h
    obtain ⟨rfl, rfl, -⟩ := h
    exact ⟨_, b2, rfl⟩)
  obtain ⟨a5, i5, s5⟩ := step0 a4 i4 hB g4 (fun p e => by
    simp only [Option.some.injEq] at e
    subst e
    exact ⟨by omega, hj.rt, fun c el h => by rw [hl3] at h; cases h⟩)
  refine ⟨b1, hl3, s1.trans (s2.trans (s3.trans (s4.trans s5))), i5, a5, ?_, hj.dt, ?_, hj.rt, hj.bt, v', ?_, ?_, hvt'⟩
  · exact (World.putObj_heap_other (by omega)).trans hd3
  · exact World.putObj_heap_same (Array.getElem?_eq_some_iff.1 hl3).1
  · exact b2.kept g4 (fun e => hneB (by cases e; rfl))
  · rw [List.length_append, List.map_append]
    exact ownsRow_putObj b3 _ hl3 rfl
theorem rows_ints {V : Vw} {W : World} {b : Nat} : ∀ {xs : List Int} {off : Nat}, (∀ i, i < xs.length → V.imm b (off + i)) → (∀ i x, xs[i]? = some x → W.cell? ⟨b, off + i, none⟩ = some (.int .i64 x)) → RowsRel V W 2 b 1 off (xs.map fun i => [.int .i64 i])
  | [], _, _, _ => by simp [RowsRel]
  | x :: xs, off, h1, h2 => by
    simp only [List.map_cons, RowsRel, RowRel, VRel, List.length_cons, List.length_nil, and_true]
    refine ⟨trivial, ⟨by simpa using h1 0 (by simp), _, by simpa using h2 0 x rfl, by simp [Value.oneCell'], rfl⟩, ?_⟩
    refine rows_ints (fun i hi => ?_) (fun i y hy => ?_)
    · have := h1 (i + 1) (by simpa using hi)
      rwa [show off + (i + 1) = off + 1 + i by omega] at this
    · have := h2 (i + 1) y (by simpa using hy)
      rwa [show off + (i + 1) = off + 1 + i by omega] at this
theorem own_final {V : Vw} {σ : Sto} {W : World} (ha : Adv V0 w0 V W) (hi : Inv V noRoots σ W) (hB : V.B ≤ w0.heap.size) {v : Value} {z : List Int} (hrow : W.ownsRow w0.heap.size 3 1 v z.length (z.map (Value.int .i64))) (hvt : ∀ p, v.ownBlock = some p → (V.tag p).1 = 0) (hz : 0 < z.length) :
    ∃ V', Adv V0 w0 V' W ∧ Inv V' noRoots σ W ∧ VRel V' W 1 (.slice false 0 1 (z.map fun i => [.int .i64 i])) v := by
  have hcell : ∀ g, v.ownBlock = some g → ∀ j u, (z.map (Value.int .i64))[j]? = some u → W.cell? ((⟨g, 0, none⟩ : Addr).add j) = some u := fun g hg => hrow.cells hg
  rcases hrow.2 with ⟨-, h0⟩ | ⟨g, cap, cur, rfl, hb, hgg, hnc, -⟩
  · omega
  · have hlt := (Array.getElem?_eq_some_iff.1 hgg).1
    obtain ⟨h1, h2⟩ := hi.take0 (p := g) (by omega) hlt (hvt g rfl)
    refine ⟨_, ha.more h1 ⟨fun _ => Nat.le_refl _, fun _ _ _ => rfl⟩ rfl rfl (fun b hb' ht => ?_) (fun _ _ _ => rfl) (Nat.le_refl _) rfl rfl rfl, h2, ?_⟩
    · show (upd V.tag g (1, 0) b).1 = 0
      simp only [upd]; rw [if_neg (by omega)]; exact ht
    · simp only [VRel, List.length_map]
      refine ⟨.inl (by omega), g, 0, cap, rfl, hnc, ⟨by omega, fun e => by omega, fun e => by omega⟩, ?_⟩
      refine rows_ints (fun i hi' => .inr ⟨by show V.B ≤ g; omega, .inl ?_⟩) (fun i x hx => ?_)
      · show (upd V.tag g (1, 0) g).1 = 1
        simp [upd]
      · have := hcell g rfl i (.int .i64 x) (by rw [List.getElem?_map, hx]; rfl)
        by_cases h0 : i = 0
        · subst h0; simpa [Addr.add] using this
        · simpa [Addr.add, h0] using this
set_option maxHeartbeats 1000000 in
theorem all_in (m : Nat) (p0 : Option Addr) (w : World) : CallsIn Fence.wide m Tryd.prog 41 #[.pointer p0] w fun e w' => e = .returned (.func (.func 54) #[] #[.pointer (some ⟨w.heap.size, 0, none⟩)]) ∧ w' = w.alloc (.cells #[.pointer p0] 22) := by
  refine callsIn_of_wp Tryd.func41 rfl trivial ?_ rfl
  simp only [Tryd.ntmps41, List.size_toArray, List.length_cons, List.length_nil, Nat.reduceAdd, Nat.reduceSub, Array.replicate_succ, Array.replicate_zero, List.push_toArray, List.append_toArray, List.nil_append, List.cons_append]
  gi_wp2
  go_ret
  exact ⟨rfl, rfl⟩
set_option maxHeartbeats 1000000 in
theorem all1_in (l m Bt : Nat) (p0 : Option Addr) (W : World) {R : World → Prop} (hB : W.cell? ⟨Bt, 0, none⟩ = some (.pointer p0))
    (hw : ∀ m, CallsIn Fence.wide m Tryd.prog 55 #[.pointer p0, .int .i64 1, .func (.yield l) #[] #[]] W fun e W' => e = .returned (.bool true) ∧ R W') :
    CallsIn Fence.wide m Tryd.prog 54 #[.func (.yield l) #[] #[], .pointer (some ⟨Bt, 0, none⟩)] W fun e W' => (∃ v, e = .returned v) ∧ R W' := by
  have hdd : ∀ k : Nat, (Fence.wide.depth.isSome = true → 1 ≤ k) := fun k h => by simp [Fence.wide] at h
  have hp := hw (m - 1)
  refine callsIn_of_wp Tryd.func54 rfl trivial ?_ rfl
  simp only [Tryd.ntmps54, List.size_toArray, List.length_cons, List.length_nil, Nat.reduceAdd, Nat.reduceSub, Array.replicate_succ, Array.replicate_zero, List.push_toArray, List.append_toArray, List.nil_append, List.cons_append]
  gi_wp2_with (refine ⟨trivial, hdd _, ?_⟩; refine hp.mono ?_; clear hp; rintro e W1 ⟨rfl, hR⟩)
  go_end0
  exact ⟨⟨_, rfl⟩, hR⟩
theorem Tryd.info3 : (Tryd.prog.info? 3).map (fun i => (i.zero, i.size, i.bytes)) = some (some (.int .i64 0), 1, 8) := by kernel_rfl
set_option maxRecDepth 100000 in
set_option maxHeartbeats 4000000 in
theorem list_in (hcs : ∀ f, ImpOk Tryd.prog Gl f (ciJ PR0 1000 f)) (td : DVal) (p0 : Option Addr) {V : Vw} {σ σ' : Sto} {w : World} {r : DVal} (hi : Inv V noRoots σ w) (hG : HasG Gl V.imm w) (ht : VRel V w 1 td (.pointer p0)) (hs : listB td σ = some (r, σ')) (m : Nat) :
    CallsIn Fence.wide m Tryd.prog 23 #[.pointer p0] w fun e w' => ∃ v V', e = .returned v ∧ Adv V w V' w' ∧ Inv V' noRoots σ' w' ∧ VRel V' w' 1 r v := by
  have hdd : ∀ k : Nat, (Fence.wide.depth.isSome = true → 1 ≤ k) := fun k h => by simp [Fence.wide] at h
  simp only [listB, Option.bind_eq_some_iff] at hs
  obtain ⟨y, hy, hs⟩ := hs
  have hmade : CallsIn Fence.wide (m - 1) Tryd.prog 30 #[.pointer p0] w fun e w' => ∃ b V', e = .returned (.bool b) ∧ y.1 = .bool b ∧ Adv V w V' w' ∧ Inv V' noRoots y.2 w' := by
    refine callsIn_wide.2 ((hcs 30 V σ y.2 w [td] [.pointer p0] y.1 hi hG ?_ hy).2.mono ?_)
    · simp only [VRels]
      exact ⟨_, _, rfl, ht, rfl⟩
    · rintro e w' ⟨v, V', rfl, ha, hi', hv⟩
      split at hs
      · rename_i hy1
        rw [hy1] at hv
        simp only [VRel] at hv
        exact ⟨false, V', by rw [hv], hy1, ha, hi'⟩
      · rename_i hy1
        rw [hy1] at hv
        simp only [VRel] at hv
        exact ⟨true, V', by rw [hv], hy1, ha, hi'⟩
      · cases hs
  refine callsIn_of_wp_marks Tryd.func23 rfl trivial ?_ rfl
  simp only [Tryd.ntmps23, List.size_toArray, List.length_cons, List.length_nil, Nat.reduceAdd, Nat.reduceSub, Array.replicate_succ, Array.replicate_zero, List.push_toArray, List.append_toArray, List.nil_append, List.cons_append]
  gi_wp2_with (refine ⟨trivial, hdd _, ?_⟩; refine hmade.mono ?_; clear hmade; rintro e w1 ⟨b, V1, rfl, hb, ha1, hi1⟩; cases b)
  · rw [hb] at hs
    simp only [Option.some.injEq, Prod.mk.injEq] at hs
    obtain ⟨rfl, rfl⟩ := hs
    exact ⟨_, results_tmp rfl _ _ _, _, V1, rfl, ha1, hi1, by simp [VRel]⟩
  · rw [hb] at hs
    simp only [Option.bind_eq_some_iff] at hs
    obtain ⟨z, hz, hs⟩ := hs
    split at hs
    · rename_i hzl
      simp only [Option.some.injEq, Prod.mk.injEq] at hs
      obtain ⟨rfl, rfl⟩ := hs
      refine ⟨trivial, hdd _, ?_⟩
      refine (all_in (m - 1) p0 _).mono ?_
      rintro e w2 ⟨rfl, rfl⟩
      gi_wp2
      -- the variable's box, the box of the receiver
      obtain ⟨wo, hwo⟩ : ∃ wo, w1.alloc (.cells #[.slice none 0 0] 45) = wo := ⟨_, rfl⟩
      obtain ⟨wb, hwb⟩ : ∃ wb, wo.alloc (.cells #[.pointer p0] 22) = wb := ⟨_, rfl⟩
      have hno : wo.heap.size = w1.heap.size + 1 := by rw [← hwo]; simp
      have hnb : wb.heap.size = w1.heap.size + 2 := by rw [← hwb]; simp [hno]
      have bo : Boxed wo w1.heap.size 45 (.slice none 0 0) := by rw [← hwo]; exact Boxed.new _ _ _
      have bb : Boxed wb (w1.heap.size + 1) 22 (.pointer p0) := by rw [← hwb, ← hno]; exact Boxed.new _ _ _
      have bo2 : Boxed wb w1.heap.size 45 (.slice none 0 0) := by rw [← hwb]; exact bo.alloc _
      rw [hwo, hwb]
      have go : w1.grownBy wo none := by rw [← hwo]; exact World.grownBy_alloc _ _ _
      have gb : wo.grownBy wb none := by rw [← hwb]; exact World.grownBy_alloc _ _ _
      obtain ⟨so, hio⟩ := hi1.grown0 go (fun p e => by cases e)
      obtain ⟨sb, hib⟩ := hio.grown0 gb (fun p e => by cases e)
      have hab := (ha1.grown0 so go (fun p e => by cases e)).grown0 sb gb (fun p e => by cases e)
      obtain ⟨i0, hi3, hz0, hz1, hz2⟩ := info_parts Tryd.info3
      have hBw : V1.B ≤ w.heap.size := by rw [ha1.B]; exact hi.hB
      refine wpIn_range_own rfl (hdd m) (gf := 54) (lb := #[.pointer (some ⟨w1.heap.size + 1, 0, none⟩)]) rfl trivial (enters_of Tryd.func54 (by kernel_rfl) rfl) ?_
      intro fn hfn rec W1 hrec hW1
      obtain ⟨wd, hwd⟩ : ∃ wd, wb.alloc (.deferred (some [])) = wd := ⟨_, rfl⟩
      rw [hwd] at hW1
      have gd : wb.grownBy wd none := by rw [← hwd]; exact World.grownBy_alloc _ _ _
      have g1 : wd.grownBy W1 none := by rw [← hW1]; exact World.grownBy_alloc _ _ _
      have hnd : wd.heap.size = wb.heap.size + 1 := by rw [← hwd]; simp
      obtain ⟨ad, hid, sd⟩ := step0 hab hib hBw gd (fun p e => by cases e)
      obtain ⟨aW, hiW, sW⟩ := step0 ad hid hBw g1 (fun p e => by cases e)
      have hle := ha1.size
      have hj1 : JAt V w wb.heap.size w1.heap.size rec V1 [] W1 := by
        refine ⟨aW, ?_, hib.tag_new (Nat.le_refl _), ?_, hib.tag_new (Nat.le_succ _), hi1.tag_new (Nat.le_refl _), .slice none 0 0, ?_, World.ownsRow_nil _ _ _ _, fun p hp => by simp [Value.ownBlock] at hp⟩
        · rw [← hW1]
          refine (old_alloc _ _ _ (by omega)).trans ?_
          rw [← hwd]; exact World.alloc_heap_new wb _
        · rw [← hW1, ← hnd]; exact World.alloc_heap_new wd _
        · rw [← hW1, ← hwd]; exact (bo2.alloc _).alloc _
      have hcellB : W1.cell? ⟨w1.heap.size + 1, 0, none⟩ = some (.pointer p0) := by
        rw [← hW1, ← hwd]; exact ((bb.alloc _).alloc _).cell
      have hG1 : HasG Gl V1.imm W1 := hG.stp aW.stp
      have ht1 : VRel V1 W1 1 td (.pointer p0) := VRel.ext aW.stp.ei td 1 _ (fun _ => aW.stp.er) (fun e => by omega) ht
      refine (all1_in (wb.heap.size + 1) (m - 1) (w1.heap.size + 1) p0 W1 (R := fun W' => ∃ V', Inv V' noRoots z.2 W' ∧ JAt V w wb.heap.size w1.heap.size rec V' z.1 W') hcellB (fun m' => ?_)).mono ?_
      · refine (walkOver (hcs 21) (wb.heap.size + 1) z.1.length (JAt V w wb.heap.size w1.heap.size rec) (fun _ _ _ _ _ hj ha => hj.later ha) ?_ td 1000 1 y.2 z m' (.pointer p0) V1 W1 [] hz hiW hG1 ht1 hj1 (by simp)).mono ?_
        · intro m2 V2 σ2 pre x W hj hi2 hG2 hlt
          have hBw2 : V2.B ≤ w.heap.size := by rw [hj.adv.B]; exact hi.hB
          obtain ⟨v, hv, hrow, hvt⟩ := hj.own
          obtain ⟨Wk, hWk⟩ : ∃ Wk, Wk = W.putObj (wb.heap.size + 1) (.loop (rec .busy none)) := ⟨_, rfl⟩
          have hvk : Boxed Wk w1.heap.size 45 v := by rw [hWk]; exact hv.kept (grownBy_putObj' _ _ _) (fun e => by simp only [Option.some.injEq] at e; omega)
          have hrk : Wk.ownsRow w.heap.size 3 1 v pre.length (pre.map (Value.int .i64)) := by rw [hWk]; exact ownsRow_putObj hrow _ hj.r rfl
          have hkz : w.heap.size ≤ Wk.heap.size := by rw [hWk]; exact Nat.le_trans hj.adv.size (grownBy_putObj' _ _ _).size
          obtain ⟨Wl, hWl⟩ : ∃ Wl, Wl = Wk.alloc (.cells #[.int .i64 x] 3) := ⟨_, rfl⟩
          have hrnd := fun (v' : Value) (w1' : World) h1 h2 h3 h4 => hj.round (v' := v') (w1 := w1') hi2 hBw2 (by omega) hle hv hrow hvt hWk hWl h1 h2 h3 h4
          have hr0 := hj.r
          refine yield_own hrec hfn hr0 rfl ?_
          have hc := hvk.cell
          rw [hWl] at hrnd
          clear hrec hnb hno hnd hwo hwb hwd hWl hW1
          gi_wp2
          refine ⟨hr0, ?_⟩
          rw [← hWk]
          clear hWk
          have hnews : (Wk.alloc (.cells #[.int .i64 x] 3)).cell? ⟨Wk.heap.size, 0, none⟩ = some (.int .i64 x) := (Boxed.new Wk 3 (.int .i64 x)).cell
          have hzm := hzl.2
          gi_wp2_with (gi_at_builtin; refine wpListIn_append_one _ rfl _ _ 45 rfl w.heap.size 3 i0 (.int .i64 0) 8 Tryd.underlying45 hi3 hz0 hz1 hz2 rfl v pre.length (pre.map (Value.int .i64)) rfl (hrk.alloc _) ⟨Wk.heap.size, 0, none⟩ 1 (.int .i64 x) rfl hnews (by simp [Value.oneCell']) (by simp only [maxLen]; omega) (by omega) (by simp; omega) ?_; intro v' w3 hown' hgrow hsz hblk; obtain ⟨hv1, hfin⟩ := hrnd v' w3 hown' hgrow hsz hblk; obtain ⟨g', cap', rfl⟩ := ownsRow_succ hown'; have hc1 := hv1.cell; have hf1 := hv1.frozen)
          exact ⟨V2, hfin.2⟩
        · rintro e W2 ⟨rfl, V2, -, hi2, hj2⟩
          exact ⟨rfl, V2, hi2, by simpa using hj2⟩
      · rintro e W ⟨hr, V2, hi2, hj2⟩
        refine ⟨hr, hj2.r, ?_⟩
        obtain ⟨v, hv, hrow, hvt⟩ := hj2.own
        have hBw2 : V2.B ≤ w.heap.size := by rw [hj2.adv.B]; exact hi.hB
        obtain ⟨WE, hWE⟩ : ∃ WE, W.putObj (wb.heap.size + 1) (.loop (rec .exhausted none)) = WE := ⟨_, rfl⟩
        have gE : W.grownBy WE (some (wb.heap.size + 1)) := by rw [← hWE]; exact grownBy_putObj' _ _ _
        have hvE : Boxed WE w1.heap.size 45 v := hv.kept gE (fun e => by simp only [Option.some.injEq] at e; omega)
        have hrE : WE.ownsRow w.heap.size 3 1 v z.1.length (z.1.map (Value.int .i64)) := by rw [← hWE]; exact ownsRow_putObj hrow _ hj2.r rfl
        have hdE : WE.heap[wb.heap.size]? = some (.deferred (some [])) := by rw [← hWE]; exact (World.putObj_heap_other (by omega)).trans hj2.d
        obtain ⟨aE, iE, -⟩ := step0 hj2.adv hi2 hBw2 gE (fun p e => by
          simp only [Option.some.injEq] at e
          subst e
          exact ⟨by omega, hj2.rt, fun c el h => by rw [hj2.r] at h; cases h⟩)
        obtain ⟨WF, hWF⟩ : ∃ WF, WE.putObj wb.heap.size (.deferred none) = WF := ⟨_, rfl⟩
        have gF : WE.grownBy WF (some wb.heap.size) := by rw [← hWF]; exact grownBy_putObj' _ _ _
        have hrF : WF.ownsRow w.heap.size 3 1 v z.1.length (z.1.map (Value.int .i64)) := by rw [← hWF]; exact ownsRow_putObj hrE _ hdE rfl
        obtain ⟨aF, iF, -⟩ := step0 aE iE hBw2 gF (fun p e => by
          simp only [Option.some.injEq] at e
          subst e
          exact ⟨by omega, hj2.dt, fun c el h => by rw [hdE] at h; cases h⟩)
        obtain ⟨V9, a9, i9, v9⟩ := own_final aF iF hBw2 hrF hvt hzl.1
        have htd := run_takeDeferred (P := Tryd.prog) hdE
        rw [hWF] at htd
        rw [hWE]
        have hc := hvE.cell
        clear hrec hnb hno hnd hwo hwb hwd hWE hW1 hWF
        gi_wp2
        refine ⟨by simp, .inl ⟨_, _, rfl, htd, ?_⟩⟩
        refine ⟨_, results_tmp rfl _ _ _, _, V9, rfl, a9, i9, ?_⟩
        exact v9
    · cases hs
set_option maxRecDepth 100000 in
set_option maxHeartbeats 4000000 in
theorem copy_none (hcs : ∀ f, ImpOk Tryd.prog Gl f (ciJ PR0 1000 f)) (td : DVal) (p0 : Option Addr) {V : Vw} {σ σ' : Sto} {w : World} {r : DVal} (hi : Inv V noRoots σ w) (hG : HasG Gl V.imm w) (ht : VRel V w 1 td (.pointer p0)) (hs : copyB td σ = some (r, σ')) (m : Nat) :
    CallsIn Fence.wide m Tryd.prog 27 #[.pointer p0] w fun e w' => ∃ v V', e = .returned v ∧ Adv V w V' w' ∧ Inv V' noRoots σ' w' ∧ VRel V' w' 1 r v := by
  have hdd : ∀ k : Nat, (Fence.wide.depth.isSome = true → 1 ≤ k) := fun k h => by simp [Fence.wide] at h
  simp only [copyB, Option.bind_eq_some_iff] at hs
  obtain ⟨y, hy, hs⟩ := hs
  have hmade : CallsIn Fence.wide (m - 1) Tryd.prog 30 #[.pointer p0] w fun e w' => ∃ V', e = .returned (.bool false) ∧ Adv V w V' w' ∧ Inv V' noRoots y.2 w' := by
    refine callsIn_wide.2 ((hcs 30 V σ y.2 w [td] [.pointer p0] y.1 hi hG ?_ hy).2.mono ?_)
    · simp only [VRels]
      exact ⟨_, _, rfl, ht, rfl⟩
    · rintro e w' ⟨v, V', rfl, ha, hi', hv⟩
      split at hs
      · rename_i hy1
        rw [hy1] at hv
        simp only [VRel] at hv
        exact ⟨V', by rw [hv], ha, hi'⟩
      · cases hs
  have hr : r = .nilp ∧ σ' = y.2 := by
    split at hs
    · simp only [Option.some.injEq, Prod.mk.injEq] at hs
      exact ⟨hs.1.symm, hs.2.symm⟩
    · cases hs
  obtain ⟨rfl, rfl⟩ := hr
  refine callsIn_of_wp Tryd.func27 rfl trivial ?_ rfl
  simp only [Tryd.ntmps27, List.size_toArray, List.length_cons, List.length_nil, Nat.reduceAdd, Nat.reduceSub, Array.replicate_succ, Array.replicate_zero, List.push_toArray, List.append_toArray, List.nil_append, List.cons_append]
  gi_wp2_with (refine ⟨trivial, hdd _, ?_⟩; refine hmade.mono ?_; clear hmade; rintro e w1 ⟨V1, rfl, ha1, hi1⟩)
  go_ret
  exact ⟨_, V1, rfl, ha1, hi1, by simp [VRel]⟩
end
end Go.Proofs.YtklepphkbbjbjaaDoor
namespace Go.Proofs.YtklepphkbbjbjaaDoor
set_option linter.unusedVariables false
set_option maxRecDepth 100000
open Go
theorem dty_str {k : Nat} {cs : List DVal} (h : DTy Tryd.prog (k + 1) 9 cs) : ∃ s : Bs, cs = [.str s] ∧ s.length ≤ maxLen := by
  unfold DTy at h
  rw [Tryd.underlying9] at h
  exact h
theorem dty_int {k : Nat} {cs : List DVal} (h : DTy Tryd.prog (k + 1) 3 cs) : ∃ i : Int, cs = [.int .i64 i] := by
  unfold DTy at h
  rw [Tryd.underlying3] at h
  obtain ⟨i, h, -⟩ := h
  exact ⟨i, h⟩
theorem dty_step {k : Nat} {cs : List DVal} (h : DTy Tryd.prog (k + 6) 58 cs) : ∃ x : StepV, cs = x.row ∧ x.name.length ≤ 9223372036854775807 := by
  unfold DTy at h
  rw [Tryd.underlying58] at h
  simp only [List.foldr] at h
  obtain ⟨a0, b0, rfl, h0, a1, b1, rfl, h1, a2, b2, rfl, h2, a3, b3, rfl, h3, a4, b4, rfl, h4, a5, b5, rfl, h5, rfl⟩ := h
  obtain ⟨x0, rfl⟩ := dty_int h0
  obtain ⟨x1, rfl⟩ := dty_int h1
  obtain ⟨x2, rfl⟩ := dty_int h2
  obtain ⟨x3, rfl⟩ := dty_int h3
  obtain ⟨x4, rfl⟩ := dty_int h4
  obtain ⟨x5, rfl, hl⟩ := dty_str h5
  exact ⟨⟨x0, x1, x2, x3, x4, x5⟩, rfl, hl⟩
theorem arg_step {k : Nat} {d : DVal} (h : DTyArg Tryd.prog k 58 d) : ∃ x : StepV, d = x.d ∧ x.name.length ≤ 9223372036854775807 := by
  have h' := dtyArg_mono (m := k + 8) (by omega) h
  unfold DTyArg at h'
  rw [Tryd.underlying58] at h'
  obtain ⟨cs, rfl, h2⟩ := h'
  obtain ⟨c, rfl, hc⟩ := dty_step h2
  exact ⟨c, rfl, hc⟩
theorem arg_str {k : Nat} {d : DVal} (h : DTyArg Tryd.prog k 9 d) : ∃ s : Bs, d = .str s := by
  have h' := dtyArg_mono (m := k + 8) (by omega) h
  unfold DTyArg at h'
  rw [Tryd.underlying9] at h'
  obtain ⟨s, h1, -⟩ := dty_str h'
  simp only [List.cons.injEq, and_true] at h1
  exact ⟨s, h1⟩
theorem arg_int {k : Nat} {d : DVal} (h : DTyArg Tryd.prog k 3 d) : ∃ i : Int, d = .int .i64 i := by
  have h' := dtyArg_mono (m := k + 8) (by omega) h
  unfold DTyArg at h'
  rw [Tryd.underlying3] at h'
  obtain ⟨s, h1⟩ := dty_int h'
  simp only [List.cons.injEq, and_true] at h1
  exact ⟨s, h1⟩
theorem arg_steps {k : Nat} {d : DVal} (h : DTyArg Tryd.prog k 32 d) : ∃ s : Sl StepV, d = slD s.z 6 (s.l.map StepV.row) ∧ ∀ x ∈ s.l, x.name.length ≤ 9223372036854775807 := by
  have h' := dtyArg_mono (m := k + 8) (by omega) h
  unfold DTyArg at h'
  rw [Tryd.underlying32] at h'
  simp only at h'
  unfold DTy at h'
  rw [Tryd.underlying32] at h'
  simp only at h'
  rw [show Tryd.prog.cellsOf 58 = 6 by kernel_rfl] at h'
  obtain ⟨z, es, e, h1, -⟩ := h'
  obtain ⟨l, rfl⟩ := rows_of (f := StepV.row) fun r hr => by
    obtain ⟨x, hx, -⟩ := dty_step (h1 r hr)
    exact ⟨x, hx⟩
  simp only [List.cons.injEq, and_true] at e
  refine ⟨⟨z, l⟩, e, fun x hx => ?_⟩
  obtain ⟨y, hy, hl⟩ := dty_step (h1 x.row (List.mem_map.2 ⟨x, hx, rfl⟩))
  have : x = y := by
    obtain ⟨a0, a1, a2, a3, a4, a5⟩ := x
    obtain ⟨c0, c1, c2, c3, c4, c5⟩ := y
    simp only [StepV.row, List.cons.injEq, DVal.int.injEq, DVal.str.injEq, true_and, and_true] at hy
    obtain ⟨rfl, rfl, rfl, rfl, rfl, rfl⟩ := hy
    rfl
  rw [this]; exact hl
end Go.Proofs.YtklepphkbbjbjaaDoor
