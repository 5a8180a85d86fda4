/- Texts of this proof, part 7: see the card for what is proved. -/
import Derived.Test.YtklepphkbbjbjaaDoorPc03
import Derived.Test.YtklepphkbbjbjaaDoorChecked
import Derived.KernelRfl
import Derived.RangeFuncNested
import Derived.RangeFuncBound
import Derived.RangeFuncCalls
import Derived.RangeFuncLeaves
import Derived.Shelf.Abstract
import Derived.WalkKit
import Derived.OwnWalkIn
import Derived.TacticsInMore
import Derived.LoopNIn
import Derived.LoopIn
import Derived.Maps.AppendAt
import Derived.Test.YtklepphkbbjbjaaDoorPc01
import Derived.Test.YtklepphkbbjbjaaDoorPc05
import Derived.RegionTactic
import Derived.BigRegionIn
import Derived.Stop.RegionWithIn
import Derived.Shelf.SlMaps.Clone
import Derived.Maps.Range
import Derived.Test.YtklepphkbbjbjaaDoorPc04
namespace Go.Proofs.YtklepphkbbjbjaaDoor
set_option linter.unusedVariables false
set_option maxRecDepth 100000
open Go
def fns : List (Nat × Nat) := [(9, 2), (11, 2), (12, 2), (13, 2), (15, 2), (16, 2), (18, 2), (21, 2), (24, 2), (25, 2), (26, 2), (28, 2), (29, 2), (30, 2), (31, 2), (33, 2), (23, 2), (27, 2), (40, 2), (45, 2), (46, 2)]
def pts : List Nat := []
theorem K7 : KnowsJ Tryd.prog 7 2 T7 := ⟨Tryd.f7, hintJ H7 fns pts, Tryd.func7, by kernel_rfl, by kernel_rfl⟩
theorem K9 : KnowsJ Tryd.prog 9 1 T9 := ⟨Tryd.f9, hintJ H9 fns pts, Tryd.func9, by kernel_rfl, by kernel_rfl⟩
theorem K10 : KnowsJ Tryd.prog 10 0 T10 := ⟨Tryd.f10, hintJ H10 fns pts, Tryd.func10, by kernel_rfl, by kernel_rfl⟩
theorem K11 : KnowsJ Tryd.prog 11 5 T11 := ⟨Tryd.f11, hintJ H11 fns pts, Tryd.func11, by kernel_rfl, by kernel_rfl⟩
theorem K12 : KnowsJ Tryd.prog 12 2 T12 := ⟨Tryd.f12, hintJ H12 fns pts, Tryd.func12, by kernel_rfl, by kernel_rfl⟩
theorem K13 : KnowsJ Tryd.prog 13 1 T13 := ⟨Tryd.f13, hintJ H13 fns pts, Tryd.func13, by kernel_rfl, by kernel_rfl⟩
theorem K14 : KnowsJ Tryd.prog 14 1 T14 := ⟨Tryd.f14, hintJ H14 fns pts, Tryd.func14, by kernel_rfl, by kernel_rfl⟩
theorem K15 : KnowsJ Tryd.prog 15 3 T15 := ⟨Tryd.f15, hintJ H15 fns pts, Tryd.func15, by kernel_rfl, by kernel_rfl⟩
theorem K16 : KnowsJ Tryd.prog 16 2 T16 := ⟨Tryd.f16, hintJ H16 fns pts, Tryd.func16, by kernel_rfl, by kernel_rfl⟩
theorem K18 : KnowsJ Tryd.prog 18 2 T18 := ⟨Tryd.f18, hintJ H18 fns pts, Tryd.func18, by kernel_rfl, by kernel_rfl⟩
theorem K19 : KnowsJ Tryd.prog 19 2 T19 := ⟨Tryd.f19, hintJ H19 fns pts, Tryd.func19, by kernel_rfl, by kernel_rfl⟩
theorem K20 : KnowsJ Tryd.prog 20 2 T20 := ⟨Tryd.f20, hintJ H20 fns pts, Tryd.func20, by kernel_rfl, by kernel_rfl⟩
theorem K21 : KnowsR Tryd.prog 21 2 T21 := ⟨Tryd.f21, hintR H21 fns pts, Tryd.func21, by kernel_rfl, by kernel_rfl⟩
theorem K22 : KnowsJ Tryd.prog 22 2 T22 := ⟨Tryd.f22, hintJ H22 fns pts, Tryd.func22, by kernel_rfl, by kernel_rfl⟩
theorem K24 : KnowsJ Tryd.prog 24 2 T24 := ⟨Tryd.f24, hintJ H24 fns pts, Tryd.func24, by kernel_rfl, by kernel_rfl⟩
theorem K25 : KnowsJ Tryd.prog 25 2 T25 := ⟨Tryd.f25, hintJ H25 fns pts, Tryd.func25, by kernel_rfl, by kernel_rfl⟩
theorem K26 : KnowsJ Tryd.prog 26 2 T26 := ⟨Tryd.f26, hintJ H26 fns pts, Tryd.func26, by kernel_rfl, by kernel_rfl⟩
theorem K28 : KnowsJ Tryd.prog 28 2 T28 := ⟨Tryd.f28, hintJ H28 fns pts, Tryd.func28, by kernel_rfl, by kernel_rfl⟩
theorem K29 : KnowsJ Tryd.prog 29 3 T29 := ⟨Tryd.f29, hintJ H29 fns pts, Tryd.func29, by kernel_rfl, by kernel_rfl⟩
theorem K30 : KnowsJ Tryd.prog 30 1 T30 := ⟨Tryd.f30, hintJ H30 fns pts, Tryd.func30, by kernel_rfl, by kernel_rfl⟩
theorem K31 : KnowsJ Tryd.prog 31 2 T31 := ⟨Tryd.f31, hintJ H31 fns pts, Tryd.func31, by kernel_rfl, by kernel_rfl⟩
theorem K32 : KnowsJ Tryd.prog 32 1 T32 := ⟨Tryd.f32, hintJ H32 fns pts, Tryd.func32, by kernel_rfl, by kernel_rfl⟩
theorem K33 : KnowsJ Tryd.prog 33 2 T33 := ⟨Tryd.f33, hintJ H33 fns pts, Tryd.func33, by kernel_rfl, by kernel_rfl⟩
theorem K34 : KnowsJ Tryd.prog 34 5 T34 := ⟨Tryd.f34, hintJ H34 fns pts, Tryd.func34, by kernel_rfl, by kernel_rfl⟩
theorem K35 : KnowsJ Tryd.prog 35 2 T35 := ⟨Tryd.f35, hintJ H35 fns pts, Tryd.func35, by kernel_rfl, by kernel_rfl⟩
theorem K36 : KnowsJ Tryd.prog 36 3 T36 := ⟨Tryd.f36, hintJ H36 fns pts, Tryd.func36, by kernel_rfl, by kernel_rfl⟩
theorem K37 : KnowsJ Tryd.prog 37 2 T37 := ⟨Tryd.f37, hintJ H37 fns pts, Tryd.func37, by kernel_rfl, by kernel_rfl⟩
theorem K38 : KnowsJ Tryd.prog 38 2 T38 := ⟨Tryd.f38, hintJ H38 fns pts, Tryd.func38, by kernel_rfl, by kernel_rfl⟩
theorem K39 : KnowsJ Tryd.prog 39 2 T39 := ⟨Tryd.f39, hintJ H39 fns pts, Tryd.func39, by kernel_rfl, by kernel_rfl⟩
theorem K42 : KnowsJ Tryd.prog 42 1 T42 := ⟨Tryd.f42, hintJ H42 fns pts, Tryd.func42, by kernel_rfl, by kernel_rfl⟩
theorem K43 : KnowsJ Tryd.prog 43 2 T43 := ⟨Tryd.f43, hintJ H43 fns pts, Tryd.func43, by kernel_rfl, by kernel_rfl⟩
theorem K44 : KnowsJ Tryd.prog 44 2 T44 := ⟨Tryd.f44, hintJ H44 fns pts, Tryd.func44, by kernel_rfl, by kernel_rfl⟩
theorem K47 : KnowsJ Tryd.prog 47 2 T47 := ⟨Tryd.f47, hintJ H47 fns pts, Tryd.func47, by kernel_rfl, by kernel_rfl⟩
theorem K48 : KnowsJ Tryd.prog 48 1 T48 := ⟨Tryd.f48, hintJ H48 fns pts, Tryd.func48, by kernel_rfl, by kernel_rfl⟩
theorem K49 : KnowsJ Tryd.prog 49 1 T49 := ⟨Tryd.f49, hintJ H49 fns pts, Tryd.func49, by kernel_rfl, by kernel_rfl⟩
theorem K50 : KnowsJ Tryd.prog 50 3 T50 := ⟨Tryd.f50, hintJ H50 fns pts, Tryd.func50, by kernel_rfl, by kernel_rfl⟩
theorem K56 : KnowsJ Tryd.prog 56 2 T56 := ⟨Tryd.f56, hintJ H56 fns pts, Tryd.func56, by kernel_rfl, by kernel_rfl⟩
theorem K59 : KnowsJ Tryd.prog 59 1 T59 := ⟨Tryd.f59, hintJ H59 fns pts, Tryd.func59, by kernel_rfl, by kernel_rfl⟩
theorem K60 : KnowsJ Tryd.prog 60 2 T60 := ⟨Tryd.f60, hintJ H60 fns pts, Tryd.func60, by kernel_rfl, by kernel_rfl⟩
theorem K76 : KnowsJ Tryd.prog 76 1 T76 := ⟨Tryd.f76, hintJ H76 fns pts, Tryd.func76, by kernel_rfl, by kernel_rfl⟩
theorem K77 : KnowsJ Tryd.prog 77 1 T77 := ⟨Tryd.f77, hintJ H77 fns pts, Tryd.func77, by kernel_rfl, by kernel_rfl⟩
theorem K88 : KnowsJ Tryd.prog 88 2 T88 := ⟨Tryd.f88, hintJ H88 fns pts, Tryd.func88, by kernel_rfl, by kernel_rfl⟩
theorem K95 : KnowsJ Tryd.prog 95 2 T95 := ⟨Tryd.f95, hintJ H95 fns pts, Tryd.func95, by kernel_rfl, by kernel_rfl⟩
theorem K98 : KnowsJ Tryd.prog 98 2 T98 := ⟨Tryd.f98, hintJ H98 fns pts, Tryd.func98, by kernel_rfl, by kernel_rfl⟩
end Go.Proofs.YtklepphkbbjbjaaDoor
namespace Go.Proofs.YtklepphkbbjbjaaDoor
set_option linter.unusedVariables false
set_option linter.unusedSimpArgs false
open Go Go.RowKit Go.Shelf
attribute [local go_sem] Oper.semAt_some
theorem rowsS_at {g : Int → Sto → Option (List Int × Sto)} : ∀ {es : List (List DVal)} {σ : Sto} {z : List Int × Sto}, rowsS g es σ = some z → ∀ e ∈ es, ∃ k, e = [.int .i64 k]
  | [], _, _, _, e, he => by cases he
  | x :: es, σ, z, h, e, he => by
    unfold rowsS at h
    split at h
    · rename_i q; cases q
    · rename_i k es' q
      simp only [List.cons.injEq] at q
      obtain ⟨rfl, rfl⟩ := q
      simp only [Option.bind_eq_some_iff, Option.map_eq_some_iff] at h
      obtain ⟨a, -, b, hb, -⟩ := h
      rcases List.mem_cons.1 he with rfl | he
      · exact ⟨k, rfl⟩
      · exact rowsS_at hb e he
    · cases h
theorem rowsS_cons {g : Int → Sto → Option (List Int × Sto)} {k : Int} {es : List (List DVal)} {σ : Sto} {z : List Int × Sto} (h : rowsS g ([.int .i64 k] :: es) σ = some z) : ∃ a b, g k σ = some a ∧ rowsS g es a.2 = some b ∧ z = (a.1 ++ b.1, b.2) := by
  unfold rowsS at h
  simp only [Option.bind_eq_some_iff, Option.map_eq_some_iff] at h
  obtain ⟨a, h1, b, h2, rfl⟩ := h
  exact ⟨a, b, h1, h2, rfl⟩
theorem rows_cell {V : Vw} {w : World} {m b : Nat} : ∀ {es : List (List DVal)} {off i : Nat} {k : Int}, RowsRel V w m b 1 off es → es[i]? = some [.int .i64 k] → w.cell? ⟨b, off + i, none⟩ = some (.int .i64 k)
  | [], _, _, _, _, h => by simp at h
  | e :: es, off, i, k, hr, h => by
    simp only [RowsRel] at hr
    obtain ⟨h1, h2, h3⟩ := hr
    cases i with
    | zero =>
      simp only [List.getElem?_cons_zero, Option.some.injEq] at h
      subst h
      simp only [RowRel, VRel] at h2
      obtain ⟨-, ⟨v, hv, -, rfl⟩, -⟩ := h2
      exact hv
    | succ i =>
      have := rows_cell h3 (i := i) (k := k) (by simpa using h)
      rwa [show off + 1 + i = off + (i + 1) by omega] at this
section
variable {Gl : List (Nat × Nat × Option Value)}
theorem HasG.stp {V V' : Vw} {w w' : World} (h : HasG Gl V.imm w) (hs : Stp V w V' w') : HasG Gl V'.imm w' := h.ext hs.ei
set_option maxRecDepth 100000 in
set_option maxHeartbeats 4000000 in
theorem walkOver (hcs : ImpOk Tryd.prog Gl 21 (ciJ PR0 1000 21)) (l N : Nat) (J : Vw → List Int → World → Prop)
    (hJ : ∀ V pre W V' W', J V pre W → Adv V W V' W' → J V' pre W')
    (hY : ∀ m V σ pre x W, J V pre W → Inv V noRoots σ W → HasG Gl V.imm W → pre.length < N → YieldAt Fence.wide m Tryd.prog l #[.int .i64 x] W fun e W' =>
      e = .returned (.bool true) ∧ ∃ V', Stp V W V' W' ∧ Inv V' noRoots σ W' ∧ J V' (pre ++ [x]) W') (td : DVal) :
    ∀ (n : Nat) (d : Int) (σ : Sto) (z : List Int × Sto) (m : Nat) (tv : Value) (V : Vw) (W : World) (pre : List Int), walkS td n d σ = some z → Inv V noRoots σ W → HasG Gl V.imm W → VRel V W 1 td tv → J V pre W → pre.length + z.1.length ≤ N →
      CallsIn Fence.wide m Tryd.prog 55 #[tv, .int .i64 d, .func (.yield l) #[] #[]] W fun e W' =>
        e = .returned (.bool true) ∧ ∃ V', Stp V W V' W' ∧ Inv V' noRoots z.2 W' ∧ J V' (pre ++ z.1) W' := by
  intro n
  induction n with
  | zero => intro d σ z m tv V W pre h; simp [walkS] at h
  | succ n ih =>
    intro d σ z m tv V W pre h hi hG ht hj hN
    have hdd : ∀ k : Nat, (Fence.wide.depth.isSome = true → 1 ≤ k) := fun k h => by simp [Fence.wide] at h
    simp only [walkS, Option.bind_eq_some_iff] at h
    obtain ⟨y, hy, hz⟩ := h
    have hzl : 1 ≤ z.1.length := by
      split at hz
      · simp only [Option.some.injEq] at hz; subst hz; simp
      · split at hz
        · simp only [Option.map_eq_some_iff] at hz
          obtain ⟨q, -, rfl⟩ := hz
          simp
        · cases hz
      · cases hz
    -- the round at this node, and behind it the call of Children
    have hr1 : YieldAt Fence.wide (m - 1) Tryd.prog l #[.int .i64 d] W fun e W1 => e = .returned (.bool true) ∧ ∃ V1, Stp V W V1 W1 ∧ Inv V1 noRoots σ W1 ∧ J V1 (pre ++ [d]) W1 :=
      hY (m - 1) V σ pre d W hj hi hG (by omega)
    have hch : ∀ V1 W1, Stp V W V1 W1 → Inv V1 noRoots σ W1 → J V1 (pre ++ [d]) W1 → CallsIn Fence.wide (m - 1) Tryd.prog 21 #[tv, .int .i64 d] W1 fun e W2 =>
        ∃ V2 es zr, Stp V W V2 W2 ∧ Inv V2 noRoots y.2 W2 ∧ J V2 (pre ++ [d]) W2 ∧ es.length ≤ 1000000 ∧ rowsS (walkS td n) es y.2 = some zr ∧ z = (d :: zr.1, zr.2) ∧
          ((e = .returned (.slice none 0 0) ∧ es = []) ∨ ∃ b off cap, e = .returned (.slice (some ⟨b, off, none⟩) es.length cap) ∧ RowsRel V2 W2 2 b 1 off es) := fun V1 W1 hs1 hi1 hj1 => by
      refine callsIn_wide.2 ((hcs V1 σ y.2 W1 [td, .int .i64 d] [tv, .int .i64 d] y.1 hi1 (hG.stp hs1) ?_ hy).2.mono ?_)
      · simp only [VRels]
        exact ⟨_, _, rfl, VRel.ext hs1.ei td 1 tv (fun _ => hs1.er) (fun e => by omega) ht, _, _, rfl, by simp only [VRel], rfl⟩
      · rintro e W2 ⟨v, V2, rfl, ha, hi2, hv⟩
        refine ⟨V2, ?_⟩
        split at hz
        · rename_i hy1
          rw [hy1] at hv
          simp only [VRel] at hv
          simp only [Option.some.injEq] at hz
          exact ⟨[], ([], y.2), hs1.trans ha.stp, hi2, hJ _ _ _ _ _ hj1 ha, by simp, rfl, hz.symm, .inl ⟨by rw [hv], rfl⟩⟩
        · rename_i own es hy1
          rw [hy1] at hv
          simp only [VRel] at hv
          obtain ⟨-, b, off, cap, rfl, -, -, hrows⟩ := hv
          split at hz
          · rename_i hlen
            simp only [Option.map_eq_some_iff] at hz
            obtain ⟨zr, hzr, hz⟩ := hz
            exact ⟨es, zr, hs1.trans ha.stp, hi2, hJ _ _ _ _ _ hj1 ha, hlen, hzr, hz.symm, .inr ⟨b, off, cap, rfl, hrows⟩⟩
          · cases hz
        · cases hz
    obtain ⟨fn, tmps, assign, body, hyy, hR⟩ := hr1
    refine callsIn_of_wp Tryd.func55 rfl trivial ?_ rfl
    simp only [Tryd.ntmps55, List.size_toArray, List.length_cons, List.length_nil, Nat.reduceAdd, Nat.reduceSub, Array.replicate_succ, Array.replicate_zero, List.push_toArray, List.append_toArray, List.nil_append, List.cons_append]
    gi_wp2_with (first
      | ((try refine ⟨hdd _, ?_⟩); refine hR.mono ?_; clear hR; rintro e W1 ⟨rfl, V1, hs1, hi1, hj1⟩; have hch1 := hch V1 W1 hs1 hi1 hj1; clear hch)
      | (refine ⟨trivial, hdd _, ?_⟩; refine hch1.mono ?_; clear hch1; rintro e W2 ⟨V2, es, zr, hs2, hi2, hj2, hlen, hzr, hze, (⟨rfl, hes⟩ | ⟨b, off, cap, rfl, hrows⟩)⟩))
    · subst hes
      simp only [rowsS, Option.some.injEq] at hzr
      subst hzr
      subst hze
      gi_loopw [17] (fun i wr => i = .int .i64 0 ∧ wr = W2) (fun _ _ => 0)
      case atStart => exact ⟨rfl, rfl⟩
      case round =>
        obtain ⟨rfl, rfl⟩ := hrel
        gi_wp2
        go_ret
        exact ⟨rfl, V2, hs2, hi2, hj2⟩
    · subst hze
      simp only [List.length_cons] at hN
      gi_loopw [17] (fun i wr => ∃ (k : Nat) (V3 : Vw) (σ3 : Sto) (zs : List Int) (zq : List Int × Sto), i = .int .i64 k ∧ k ≤ es.length ∧ Stp V2 W2 V3 wr ∧ Inv V3 noRoots σ3 wr ∧ J V3 (pre ++ d :: zs) wr ∧
          rowsS (walkS td n) (es.drop k) σ3 = some zq ∧ zs ++ zq.1 = zr.1 ∧ zq.2 = zr.2) (fun i _ => es.length - (intOf i).toNat)
      case atStart => exact ⟨0, V2, y.2, [], zr, rfl, Nat.zero_le _, .refl _ _, hi2, hj2, by simpa using hzr, rfl, rfl⟩
      case round =>
        obtain ⟨k, V3, σ3, zs, zq, rfl, hk, hs3, hi3, hj3, hzq, hz1, hz2⟩ := hrel
        by_cases hlt : k < es.length
        · rw [List.drop_eq_getElem_cons hlt] at hzq
          obtain ⟨c, hc⟩ := rowsS_at hzr es[k] (List.getElem_mem hlt)
          rw [hc] at hzq
          obtain ⟨a, b', ha, hb', rfl⟩ := rowsS_cons hzq
          have hcell : wr.cell? ⟨b, off + k, none⟩ = some (.int .i64 c) := by
            have hr3 := RowsRel.ext hs3.ei es 2 b 1 off (fun e => by omega) (fun e => by omega) hrows
            exact rows_cell hr3 (by rw [List.getElem?_eq_getElem hlt, hc])
          have hzl2 : zs.length + (a.1.length + b'.1.length) = zr.1.length := by rw [← hz1]; simp
          have hcall := ih c σ3 a (m - 1) tv V3 wr (pre ++ d :: zs) ha hi3 ((hG.stp hs2).stp hs3) (VRel.ext (hs2.trans hs3).ei td 1 tv (fun _ => (hs2.trans hs3).er) (fun e => by omega) ht) hj3 (by simp; omega)
          gi_wp2_with (refine ⟨trivial, hdd _, ?_⟩; refine hcall.mono ?_; clear hcall; rintro e W4 ⟨rfl, V4, hs4, hi4, hj4⟩)
          go_roundw
          case rel => exact ⟨k + 1, V4, a.2, zs ++ a.1, b', by simp, by omega, hs3.trans hs4, hi4, by simpa using hj4, hb', by rw [← hz1]; simp, hz2⟩
          case measure => simp [intOf]; omega
        · obtain rfl : k = es.length := by omega
          rw [List.drop_length] at hzq
          simp only [rowsS, Option.some.injEq] at hzq
          subst hzq
          gi_wp2
          go_ret
          simp only [List.append_nil] at hz1
          exact ⟨rfl, V3, hs2.trans hs3, hz2 ▸ hi3, hz1 ▸ hj3⟩
end
end Go.Proofs.YtklepphkbbjbjaaDoor
namespace Go.Proofs.YtklepphkbbjbjaaDoor
set_option linter.unusedVariables false
set_option linter.unusedSimpArgs false
open Go Go.RowKit Go.Shelf
attribute [local go_sem] Oper.semAt_some
theorem old_alloc (w : World) (o : Obj) (i : Nat) (h : i < w.heap.size) : (w.alloc o).heap[i]? = w.heap[i]? := by
  show (w.heap.push o)[i]? = _
  rw [Array.getElem?_push, if_neg (by omega)]
section
variable {P : Program}
theorem run_append_one (w : World) (base : Nat) (t ty e : TypeId) (i : TypeInfo) (z : Value) (bytes : Nat) (ht : P.underlying t = some (.slice e)) (hi : P.info? e = some i) (hz : i.zero = some z)
    (hsize : i.size = 1) (hby : i.bytes = bytes) (hzs : z.cells.size = 1) (v : Value) (n : Nat) (xs : List Value) (hown : w.ownsRow base e 1 v n xs)
    (a : Addr) (c : Nat) (u : Value) (hnews : w.cell? a = some u) (h1 : u.oneCell' = true) (h63 : n + 1 ≤ maxLen) (hbytes : (n + 1) * bytes ≤ 140737488355328) (hbase : base ≤ w.heap.size) :
    ∃ v' w', (Builtin.append_ #[t, t] ty #[v, .slice (some a) 1 c]).run P w = .ok v' w' ∧ w'.ownsRow base e 1 v' (n + 1) (xs ++ [u]) ∧ w.grownBy w' v.ownBlock ∧
      (∀ p, v.ownBlock = some p → ∀ c el, w.heap[p]? = some (.cells c el (0, 0)) → ∃ c', w'.heap[p]? = some (.cells c' el (0, 0)) ∧ c'.size = c.size) ∧ (v'.ownBlock = v.ownBlock ∨ v'.ownBlock = some w.heap.size) := by
  have hn : ∀ (j : Nat) (u' : Value), [u][j]? = some u' → w.cell? (a.add j) = some u' := fun j u' h => by
    cases j with
    | zero => simp only [List.getElem?_cons_zero, Option.some.injEq] at h; subst h; rw [show a.add 0 = a by unfold Addr.add; split <;> simp_all]; exact hnews
    | succ j => simp at h
  obtain ⟨v', w', hr, h2, h3, -⟩ := run_append_own (P := P) w base t ty e i z 1 bytes ht hi hz hsize hby hzs (by decide) v n xs hown a 1 c [u] (by simp) hn (by simpa using h1) h63 hbytes hbase
  refine ⟨v', w', hr, h2, h3, ?_⟩
  rcases hown.2 with ⟨rfl, rfl⟩ | ⟨g, cap, cur, rfl, hbg, hg, hnc, hcm, hcs, htake⟩
  · refine ⟨fun p hp => by simp [Value.ownBlock] at hp, .inr ?_⟩
    have hr2 := run_append_nil (P := P) w t ty e i z ht hi hz a 1 c [u] (by simp [hsize]) hn (by omega) (by simp only [maxLen] at h63; omega) (by have hb := hbytes; rw [hby]; omega)
    rw [hr] at hr2
    simp only [Result.ok.injEq] at hr2
    rw [hr2.1]
    rfl
  · by_cases hroom : n + 1 ≤ cap
    · have hr2 := run_append_room (P := P) w t ty e i ht hi g n cap cur hg a 1 c [u] (by simp [hsize]) hn (by simpa using h1) hroom (by simp [hsize]; omega)
      rw [hr] at hr2
      simp only [Result.ok.injEq] at hr2
      obtain ⟨rfl, rfl⟩ := hr2
      refine ⟨fun p hp c' el hc' => ?_, .inl rfl⟩
      simp only [Value.ownBlock, Option.some.injEq] at hp
      subst hp
      rw [hg] at hc'
      simp only [Option.some.injEq, Obj.cells.injEq, and_true] at hc'
      obtain ⟨rfl, rfl⟩ := hc'
      refine ⟨_, setRow_heap w g cur _ e _ hg, ?_⟩
      simp only [List.size_toArray, List.length_append, List.length_take, List.length_drop, Array.length_toList, List.length_cons, List.length_nil, hsize]
      omega
    · have holds : ∀ j u, xs[j]? = some u → w.cell? ((⟨g, 0, none⟩ : Addr).add j) = some u := hown.cells (g := g) rfl
      have hr2 := run_append_grow (P := P) w t ty e i z ht hi hz ⟨g, 0, none⟩ n cap xs (by rw [hown.1, hsize]) holds a 1 c [u] (by simp [hsize]) hn (by omega) (by simp only [maxLen] at h63; omega) (growslice_fits (by omega) (by rw [hby]; exact hbytes))
      rw [hr] at hr2
      simp only [Result.ok.injEq] at hr2
      obtain ⟨rfl, rfl⟩ := hr2
      refine ⟨fun p hp c' el hc' => ?_, .inr rfl⟩
      simp only [Value.ownBlock, Option.some.injEq] at hp
      subst hp
      exact ⟨c', by rw [old_alloc _ _ _ (by simpa using (Array.getElem?_eq_some_iff.1 hc').1)]; exact hc', rfl⟩
theorem wpListIn_append_one {F : Fence} {nF : Nat} (w : World) {ops : Array Oper} {rest : List Oper} {o : Oper} {a : Act} {Q : Exit → Act → World → Prop}
    (hgd : o.guard = none) (s x : Operand) (t : TypeId) (ho : o.op = .call { callee := .builtin .append, args := #[s, x], argTypes := #[t, t] })
    (base : Nat) (e : TypeId) (i : TypeInfo) (z : Value) (bytes : Nat) (ht : P.underlying t = some (.slice e)) (hi : P.info? e = some i) (hz : i.zero = some z)
    (hsize : i.size = 1) (hby : i.bytes = bytes) (hzs : z.cells.size = 1) (v : Value) (n : Nat) (xs : List Value) (hs : a.eval s = v) (hown : w.ownsRow base e 1 v n xs)
    (ad : Addr) (c : Nat) (u : Value) (hx : a.eval x = .slice (some ad) 1 c) (hnews : w.cell? ad = some u) (h1 : u.oneCell' = true) (h63 : n + 1 ≤ maxLen) (hbytes : (n + 1) * bytes ≤ 140737488355328) (hbase : base ≤ w.heap.size)
    (h : ∀ v' w', w'.ownsRow base e 1 v' (n + 1) (xs ++ [u]) → w.grownBy w' v.ownBlock →
      (∀ p, v.ownBlock = some p → ∀ c el, w.heap[p]? = some (.cells c el (0, 0)) → ∃ c', w'.heap[p]? = some (.cells c' el (0, 0)) ∧ c'.size = c.size) → (v'.ownBlock = v.ownBlock ∨ v'.ownBlock = some w.heap.size) → wpListIn F nF P ops Q rest (a.put o.dst v') w') :
    wpListIn F nF P ops Q (o :: rest) a w := by
  refine wpListIn_plain hgd fun K hK => ?_
  obtain ⟨v', w', hr, h2, h3, h4, h5⟩ := run_append_one (P := P) w base t o.type e i z bytes ht hi hz hsize hby hzs v n xs hown ad c u hnews h1 h63 hbytes hbase
  unfold Oper.wpIn
  refine ⟨by simp [Oper.about, ho, resolve, Target.leads, Sem.run_pure], ?_⟩
  rw [Oper.semAt_plain F _ _ (by rw [ho]; intro c hc'; cases hc')]
  simp [execOp, ho, resolve, invoke, builtin, hs, hx, hr, Result.andThen]
  exact hK _ _ (h v' w' h2 h3 h4 h5)
end
section
variable {F : Fence} {n : Nat} {P : Program} {fn : FuncId} {tmps : Array Value} {ps : Array Tmp} {assign body : Code} {D : Nat}
def recOf (fn : FuncId) (tmps : Array Value) (ps : Array Tmp) (assign body : Code) (D : Nat) (st : LoopState) (pe : Option Code) : Loop := { state := st, pending := pe, fn, tmps, params := ps, assign, body, defers := D }
theorem wpIn_range_own {g : Operand} {Q : Exit → Act → World → Prop} {a : Act} {w : World} (hro : F.round = none) (h1 : F.depth.isSome = true → 1 ≤ n) {gf : Nat} {lb : Array Value} (hg : a.eval g = .func (.func gf) #[] lb) (hFg : F.fn gf)
    (eg : ∀ args w, (callFunc gf args).run P w = .ok (.enter gf args) w)
    (h : ∀ fn, F.fn fn → ∀ (rec : LoopState → Option Code → Loop) (W1 : World), rec = recOf fn a.tmps ps assign body w.heap.size → (w.alloc (.deferred (some []))).alloc (.loop (rec .ready none)) = W1 →
      CallsIn F (n - 1) P gf (#[.func (.yield (w.heap.size + 1)) #[] #[]] ++ lb) W1 fun e W =>
      (∃ v, e = .returned v) ∧ W.heap[w.heap.size + 1]? = some (.loop (rec .ready none)) ∧
        Q .normal { a with defers := { target := .collected w.heap.size, args := #[] } :: a.defers } (W.putObj (w.heap.size + 1) (.loop (rec .exhausted none)))) :
    (Code.rangeFunc g ps assign body).wpIn F n P Q a w := by
  refine wpIn_rangeFunc ?_
  intro fn hfn
  rw [hro]
  obtain ⟨rec, hrec⟩ : ∃ rec : LoopState → Option Code → Loop, rec = recOf fn a.tmps ps assign body w.heap.size := ⟨_, rfl⟩
  obtain ⟨W1, hW1⟩ : ∃ W1, (w.alloc (.deferred (some []))).alloc (.loop (rec .ready none)) = W1 := ⟨_, rfl⟩
  have hc := h fn hfn rec W1 hrec hW1
  refine ⟨w.heap.size + 1, [{ target := .collected w.heap.size, args := #[] }], W1, { target := .fn (.func gf) lb, args := #[.func (.yield (w.heap.size + 1)) #[] #[]] }, W1, gf,
    #[.func (.yield (w.heap.size + 1)) #[] #[]] ++ lb, W1, ?_, ?_, ?_, ?_, h1, ?_⟩
  · rw [← hW1, hrec]; exact run_enterLoop_outer _ _ _ _ _
  · simp only [resolve, hg]
    simp [go_sem]
  · intro f' hf'; simp [Target.leads] at hf'; subst hf'; exact hFg
  · simp [invoke, go_sem, eg]
  · refine hc.mono ?_
    rintro e W ⟨⟨v, rfl⟩, hl, hq⟩
    refine ⟨none, _, ?_, hq⟩
    have := run_endLoop (P := P) hl (by rw [hrec]; simp [recOf])
    rw [hrec] at this ⊢
    exact this
theorem yield_own {rec : LoopState → Option Code → Loop} (hrec : rec = recOf fn tmps ps assign body D) {l m : Nat} {args : Array Value} {W : World} {R : Ending → World → Prop} (hfn : F.fn fn) (hl : W.heap[l]? = some (.loop (rec .ready none))) (hps : args.size = ps.size)
    (h : assign.wpIn (F.inRound l) m P (Exit.then (fun a₁ w₁ => w₁.heap[l]? = some (.loop (rec .ready none)) ∧
      body.wpIn (F.inRound l) m P (fun e _ W3 => e = .normal ∧ W3.heap[l]? = some (.loop (rec .busy none)) ∧ R (.returned (.bool true)) (W3.putObj l (.loop (rec .ready none)))) a₁ (w₁.putObj l (.loop (rec .busy none)))) (fun _ _ _ => False))
      { tmps := (ps.zip args).foldl (fun t (p, v) => t.setIfInBounds p v) tmps, defers := [] } W) : YieldAt F m P l args W R := by
  subst hrec
  refine ⟨fn, _, assign, body, run_yield (P := P) hl hps, roundIn_of_wpIn hfn (wpIn_mono h ?_)⟩
  intro e a W1 hp
  cases e with
  | normal =>
    obtain ⟨hl1, hb⟩ := hp
    refine ⟨_, run_beginRound hl1 rfl, wpIn_mono hb ?_⟩
    rintro e a3 W3 ⟨rfl, hl3, hR⟩
    exact ⟨_, _, run_endRound (P := P) none hl3, hR⟩
  | ret => exact hp.elim
  | exit id => exact hp.elim
  | goto t => exact hp.elim
  | panic c => exact hp.elim
  | outgrown => exact hp.elim
end
section
variable {Gl : List (Nat × Nat × Option Value)} {V0 : Vw} {w0 : World}
structure JAt (V0 : Vw) (w0 : World) (D Bo : Nat) (rec : LoopState → Option Code → Loop) (V : Vw) (pre : List Int) (W : World) : Prop where
  adv : Adv V0 w0 V W
  d : W.heap[D]? = some (.deferred (some []))
  dt : (V.tag D).1 = 0
  r : W.heap[D + 1]? = some (.loop (rec .ready none))
  rt : (V.tag (D + 1)).1 = 0
  bt : (V.tag Bo).1 = 0
  own : ∃ v, Boxed W Bo 45 v ∧ W.ownsRow w0.heap.size 3 1 v pre.length (pre.map (Value.int .i64)) ∧ ∀ p, v.ownBlock = some p → (V.tag p).1 = 0
theorem JAt.later {D Bo : Nat} {rec : LoopState → Option Code → Loop} {V V' : Vw} {pre : List Int} {W W' : World} (h : JAt V0 w0 D Bo rec V pre W) (ha : Adv V W V' W') : JAt V0 w0 D Bo rec V' pre W' := by
  obtain ⟨h1, h2, h3, h4, h5, h6, v, h7, h8, h9⟩ := h
  have lt2 := (Array.getElem?_eq_some_iff.1 h2).1
  have lt4 := (Array.getElem?_eq_some_iff.1 h4).1
  refine ⟨h1.trans ha, (ha.frame _ lt2 h3).trans h2, ha.zero _ lt2 h3, (ha.frame _ lt4 h5).trans h4, ha.zero _ lt4 h5, ha.zero _ h7.lt h6, v, (ha.frame _ h7.lt h6).trans h7, ?_, fun p hp => ha.zero _ (h8.lt p hp).2 (h9 p hp)⟩
  refine ⟨h8.1, ?_⟩
  rcases h8.2 with hn | ⟨g, cap, cur, rfl, hb, hgg, rest⟩
  · exact .inl hn
  · exact .inr ⟨g, cap, cur, rfl, hb, (ha.frame g (Array.getElem?_eq_some_iff.1 hgg).1 (h9 g rfl)).trans hgg, rest⟩
theorem step0 {V : Vw} {σ : Sto} {W W' : World} {row : Option Nat} (ha : Adv V0 w0 V W) (hi : Inv V noRoots σ W) (hB : V.B ≤ w0.heap.size) (hg : W.grownBy W' row)
    (hrow : ∀ p, row = some p → w0.heap.size ≤ p ∧ (V.tag p).1 = 0 ∧ ∀ c el, W.heap[p]? = some (.cells c el (0, 0)) → ∃ c', W'.heap[p]? = some (.cells c' el (0, 0)) ∧ c'.size = c.size) :
    Adv V0 w0 V W' ∧ Inv V noRoots σ W' ∧ Stp V W V W' := by
  obtain ⟨h1, h2⟩ := hi.grown0 hg (fun p e => ⟨Nat.le_trans hB (hrow p e).1, (hrow p e).2⟩)
  exact ⟨ha.grown0 h1 hg (fun p e => (hrow p e).1), h2, h1⟩
theorem JAt.round {D Bo : Nat} {rec : LoopState → Option Code → Loop} {V : Vw} {σ : Sto} {pre : List Int} {W : World} (hj : JAt V0 w0 D Bo rec V pre W) (hi : Inv V noRoots σ W) (hB : V.B ≤ w0.heap.size) (hD : w0.heap.size ≤ D) (hBo : w0.heap.size ≤ Bo)
    {v : Value} (hv : Boxed W Bo 45 v) (hrow : W.ownsRow w0.heap.size 3 1 v pre.length (pre.map (Value.int .i64))) (hvt : ∀ p, v.ownBlock = some p → (V.tag p).1 = 0) {x : Int} {Wk Wl : World} (hWk : Wk = W.putObj (D + 1) (.loop (rec .busy none))) (hWl : Wl = Wk.alloc (.cells #[.int .i64 x] 3))
    {v' : Value} {w1 : World} (hown : w1.ownsRow w0.heap.size 3 1 v' (pre.length + 1) (pre.map (Value.int .i64) ++ [.int .i64 x])) (hgrow : Wl.grownBy w1 v.ownBlock)
    (hsz : ∀ p, v.ownBlock = some p → ∀ c el, Wl.heap[p]? = some (.cells c el (0, 0)) → ∃ c', w1.heap[p]? = some (.cells c' el (0, 0)) ∧ c'.size = c.size) (hblk : v'.ownBlock = v.ownBlock ∨ v'.ownBlock = some Wl.heap.size) :
    Boxed w1 Bo 45 v ∧ (w1.setCell ⟨Bo, 0, none⟩ v').heap[D + 1]? = some (.loop (rec .busy none)) ∧
      (Stp V W V ((w1.setCell ⟨Bo, 0, none⟩ v').putObj (D + 1) (.loop (rec .ready none))) ∧ Inv V noRoots σ ((w1.setCell ⟨Bo, 0, none⟩ v').putObj (D + 1) (.loop (rec .ready none))) ∧
        JAt V0 w0 D Bo rec V (pre ++ [x]) ((w1.setCell ⟨Bo, 0, none⟩ v').putObj (D + 1) (.loop (rec .ready none)))) := by
  have ltD := (Array.getElem?_eq_some_iff.1 hj.d).1
  have ltl := (Array.getElem?_eq_some_iff.1 hj.r).1
  have gk : W.grownBy Wk (some (D + 1)) := by rw [hWk]; exact grownBy_putObj' _ _ _
  have gl : Wk.grownBy Wl none := by rw [hWl]; exact World.grownBy_alloc _ _ _
  have hneB : Bo ≠ D + 1 := fun e => by have := hj.r; rw [← e, show W.heap[Bo]? = _ from hv] at this; cases this
  have hneD : Bo ≠ D := fun e => by have := hj.d; rw [← e, show W.heap[Bo]? = _ from hv] at this; cases this
  have hvk : Boxed Wk Bo 45 v := hv.kept gk (fun e => hneB (by cases e; rfl))
  have hrk : Wk.ownsRow w0.heap.size 3 1 v pre.length (pre.map (Value.int .i64)) := by rw [hWk]; exact ownsRow_putObj hrow _ hj.r rfl
  have hszk : w0.heap.size ≤ Wk.heap.size := Nat.le_trans hj.adv.size gk.size
  obtain ⟨b1, b2, b3, b4, -⟩ := hvk.appended (w1 := w1) (tmp := .cells #[.int .i64 x] 3) (by decide) hrk hszk hBo hown (by rw [← hWl]; exact hgrow)
  have hlk : Wk.heap[D + 1]? = some (.loop (rec .busy none)) := by rw [hWk]; exact World.putObj_heap_same ltl
  have hdk : Wk.heap[D]? = some (.deferred (some [])) := by rw [hWk]; exact (World.putObj_heap_other (by omega)).trans hj.d
  have hl3 := b4.same _ _ hlk rfl
  have hd3 := b4.same _ _ hdk rfl
  have g3 : w1.grownBy (w1.setCell ⟨Bo, 0, none⟩ v') (some Bo) := grownBy_setCell' _ _ _
  have g4 : (w1.setCell ⟨Bo, 0, none⟩ v').grownBy ((w1.setCell ⟨Bo, 0, none⟩ v').putObj (D + 1) (.loop (rec .ready none))) (some (D + 1)) := grownBy_putObj' _ _ _
  obtain ⟨a1, i1, s1⟩ := step0 hj.adv hi hB gk (fun p e => by
    simp only [Option.some.injEq] at e
    subst e
    exact ⟨by omega, hj.rt, fun c el h => by rw [hj.r] at h; cases h⟩)
  obtain ⟨a2, i2, s2⟩ := step0 a1 i1 hB gl (fun p e => by cases e)
  have hnew : (V.tag Wl.heap.size).1 = 0 := i2.tag_new (Nat.le_refl _)
  have hvt' : ∀ p, v'.ownBlock = some p → (V.tag p).1 = 0 := fun p e => by
    rcases hblk with h | h
    · exact hvt p (h.symm.trans e)
    · rw [h] at e; simp only [Option.some.injEq] at e; subst e; exact hnew
  obtain ⟨a3, i3, s3⟩ := step0 a2 i2 hB hgrow (fun p e => ⟨by
    rcases hrow.2 with ⟨rfl, -⟩ | ⟨g, cap, cur, rfl, hb, -⟩
    · simp [Value.ownBlock] at e
    · simp only [Value.ownBlock, Option.some.injEq] at e; omega, hvt p e, hsz p e⟩)
  obtain ⟨a4, i4, s4⟩ := step0 a3 i3 hB g3 (fun p e => by
    simp only [Option.some.injEq] at e
    subst e
    refine ⟨hBo, hj.bt, fun c el h => ?_⟩
    rw [show w1.heap[Bo]? = _ from b1] at h
    simp only [Option.some.injEq, Obj.cells.injEq] at h
    obtain ⟨rfl, rfl, -⟩ := h
    exact ⟨_, b2, rfl⟩)
  obtain ⟨a5, i5, s5⟩ := step0 a4 i4 hB g4 (fun p e => by
    simp only [Option.some.injEq] at e
    subst e
    exact ⟨by omega, hj.rt, fun c el h => by rw [hl3] at h; cases h⟩)
  refine ⟨b1, hl3, s1.trans (s2.trans (s3.trans (s4.trans s5))), i5, a5, ?_, hj.dt, ?_, hj.rt, hj.bt, v', ?_, ?_, hvt'⟩
  · exact (World.putObj_heap_other (by omega)).trans hd3
  · exact World.putObj_heap_same (Array.getElem?_eq_some_iff.1 hl3).1
  · exact b2.kept g4 (fun e => hneB (by cases e; rfl))
  · rw [List.length_append, List.map_append]
    exact ownsRow_putObj b3 _ hl3 rfl
theorem rows_ints {V : Vw} {W : World} {b : Nat} : ∀ {xs : List Int} {off : Nat}, (∀ i, i < xs.length → V.imm b (off + i)) → (∀ i x, xs[i]? = some x → W.cell? ⟨b, off + i, none⟩ = some (.int .i64 x)) → RowsRel V W 2 b 1 off (xs.map fun i => [.int .i64 i])
  | [], _, _, _ => by simp [RowsRel]
  | x :: xs, off, h1, h2 => by
    simp only [List.map_cons, RowsRel, RowRel, VRel, List.length_cons, List.length_nil, and_true]
    refine ⟨trivial, ⟨by simpa using h1 0 (by simp), _, by simpa using h2 0 x rfl, by simp [Value.oneCell'], rfl⟩, ?_⟩
    refine rows_ints (fun i hi => ?_) (fun i y hy => ?_)
    · have := h1 (i + 1) (by simpa using hi)
      rwa [show off + (i + 1) = off + 1 + i by omega] at this
    · have := h2 (i + 1) y (by simpa using hy)
      rwa [show off + (i + 1) = off + 1 + i by omega] at this
theorem own_final {V : Vw} {σ : Sto} {W : World} (ha : Adv V0 w0 V W) (hi : Inv V noRoots σ W) (hB : V.B ≤ w0.heap.size) {v : Value} {z : List Int} (hrow : W.ownsRow w0.heap.size 3 1 v z.length (z.map (Value.int .i64))) (hvt : ∀ p, v.ownBlock = some p → (V.tag p).1 = 0) (hz : 0 < z.length) :
    ∃ V', Adv V0 w0 V' W ∧ Inv V' noRoots σ W ∧ VRel V' W 1 (.slice false 0 1 (z.map fun i => [.int .i64 i])) v := by
  have hcell : ∀ g, v.ownBlock = some g → ∀ j u, (z.map (Value.int .i64))[j]? = some u → W.cell? ((⟨g, 0, none⟩ : Addr).add j) = some u := fun g hg => hrow.cells hg
  rcases hrow.2 with ⟨-, h0⟩ | ⟨g, cap, cur, rfl, hb, hgg, hnc, -⟩
  · omega
  · have hlt := (Array.getElem?_eq_some_iff.1 hgg).1
    obtain ⟨h1, h2⟩ := hi.take0 (p := g) (by omega) hlt (hvt g rfl)
    refine ⟨_, ha.more h1 ⟨fun _ => Nat.le_refl _, fun _ _ _ => rfl⟩ rfl rfl (fun b hb' ht => ?_) (fun _ _ _ => rfl) (Nat.le_refl _) rfl rfl rfl, h2, ?_⟩
    · show (upd V.tag g (1, 0) b).1 = 0
      simp only [upd]; rw [if_neg (by omega)]; exact ht
    · simp only [VRel, List.length_map]
      refine ⟨.inl (by omega), g, 0, cap, rfl, hnc, ⟨by omega, fun e => by omega, fun e => by omega⟩, ?_⟩
      refine rows_ints (fun i hi' => .inr ⟨by show V.B ≤ g; omega, .inl ?_⟩) (fun i x hx => ?_)
      · show (upd V.tag g (1, 0) g).1 = 1
        simp [upd]
      · have := hcell g rfl i (.int .i64 x) (by rw [List.getElem?_map, hx]; rfl)
        by_cases h0 : i = 0
        · subst h0; simpa [Addr.add] using this
        · simpa [Addr.add, h0] using this
set_option maxHeartbeats 1000000 in
theorem all_in (m : Nat) (p0 : Option Addr) (w : World) : CallsIn Fence.wide m Tryd.prog 41 #[.pointer p0] w fun e w' => e = .returned (.func (.func 54) #[] #[.pointer (some ⟨w.heap.size, 0, none⟩)]) ∧ w' = w.alloc (.cells #[.pointer p0] 22) := by
  refine callsIn_of_wp Tryd.func41 rfl trivial ?_ rfl
  simp only [Tryd.ntmps41, List.size_toArray, List.length_cons, List.length_nil, Nat.reduceAdd, Nat.reduceSub, Array.replicate_succ, Array.replicate_zero, List.push_toArray, List.append_toArray, List.nil_append, List.cons_append]
  gi_wp2
  go_ret
  exact ⟨rfl, rfl⟩
set_option maxHeartbeats 1000000 in
theorem all1_in (l m Bt : Nat) (p0 : Option Addr) (W : World) {R : World → Prop} (hB : W.cell? ⟨Bt, 0, none⟩ = some (.pointer p0))
    (hw : ∀ m, CallsIn Fence.wide m Tryd.prog 55 #[.pointer p0, .int .i64 1, .func (.yield l) #[] #[]] W fun e W' => e = .returned (.bool true) ∧ R W') :
    CallsIn Fence.wide m Tryd.prog 54 #[.func (.yield l) #[] #[], .pointer (some ⟨Bt, 0, none⟩)] W fun e W' => (∃ v, e = .returned v) ∧ R W' := by
  have hdd : ∀ k : Nat, (Fence.wide.depth.isSome = true → 1 ≤ k) := fun k h => by simp [Fence.wide] at h
  have hp := hw (m - 1)
  refine callsIn_of_wp Tryd.func54 rfl trivial ?_ rfl
  simp only [Tryd.ntmps54, List.size_toArray, List.length_cons, List.length_nil, Nat.reduceAdd, Nat.reduceSub, Array.replicate_succ, Array.replicate_zero, List.push_toArray, List.append_toArray, List.nil_append, List.cons_append]
  gi_wp2_with (refine ⟨trivial, hdd _, ?_⟩; refine hp.mono ?_; clear hp; rintro e W1 ⟨rfl, hR⟩)
  go_end0
  exact ⟨⟨_, rfl⟩, hR⟩
theorem Tryd.info3 : (Tryd.prog.info? 3).map (fun i => (i.zero, i.size, i.bytes)) = some (some (.int .i64 0), 1, 8) := by kernel_rfl
set_option maxRecDepth 100000 in
set_option maxHeartbeats 4000000 in
theorem list_in (hcs : ∀ f, ImpOk Tryd.prog Gl f (ciJ PR0 1000 f)) (td : DVal) (p0 : Option Addr) {V : Vw} {σ σ' : Sto} {w : World} {r : DVal} (hi : Inv V noRoots σ w) (hG : HasG Gl V.imm w) (ht : VRel V w 1 td (.pointer p0)) (hs : listB td σ = some (r, σ')) (m : Nat) :
    CallsIn Fence.wide m Tryd.prog 23 #[.pointer p0] w fun e w' => ∃ v V', e = .returned v ∧ Adv V w V' w' ∧ Inv V' noRoots σ' w' ∧ VRel V' w' 1 r v := by
  have hdd : ∀ k : Nat, (Fence.wide.depth.isSome = true → 1 ≤ k) := fun k h => by simp [Fence.wide] at h
  simp only [listB, Option.bind_eq_some_iff] at hs
  obtain ⟨y, hy, hs⟩ := hs
  have hmade : CallsIn Fence.wide (m - 1) Tryd.prog 30 #[.pointer p0] w fun e w' => ∃ b V', e = .returned (.bool b) ∧ y.1 = .bool b ∧ Adv V w V' w' ∧ Inv V' noRoots y.2 w' := by
    refine callsIn_wide.2 ((hcs 30 V σ y.2 w [td] [.pointer p0] y.1 hi hG ?_ hy).2.mono ?_)
    · simp only [VRels]
      exact ⟨_, _, rfl, ht, rfl⟩
    · rintro e w' ⟨v, V', rfl, ha, hi', hv⟩
      split at hs
      · rename_i hy1
        rw [hy1] at hv
        simp only [VRel] at hv
        exact ⟨false, V', by rw [hv], hy1, ha, hi'⟩
      · rename_i hy1
        rw [hy1] at hv
        simp only [VRel] at hv
        exact ⟨true, V', by rw [hv], hy1, ha, hi'⟩
      · cases hs
  refine callsIn_of_wp_marks Tryd.func23 rfl trivial ?_ rfl
  simp only [Tryd.ntmps23, List.size_toArray, List.length_cons, List.length_nil, Nat.reduceAdd, Nat.reduceSub, Array.replicate_succ, Array.replicate_zero, List.push_toArray, List.append_toArray, List.nil_append, List.cons_append]
  gi_wp2_with (refine ⟨trivial, hdd _, ?_⟩; refine hmade.mono ?_; clear hmade; rintro e w1 ⟨b, V1, rfl, hb, ha1, hi1⟩; cases b)
  · rw [hb] at hs
    simp only [Option.some.injEq, Prod.mk.injEq] at hs
    obtain ⟨rfl, rfl⟩ := hs
    exact ⟨_, results_tmp rfl _ _ _, _, V1, rfl, ha1, hi1, by simp [VRel]⟩
  · rw [hb] at hs
    simp only [Option.bind_eq_some_iff] at hs
    obtain ⟨z, hz, hs⟩ := hs
    split at hs
    · rename_i hzl
      simp only [Option.some.injEq, Prod.mk.injEq] at hs
      obtain ⟨rfl, rfl⟩ := hs
      refine ⟨trivial, hdd _, ?_⟩
      refine (all_in (m - 1) p0 _).mono ?_
      rintro e w2 ⟨rfl, rfl⟩
      gi_wp2
      -- the variable's box, the box of the receiver
      obtain ⟨wo, hwo⟩ : ∃ wo, w1.alloc (.cells #[.slice none 0 0] 45) = wo := ⟨_, rfl⟩
      obtain ⟨wb, hwb⟩ : ∃ wb, wo.alloc (.cells #[.pointer p0] 22) = wb := ⟨_, rfl⟩
      have hno : wo.heap.size = w1.heap.size + 1 := by rw [← hwo]; simp
      have hnb : wb.heap.size = w1.heap.size + 2 := by rw [← hwb]; simp [hno]
      have bo : Boxed wo w1.heap.size 45 (.slice none 0 0) := by rw [← hwo]; exact Boxed.new _ _ _
      have bb : Boxed wb (w1.heap.size + 1) 22 (.pointer p0) := by rw [← hwb, ← hno]; exact Boxed.new _ _ _
      have bo2 : Boxed wb w1.heap.size 45 (.slice none 0 0) := by rw [← hwb]; exact bo.alloc _
      rw [hwo, hwb]
      have go : w1.grownBy wo none := by rw [← hwo]; exact World.grownBy_alloc _ _ _
      have gb : wo.grownBy wb none := by rw [← hwb]; exact World.grownBy_alloc _ _ _
      obtain ⟨so, hio⟩ := hi1.grown0 go (fun p e => by cases e)
      obtain ⟨sb, hib⟩ := hio.grown0 gb (fun p e => by cases e)
      have hab := (ha1.grown0 so go (fun p e => by cases e)).grown0 sb gb (fun p e => by cases e)
      obtain ⟨i0, hi3, hz0, hz1, hz2⟩ := info_parts Tryd.info3
      have hBw : V1.B ≤ w.heap.size := by rw [ha1.B]; exact hi.hB
      refine wpIn_range_own rfl (hdd m) (gf := 54) (lb := #[.pointer (some ⟨w1.heap.size + 1, 0, none⟩)]) rfl trivial (enters_of Tryd.func54 (by kernel_rfl) rfl) ?_
      intro fn hfn rec W1 hrec hW1
      obtain ⟨wd, hwd⟩ : ∃ wd, wb.alloc (.deferred (some [])) = wd := ⟨_, rfl⟩
      rw [hwd] at hW1
      have gd : wb.grownBy wd none := by rw [← hwd]; exact World.grownBy_alloc _ _ _
      have g1 : wd.grownBy W1 none := by rw [← hW1]; exact World.grownBy_alloc _ _ _
      have hnd : wd.heap.size = wb.heap.size + 1 := by rw [← hwd]; simp
      obtain ⟨ad, hid, sd⟩ := step0 hab hib hBw gd (fun p e => by cases e)
      obtain ⟨aW, hiW, sW⟩ := step0 ad hid hBw g1 (fun p e => by cases e)
      have hle := ha1.size
      have hj1 : JAt V w wb.heap.size w1.heap.size rec V1 [] W1 := by
        refine ⟨aW, ?_, hib.tag_new (Nat.le_refl _), ?_, hib.tag_new (Nat.le_succ _), hi1.tag_new (Nat.le_refl _), .slice none 0 0, ?_, World.ownsRow_nil _ _ _ _, fun p hp => by simp [Value.ownBlock] at hp⟩
        · rw [← hW1]
          refine (old_alloc _ _ _ (by omega)).trans ?_
          rw [← hwd]; exact World.alloc_heap_new wb _
        · rw [← hW1, ← hnd]; exact World.alloc_heap_new wd _
        · rw [← hW1, ← hwd]; exact (bo2.alloc _).alloc _
      have hcellB : W1.cell? ⟨w1.heap.size + 1, 0, none⟩ = some (.pointer p0) := by
        rw [← hW1, ← hwd]; exact ((bb.alloc _).alloc _).cell
      have hG1 : HasG Gl V1.imm W1 := hG.stp aW.stp
      have ht1 : VRel V1 W1 1 td (.pointer p0) := VRel.ext aW.stp.ei td 1 _ (fun _ => aW.stp.er) (fun e => by omega) ht
      refine (all1_in (wb.heap.size + 1) (m - 1) (w1.heap.size + 1) p0 W1 (R := fun W' => ∃ V', Inv V' noRoots z.2 W' ∧ JAt V w wb.heap.size w1.heap.size rec V' z.1 W') hcellB (fun m' => ?_)).mono ?_
      · refine (walkOver (hcs 21) (wb.heap.size + 1) z.1.length (JAt V w wb.heap.size w1.heap.size rec) (fun _ _ _ _ _ hj ha => hj.later ha) ?_ td 1000 1 y.2 z m' (.pointer p0) V1 W1 [] hz hiW hG1 ht1 hj1 (by simp)).mono ?_
        · intro m2 V2 σ2 pre x W hj hi2 hG2 hlt
          have hBw2 : V2.B ≤ w.heap.size := by rw [hj.adv.B]; exact hi.hB
          obtain ⟨v, hv, hrow, hvt⟩ := hj.own
          obtain ⟨Wk, hWk⟩ : ∃ Wk, Wk = W.putObj (wb.heap.size + 1) (.loop (rec .busy none)) := ⟨_, rfl⟩
          have hvk : Boxed Wk w1.heap.size 45 v := by rw [hWk]; exact hv.kept (grownBy_putObj' _ _ _) (fun e => by simp only [Option.some.injEq] at e; omega)
          have hrk : Wk.ownsRow w.heap.size 3 1 v pre.length (pre.map (Value.int .i64)) := by rw [hWk]; exact ownsRow_putObj hrow _ hj.r rfl
          have hkz : w.heap.size ≤ Wk.heap.size := by rw [hWk]; exact Nat.le_trans hj.adv.size (grownBy_putObj' _ _ _).size
          obtain ⟨Wl, hWl⟩ : ∃ Wl, Wl = Wk.alloc (.cells #[.int .i64 x] 3) := ⟨_, rfl⟩
          have hrnd := fun (v' : Value) (w1' : World) h1 h2 h3 h4 => hj.round (v' := v') (w1 := w1') hi2 hBw2 (by omega) hle hv hrow hvt hWk hWl h1 h2 h3 h4
          have hr0 := hj.r
          refine yield_own hrec hfn hr0 rfl ?_
          have hc := hvk.cell
          rw [hWl] at hrnd
          clear hrec hnb hno hnd hwo hwb hwd hWl hW1
          gi_wp2
          refine ⟨hr0, ?_⟩
          rw [← hWk]
          clear hWk
          have hnews : (Wk.alloc (.cells #[.int .i64 x] 3)).cell? ⟨Wk.heap.size, 0, none⟩ = some (.int .i64 x) := (Boxed.new Wk 3 (.int .i64 x)).cell
          have hzm := hzl.2
          gi_wp2_with (gi_at_builtin; refine wpListIn_append_one _ rfl _ _ 45 rfl w.heap.size 3 i0 (.int .i64 0) 8 Tryd.underlying45 hi3 hz0 hz1 hz2 rfl v pre.length (pre.map (Value.int .i64)) rfl (hrk.alloc _) ⟨Wk.heap.size, 0, none⟩ 1 (.int .i64 x) rfl hnews (by simp [Value.oneCell']) (by simp only [maxLen]; omega) (by omega) (by simp; omega) ?_; intro v' w3 hown' hgrow hsz hblk; obtain ⟨hv1, hfin⟩ := hrnd v' w3 hown' hgrow hsz hblk; obtain ⟨g', cap', rfl⟩ := ownsRow_succ hown'; have hc1 := hv1.cell; have hf1 := hv1.frozen)
          exact ⟨V2, hfin.2⟩
        · rintro e W2 ⟨rfl, V2, -, hi2, hj2⟩
          exact ⟨rfl, V2, hi2, by simpa using hj2⟩
      · rintro e W ⟨hr, V2, hi2, hj2⟩
        refine ⟨hr, hj2.r, ?_⟩
        obtain ⟨v, hv, hrow, hvt⟩ := hj2.own
        have hBw2 : V2.B ≤ w.heap.size := by rw [hj2.adv.B]; exact hi.hB
        obtain ⟨WE, hWE⟩ : ∃ WE, W.putObj (wb.heap.size + 1) (.loop (rec .exhausted none)) = WE := ⟨_, rfl⟩
        have gE : W.grownBy WE (some (wb.heap.size + 1)) := by rw [← hWE]; exact grownBy_putObj' _ _ _
        have hvE : Boxed WE w1.heap.size 45 v := hv.kept gE (fun e => by simp only [Option.some.injEq] at e; omega)
        have hrE : WE.ownsRow w.heap.size 3 1 v z.1.length (z.1.map (Value.int .i64)) := by rw [← hWE]; exact ownsRow_putObj hrow _ hj2.r rfl
        have hdE : WE.heap[wb.heap.size]? = some (.deferred (some [])) := by rw [← hWE]; exact (World.putObj_heap_other (by omega)).trans hj2.d
        obtain ⟨aE, iE, -⟩ := step0 hj2.adv hi2 hBw2 gE (fun p e => by
          simp only [Option.some.injEq] at e
          subst e
          exact ⟨by omega, hj2.rt, fun c el h => by rw [hj2.r] at h; cases h⟩)
        obtain ⟨WF, hWF⟩ : ∃ WF, WE.putObj wb.heap.size (.deferred none) = WF := ⟨_, rfl⟩
        have gF : WE.grownBy WF (some wb.heap.size) := by rw [← hWF]; exact grownBy_putObj' _ _ _
        have hrF : WF.ownsRow w.heap.size 3 1 v z.1.length (z.1.map (Value.int .i64)) := by rw [← hWF]; exact ownsRow_putObj hrE _ hdE rfl
        obtain ⟨aF, iF, -⟩ := step0 aE iE hBw2 gF (fun p e => by
          simp only [Option.some.injEq] at e
          subst e
          exact ⟨by omega, hj2.dt, fun c el h => by rw [hdE] at h; cases h⟩)
        obtain ⟨V9, a9, i9, v9⟩ := own_final aF iF hBw2 hrF hvt hzl.1
        have htd := run_takeDeferred (P := Tryd.prog) hdE
        rw [hWF] at htd
        rw [hWE]
        have hc := hvE.cell
        clear hrec hnb hno hnd hwo hwb hwd hWE hW1 hWF
        gi_wp2
        refine ⟨by simp, .inl ⟨_, _, rfl, htd, ?_⟩⟩
        refine ⟨_, results_tmp rfl _ _ _, _, V9, rfl, a9, i9, ?_⟩
        exact v9
    · cases hs
set_option maxRecDepth 100000 in
set_option maxHeartbeats 4000000 in
theorem copy_none (hcs : ∀ f, ImpOk Tryd.prog Gl f (ciJ PR0 1000 f)) (td : DVal) (p0 : Option Addr) {V : Vw} {σ σ' : Sto} {w : World} (hi : Inv V noRoots σ w) (hG : HasG Gl V.imm w) (ht : VRel V w 1 td (.pointer p0)) (hs : ciJ PR0 1000 30 [td] σ = some (.bool false, σ')) (m : Nat) :
    CallsIn Fence.wide m Tryd.prog 27 #[.pointer p0] w fun e w' => ∃ v V', e = .returned v ∧ Adv V w V' w' ∧ Inv V' noRoots σ' w' ∧ VRel V' w' 1 .nilp v := by
  have hdd : ∀ k : Nat, (Fence.wide.depth.isSome = true → 1 ≤ k) := fun k h => by simp [Fence.wide] at h
  have hmade : CallsIn Fence.wide (m - 1) Tryd.prog 30 #[.pointer p0] w fun e w' => ∃ V', e = .returned (.bool false) ∧ Adv V w V' w' ∧ Inv V' noRoots σ' w' := by
    refine callsIn_wide.2 ((hcs 30 V σ σ' w [td] [.pointer p0] _ hi hG ?_ hs).2.mono ?_)
    · simp only [VRels]
      exact ⟨_, _, rfl, ht, rfl⟩
    · rintro e w' ⟨v, V', rfl, ha, hi', hv⟩
      simp only [VRel] at hv
      exact ⟨V', by rw [hv], ha, hi'⟩
  refine callsIn_of_wp Tryd.func27 rfl trivial ?_ rfl
  simp only [Tryd.ntmps27, List.size_toArray, List.length_cons, List.length_nil, Nat.reduceAdd, Nat.reduceSub, Array.replicate_succ, Array.replicate_zero, List.push_toArray, List.append_toArray, List.nil_append, List.cons_append]
  gi_wp2_with (refine ⟨trivial, hdd _, ?_⟩; refine hmade.mono ?_; clear hmade; rintro e w1 ⟨V1, rfl, ha1, hi1⟩)
  go_ret
  exact ⟨_, V1, rfl, ha1, hi1, by simp [VRel]⟩
end
end Go.Proofs.YtklepphkbbjbjaaDoor
namespace Go.Proofs.YtklepphkbbjbjaaDoor
set_option linter.unusedVariables false
set_option linter.unusedSimpArgs false
open Go Go.RowKit Go.Shelf
attribute [local go_sem] Oper.semAt_some
theorem lays45 : SlLaysW.n5 Tryd.prog ⟨fun | 5 => 45 | 7 => 57 | n => n, fun | 4 => 4 | 20 => 20 | 23 => 59 | 25 => 3 | 3 => 67 | n => n, fun n => n⟩ where
  mixed := by kernel_rfl
  f5 := ⟨"maps.Clone[map[int]accesscontrol/objects.node,int,accesscontrol/objects.node]", by decide, Tryd.func45.trans (congrArg some (by kernel_rfl))⟩
  f7 := Tryd.func57.trans (congrArg some (by kernel_rfl))
  t4 := Tryd.underlying4
  a4 := Tryd.isAgg4
  z4 := Tryd.sizeOf4
  v4 := Tryd.zeroValue4
  t20 := Tryd.underlying20
  a20 := Tryd.isAgg20
  z20 := Tryd.sizeOf20
  v20 := Tryd.zeroValue20
  t23 := Tryd.underlying59
  a23 := Tryd.isAgg59
  z23 := Tryd.sizeOf59
  v23 := Tryd.zeroValue59
theorem lays46 : SlLaysW.n5 Tryd.prog ⟨fun | 5 => 46 | 7 => 57 | n => n, fun | 4 => 4 | 20 => 20 | 23 => 68 | 25 => 9 | 3 => 3 | n => n, fun n => n⟩ where
  mixed := by kernel_rfl
  f5 := ⟨"maps.Clone[map[string]int,string,int]", by decide, Tryd.func46.trans (congrArg some (by kernel_rfl))⟩
  f7 := Tryd.func57.trans (congrArg some (by kernel_rfl))
  t4 := Tryd.underlying4
  a4 := Tryd.isAgg4
  z4 := Tryd.sizeOf4
  v4 := Tryd.zeroValue4
  t20 := Tryd.underlying20
  a20 := Tryd.isAgg20
  z20 := Tryd.sizeOf20
  v20 := Tryd.zeroValue20
  t23 := Tryd.underlying68
  a23 := Tryd.isAgg68
  z23 := Tryd.sizeOf68
  v23 := Tryd.zeroValue68
theorem clone45 (b : Nat) (es : Array MapEntry) (clock : Nat) (w : World) (hb : w.heap[b]? = some (.map es clock)) (m : Nat) :
    CallsIn Fence.wide m Tryd.prog 45 #[.map (some b)] w fun e w' => e = .returned (.map (some w.heap.size)) ∧ w' = w.alloc (.map es clock) := callsIn_wide.2 (AnyW.maps_Clone lays45 b es clock w hb)
theorem clone46 (b : Nat) (es : Array MapEntry) (clock : Nat) (w : World) (hb : w.heap[b]? = some (.map es clock)) (m : Nat) :
    CallsIn Fence.wide m Tryd.prog 46 #[.map (some b)] w fun e w' => e = .returned (.map (some w.heap.size)) ∧ w' = w.alloc (.map es clock) := callsIn_wide.2 (AnyW.maps_Clone lays46 b es clock w hb)
theorem run_mk (P : Program) (t : TypeId) (w : World) : (Instr.makeMap t none).run P w = .ok (.map (some w.heap.size)) (w.alloc (.map #[] 0)) := by
  simp [Instr.makeMap, Result.andThen]
attribute [local go_sem] run_mk
theorem run_mu (W : World) (mm b' : Nat) (vis : List (Int × Nat × Nat)) (ents : Array MapEntry) (cl : Nat) (k : Int) (hm : W.heap[mm]? = some (.map ents cl))
    (he : ents.toList.map (fun m => (m.key, m.val)) = vis.map fun p => (.int .i64 p.1, .map (some p.2.2))) (hst : MapKept.Stamped ents cl) (hk : ∀ p ∈ vis, p.1 ≠ k) :
    (Instr.mapUpdate 60 (.map (some mm)) (.int .i64 k) (.map (some b'))).run Tryd.prog W = .ok () { W with heap := W.heap.setIfInBounds mm (.map (ents.push { key := .int .i64 k, val := .map (some b'), born := cl }) (cl + 1)) } := by
  obtain ⟨N, hN⟩ : ∃ N : Nat, ∀ p ∈ vis, p.2.2 < N := by
    clear he hk
    induction vis with
    | nil => exact ⟨0, by simp⟩
    | cons q r ih =>
      obtain ⟨N, hN⟩ := ih
      refine ⟨N + q.2.2 + 1, fun p hp => ?_⟩
      rcases List.mem_cons.1 hp with rfl | hp
      · omega
      · have := hN p hp; omega
  let V : Vw := { B := 0, I0 := fun _ _ => False, tag := fun _ => (0, 0), lam := id, phi := id, tb := id, ep := fun _ => 0, nobj := N, ntok := 0, fr := fun _ => 0 }
  have hE : ∀ (vis : List (Int × Nat × Nat)) (l : List MapEntry), (∀ p ∈ vis, p.2.2 < N) → l.map (fun m => (m.key, m.val)) = vis.map (fun p => (.int .i64 p.1, .map (some p.2.2))) → ERels V W (vis.map fun p => .tup [.int .i64 p.1, .map p.2.2]) l := by
    intro vis
    induction vis with
    | nil => intro l _ h; simp only [List.map_nil, List.map_eq_nil_iff] at h; subst h; unfold ERels; rfl
    | cons q r ih =>
      intro l h0 h
      cases l with
      | nil => simp at h
      | cons e l =>
        simp only [List.map_cons, List.cons.injEq, Prod.mk.injEq] at h
        unfold ERels
        refine ⟨e, l, rfl, rfl, ?_, ?_, ih l (fun p hp => h0 p (by simp [hp])) h.2⟩
        · simp only [VRel]; exact h.1.1
        · simp only [VRel]; exact ⟨by omega, h0 q (by simp), h.1.2⟩
  have hkk : keyKinds Tryd.prog 60 = some (3, 68, [.i .i64]) := by kernel_rfl
  obtain ⟨hu, hks⟩ := keyKinds_inv hkk
  have hag : aggB Tryd.prog 3 = false := by kernel_rfl
  obtain ⟨c1, c2⟩ := key_use (P := Tryd.prog) (V := V) (w := W) hks (k := .int .i64 k) (v := .int .i64 k) (by simp only [VRel]) (by rw [hag]; exact key_I k)
  rw [hag] at c2
  have hf := findK_I (fun p : Int × Nat × Nat => p.1) (fun p => .map p.2.2) k vis
  rw [firstAt_no (fun x hx => by have := hk x hx; simp; exact fun e => this e.symm)] at hf
  obtain ⟨r', f1, f2⟩ := c2 (.refl _) (hE vis ents.toList hN he) hst hf
  rcases f2 with ⟨-, rfl, -⟩ | ⟨i', j, q, D, m, h, -⟩
  · simp [Instr.mapUpdate, run_underlying hu, MapKept.run_getObj_map hm, c1, f1, MapKept.run_setObj_map _ hm, Result.andThen]
  · cases h
structure CpAt (V : Vw) (σ : Sto) (w0 : World) (bc mm bx : Nat) (ms : Array MapEntry) (clock : Nat) (nx : Int) (W : World) : Prop where
  adv : Adv V w0 V W
  inv : Inv V noRoots σ W
  old : ∀ b, b < w0.heap.size → W.heap[b]? = w0.heap[b]?
  lc : w0.heap.size ≤ bc
  lm : w0.heap.size ≤ mm
  lx : w0.heap.size ≤ bx
  cm : bc ≠ mm
  cx : bc ≠ bx
  mx : mm ≠ bx
  hc : W.heap[bc]? = some (.map ms clock)
  hx : W.heap[bx]? = some (.cells #[.map (some bc), .map (some mm), .int .i64 nx] 62)
theorem CpAt.step {V : Vw} {σ : Sto} {w0 W W' : World} {bc mm bx clock : Nat} {ms : Array MapEntry} {nx : Int} (h : CpAt V σ w0 bc mm bx ms clock nx W) (h0 : Inv V noRoots σ w0) {row : Option Nat} (hg : W.grownBy W' row)
    (hrow : ∀ p, row = some p → w0.heap.size ≤ p ∧ p ≠ bc ∧ p ≠ bx ∧ ∀ c el, W.heap[p]? ≠ some (.cells c el (0, 0))) : CpAt V σ w0 bc mm bx ms clock nx W' := by
  obtain ⟨a1, i1, -⟩ := step0 h.adv h.inv h0.hB hg (fun p e => ⟨(hrow p e).1, h0.tag_new (hrow p e).1, fun c el hc => absurd hc ((hrow p e).2.2.2 c el)⟩)
  exact { h with
    adv := a1
    inv := i1
    old := fun b hb => (hg.block b (Nat.lt_of_lt_of_le hb h.adv.size) (fun e => by have := (hrow b e.symm).1; omega)).trans (h.old b hb)
    hc := (hg.block bc (Array.getElem?_eq_some_iff.1 h.hc).1 (fun e => (hrow bc e.symm).2.1 rfl)).trans h.hc
    hx := (hg.block bx (Array.getElem?_eq_some_iff.1 h.hx).1 (fun e => (hrow bx e.symm).2.2.1 rfl)).trans h.hx }
theorem CpAt.start {V : Vw} {σ : Sto} {w0 W : World} {bc mm clock : Nat} {ms : Array MapEntry} {nx : Int} (h0 : Inv V noRoots σ w0) (ho : W.os = w0.os) (htp : W.tape = w0.tape) (hop : W.output = w0.output)
    (hb : (bc = w0.heap.size ∧ mm = w0.heap.size + 1 ∧ W.heap = ((w0.heap.push (.map ms clock)).push (.map #[] 0)).push (.cells #[.map (some bc), .map (some mm), .int .i64 nx] 62)) ∨
      (bc = w0.heap.size + 1 ∧ mm = w0.heap.size ∧ W.heap = ((w0.heap.push (.map #[] 0)).push (.map ms clock)).push (.cells #[.map (some bc), .map (some mm), .int .i64 nx] 62))) :
    CpAt V σ w0 bc mm (w0.heap.size + 1 + 1) ms clock nx W ∧ W.heap[mm]? = some (.map #[] 0) := by
  have hsz : W.heap.size = w0.heap.size + 3 := by rcases hb with ⟨-, -, h⟩ | ⟨-, -, h⟩ <;> rw [h] <;> simp
  have hold : ∀ b, b < w0.heap.size → W.heap[b]? = w0.heap[b]? := fun b hlt => by
    rcases hb with ⟨-, -, h⟩ | ⟨-, -, h⟩ <;>
    · rw [h, Array.getElem?_push, if_neg (by simp; omega), Array.getElem?_push, if_neg (by simp; omega), Array.getElem?_push, if_neg (by omega)]
  have hg : w0.grownBy W none := ⟨ho, htp, hop, by omega, fun k hk _ => hold k hk⟩
  obtain ⟨a1, i1, -⟩ := step0 (.refl V w0) h0 h0.hB hg (fun p e => by cases e)
  have hx : W.heap[w0.heap.size + 2]? = some (.cells #[.map (some bc), .map (some mm), .int .i64 nx] 62) := by
    rcases hb with ⟨-, -, h⟩ | ⟨-, -, h⟩ <;>
    · rw [h, Array.getElem?_push, if_pos (by simp)]
  have h1 : W.heap[w0.heap.size + 1]? = if mm = w0.heap.size then some (.map ms clock) else some (.map #[] 0) := by
    rcases hb with ⟨-, e, h⟩ | ⟨-, e, h⟩
    · rw [h, Array.getElem?_push, if_neg (by simp), Array.getElem?_push, if_pos (by simp), if_neg (by omega)]
    · rw [h, Array.getElem?_push, if_neg (by simp), Array.getElem?_push, if_pos (by simp), if_pos e]
  have h2 : W.heap[w0.heap.size]? = if mm = w0.heap.size then some (.map #[] 0) else some (.map ms clock) := by
    rcases hb with ⟨-, e, h⟩ | ⟨-, e, h⟩
    · rw [h, Array.getElem?_push, if_neg (by simp; omega), Array.getElem?_push, if_neg (by simp), Array.getElem?_push, if_pos rfl, if_neg (by omega)]
    · rw [h, Array.getElem?_push, if_neg (by simp; omega), Array.getElem?_push, if_neg (by simp), Array.getElem?_push, if_pos rfl, if_pos e]
  rcases hb with ⟨e1, e2, -⟩ | ⟨e1, e2, -⟩
  · rw [if_neg (by omega)] at h1 h2
    exact ⟨⟨a1, i1, hold, by omega, by omega, by omega, by omega, by omega, by omega, by rw [e1]; exact h2, hx⟩, by rw [e2]; exact h1⟩
  · rw [if_pos e2] at h1 h2
    exact ⟨⟨a1, i1, hold, by omega, by omega, by omega, by omega, by omega, by omega, by rw [e1]; exact h1, hx⟩, by rw [e2]; exact h2⟩
structure VisAt (w0 W : World) (bc mm bx it : Nat) (msD left : List MapEntry) (vis : List (Int × Nat × Nat)) (ents : Array MapEntry) (cl : Nat) : Prop where
  hm : W.heap[mm]? = some (.map ents cl)
  st : MapKept.Stamped ents cl
  he : ents.toList.map (fun m => (m.key, m.val)) = vis.map fun p => (.int .i64 p.1, .map (some p.2.2))
  perm : (vis.map (fun p => ((.int .i64 p.1 : Value), (.map (some p.2.1) : Value))) ++ left.map fun m => (m.key, m.val)).Perm (msD.map fun m => (m.key, m.val))
  blk : ∀ p ∈ vis, w0.heap.size ≤ p.2.2 ∧ p.2.2 ≠ bc ∧ p.2.2 ≠ mm ∧ p.2.2 ≠ bx ∧ p.2.2 ≠ it ∧ ∃ ms clock, w0.heap[p.2.1]? = some (.map ms clock) ∧ W.heap[p.2.2]? = some (.map ms clock)
  nd : (vis.map fun p => p.2.2).Nodup
structure LpAt (V : Vw) (σ : Sto) (w0 : World) (bc mm bx it bd : Nat) (ms msD : Array MapEntry) (clock clockD : Nat) (nx : Int) (W : World) (seen : Array Nat) (vis : List (Int × Nat × Nat)) (ents : Array MapEntry) (cl : Nat) : Prop where
  cp : CpAt V σ w0 bc mm bx ms clock nx W
  li : w0.heap.size ≤ it
  ic : it ≠ bc
  im : it ≠ mm
  ix : it ≠ bx
  hit : W.heap[it]? = some (.mapIter (some bd) clockD seen clockD)
  vis : VisAt w0 W bc mm bx it msD.toList (leftOf msD seen).toList vis ents cl
section
variable {V : Vw} {σ : Sto} {w0 W : World} {bc mm bx it bd clock clockD : Nat} {ms msD : Array MapEntry} {nx : Int}
theorem LpAt.start (hc : CpAt V σ w0 bc mm bx ms clock nx W) (h0 : Inv V noRoots σ w0) (hm : W.heap[mm]? = some (.map #[] 0)) :
    LpAt V σ w0 bc mm bx W.heap.size bd ms msD clock clockD nx (W.alloc (.mapIter (some bd) clockD #[] clockD)) #[] [] #[] 0 := by
  have l1 := (Array.getElem?_eq_some_iff.1 hc.hc).1
  have l2 := (Array.getElem?_eq_some_iff.1 hm).1
  have l3 := (Array.getElem?_eq_some_iff.1 hc.hx).1
  refine ⟨hc.step h0 (World.grownBy_alloc _ _ none) (fun p e => by cases e), hc.adv.size, by omega, by omega, by omega, World.alloc_heap_new W _, ?_⟩
  exact ⟨(old_alloc _ _ _ l2).trans hm, MapKept.stamped_empty 0, rfl, by simp only [leftOf, List.map_nil, List.nil_append, Array.toList_filter]; rw [List.filter_eq_self.2 (by simp)], by simp, by simp⟩
theorem VisAt.mono {W' : World} {msD left : List MapEntry} {vis : List (Int × Nat × Nat)} {ents : Array MapEntry} {cl : Nat} (h : VisAt w0 W bc mm bx it msD left vis ents cl) (hh : ∀ p, p ≠ it → p < W.heap.size → W'.heap[p]? = W.heap[p]?) (hmi : mm ≠ it) :
    VisAt w0 W' bc mm bx it msD left vis ents cl := by
  refine { h with hm := (hh mm hmi (Array.getElem?_eq_some_iff.1 h.hm).1).trans h.hm, blk := fun p hp => ?_ }
  obtain ⟨a1, a2, a3, a4, a5, m, c, a6, a7⟩ := h.blk p hp
  exact ⟨a1, a2, a3, a4, a5, m, c, a6, (hh _ a5 (Array.getElem?_eq_some_iff.1 a7).1).trans a7⟩
theorem LpAt.same {W' : World} {seen : Array Nat} {vis : List (Int × Nat × Nat)} {ents : Array MapEntry} {cl : Nat} (h : LpAt V σ w0 bc mm bx it bd ms msD clock clockD nx W seen vis ents cl) (h0 : Inv V noRoots σ w0)
    (hh : W'.heap = W.heap) (ho : W'.os = W.os) (ht : W'.tape = W.tape) (hp : W'.output = W.output) : LpAt V σ w0 bc mm bx it bd ms msD clock clockD nx W' seen vis ents cl :=
  { h with
    cp := h.cp.step h0 (row := none) ⟨ho, ht, hp, by rw [hh]; exact Nat.le_refl _, fun k _ _ => by rw [hh]⟩ (fun p e => by cases e)
    hit := by rw [hh]; exact h.hit
    vis := h.vis.mono (fun p _ _ => by rw [hh]) h.im.symm }
theorem LpAt.left {seen : Array Nat} {vis : List (Int × Nat × Nat)} {ents : Array MapEntry} {cl : Nat} (h : LpAt V σ w0 bc mm bx it bd ms msD clock clockD nx W seen vis ents cl) (hd : w0.heap[bd]? = some (.map msD clockD)) :
    W.rangeLeft bd it = (leftOf msD seen).size := by
  have := (h.cp.old bd (Array.getElem?_eq_some_iff.1 hd).1).trans hd
  simp only [World.rangeLeft, this, h.hit]
theorem erase_perm {α : Type} : ∀ {l : List α} {i : Nat} {e : α}, l[i]? = some e → l.Perm (e :: l.eraseIdx i)
  | [], i, e, h => by simp at h
  | x :: l, 0, e, h => by
    simp only [List.getElem?_cons_zero, Option.some.injEq] at h
    subst h
    exact .refl _
  | x :: l, i + 1, e, h => by
    simp only [List.getElem?_cons_succ] at h
    exact ((erase_perm h).cons x).trans (.swap ..)
theorem LpAt.turn {seen : Array Nat} {vis : List (Int × Nat × Nat)} {ents : Array MapEntry} {cl : Nat} (h : LpAt V σ w0 bc mm bx it bd ms msD clock clockD nx W seen vis ents cl) (h0 : Inv V noRoots σ w0) (hst : MapKept.Stamped msD clockD)
    (hd : w0.heap[bd]? = some (.map msD clockD)) {e : MapEntry} (he : e ∈ (leftOf msD seen).toList) {k : Int} {bs clI : Nat} {msI : Array MapEntry} (hk : e.key = .int .i64 k) (hv : e.val = .map (some bs)) (hbs : w0.heap[bs]? = some (.map msI clI))
    {w1 W1 : World} (hw1 : w1 = W ∨ w1 = W.drew) (hW1 : W1 = ChangeMaps.setBlock w1 it (.mapIter (some bd) clockD (seen.push e.born) clockD)) :
    W1.heap[it]? = some (.mapIter (some bd) clockD (seen.push e.born) clockD) ∧ W1.heap[bd]? = some (.map msD clockD) ∧ W1.heap[bs]? = some (.map msI clI) ∧ W1.cell? ⟨bx, 1, none⟩ = some (.map (some mm)) ∧ bx < W1.heap.size ∧
    (∀ W2 : World, W2.heap = (W1.alloc (.map msI clI)).heap → (Instr.mapUpdate 60 (.map (some mm)) (.int .i64 k) (.map (some W1.heap.size))).run Tryd.prog W2 =
      .ok () { W2 with heap := W2.heap.setIfInBounds mm (.map (ents.push { key := .int .i64 k, val := .map (some W1.heap.size), born := cl }) (cl + 1)) }) ∧
    LpAt V σ w0 bc mm bx it bd ms msD clock clockD nx { W1.alloc (.map msI clI) with heap := (W1.alloc (.map msI clI)).heap.setIfInBounds mm (.map (ents.push { key := .int .i64 k, val := .map (some W1.heap.size), born := cl }) (cl + 1)) }
      (seen.push e.born) (vis ++ [(k, bs, W1.heap.size)]) (ents.push { key := .int .i64 k, val := .map (some W1.heap.size), born := cl }) (cl + 1) ∧
    (leftOf msD (seen.push e.born)).size < (leftOf msD seen).size := by
  have hw : w1.heap = W.heap ∧ w1.os = W.os ∧ w1.tape = W.tape ∧ w1.output = W.output := by
    rcases hw1 with rfl | rfl <;> exact ⟨rfl, rfl, rfl, rfl⟩
  have lit := (Array.getElem?_eq_some_iff.1 h.hit).1
  have hheap : W1.heap = W.heap.setIfInBounds it (.mapIter (some bd) clockD (seen.push e.born) clockD) := by rw [hW1]; simp [ChangeMaps.setBlock, hw.1]
  have hother : ∀ p, p ≠ it → W1.heap[p]? = W.heap[p]? := fun p hp => by rw [hheap, Array.getElem?_setIfInBounds, if_neg (fun e => hp e.symm)]
  have hsz1 : W1.heap.size = W.heap.size := by rw [hheap]; simp
  have hos1 : W1.os = W.os ∧ W1.tape = W.tape ∧ W1.output = W.output := by rw [hW1]; exact hw.2
  have g1 : W.grownBy W1 (some it) := ⟨hos1.1, hos1.2.1, hos1.2.2, by omega, fun p _ hp => hother p (fun e => hp (by rw [e]))⟩
  have cp1 := h.cp.step h0 g1 (fun p e => by
    simp only [Option.some.injEq] at e
    subst e
    exact ⟨h.li, h.ic, h.ix, fun c el => by rw [h.hit]; simp⟩)
  have v1 := h.vis.mono (W' := W1) (fun p hp _ => hother p hp) h.im.symm
  have hit1 : W1.heap[it]? = some (.mapIter (some bd) clockD (seen.push e.born) clockD) := by rw [hheap]; simp [lit]
  have hbs1 : W1.heap[bs]? = some (.map msI clI) := (cp1.old bs (Array.getElem?_eq_some_iff.1 hbs).1).trans hbs
  have lmm := (Array.getElem?_eq_some_iff.1 v1.hm).1
  have lbc := (Array.getElem?_eq_some_iff.1 cp1.hc).1
  have lbx := (Array.getElem?_eq_some_iff.1 cp1.hx).1
  have lit1 := (Array.getElem?_eq_some_iff.1 hit1).1
  obtain ⟨W2, hW2⟩ : ∃ W2, W2 = W1.alloc (.map msI clI) := ⟨_, rfl⟩
  have g2 : W1.grownBy W2 none := by rw [hW2]; exact World.grownBy_alloc _ _ _
  have cp2 := cp1.step h0 g2 (fun p e => by cases e)
  have v2 := v1.mono (W' := W2) (fun p _ hp => g2.block p hp (by simp)) h.im.symm
  have hsz2 : W2.heap.size = W1.heap.size + 1 := by rw [hW2]; simp
  have hnew2 : W2.heap[W1.heap.size]? = some (.map msI clI) := by rw [hW2]; exact World.alloc_heap_new W1 _
  -- the new key is none of those that were met
  obtain ⟨i, hil⟩ := List.mem_iff_getElem?.1 he
  have hnk : ∀ p ∈ vis, p.1 ≠ k := by
    intro p hp hpk
    have hnd : (((vis.map (fun p => ((.int .i64 p.1 : Value), (.map (some p.2.1) : Value))) ++ (leftOf msD seen).toList.map fun m => (m.key, m.val))).map Prod.fst).Nodup := by
      rw [(h.vis.perm.map Prod.fst).nodup_iff, List.map_map]
      exact hst.2.2
    rw [List.map_append, List.nodup_append] at hnd
    refine hnd.2.2 (.int .i64 p.1) (by simp only [List.map_map, List.mem_map]; exact ⟨p, hp, rfl⟩) (.int .i64 k) (by simp only [List.map_map, List.mem_map]; exact ⟨e, he, hk⟩) (by rw [hpk])
  have hmu : ∀ X : World, X.heap = W2.heap → _ := fun X hX => run_mu X mm W1.heap.size vis ents cl k (by rw [hX]; exact v2.hm) v2.he v2.st hnk
  obtain ⟨W3, hW3⟩ : ∃ W3 : World, W3 = { W2 with heap := W2.heap.setIfInBounds mm (.map (ents.push { key := .int .i64 k, val := .map (some W1.heap.size), born := cl }) (cl + 1)) } := ⟨_, rfl⟩
  have hother3 : ∀ p, p ≠ mm → W3.heap[p]? = W2.heap[p]? := fun p hp => by rw [hW3]; show (W2.heap.setIfInBounds mm _)[p]? = _; rw [Array.getElem?_setIfInBounds, if_neg (fun e => hp e.symm)]
  have g3 : W2.grownBy W3 (some mm) := ⟨by rw [hW3], by rw [hW3], by rw [hW3], by rw [hW3]; simp, fun p _ hp => hother3 p (fun e => hp (by rw [e]))⟩
  have cp3 := cp2.step h0 g3 (fun p e => by
    simp only [Option.some.injEq] at e
    subst e
    exact ⟨cp1.lm, fun e => cp1.cm e.symm, cp1.mx, fun c el => by rw [v2.hm]; simp⟩)
  have hmm3 : W3.heap[mm]? = some (.map (ents.push { key := .int .i64 k, val := .map (some W1.heap.size), born := cl }) (cl + 1)) := by
    rw [hW3]; show (W2.heap.setIfInBounds mm _)[mm]? = _
    rw [Array.getElem?_setIfInBounds, if_pos rfl, if_pos (by omega)]
  have hleft := leftOf_push hst.2.1 hil
  have hsplit : ((leftOf msD seen).toList).Perm (e :: (leftOf msD seen).toList.eraseIdx i) := by
    exact erase_perm hil
  refine ⟨hit1, (cp1.old bd (Array.getElem?_eq_some_iff.1 hd).1).trans hd, hbs1, ?_, lbx, by rw [← hW2]; exact hmu, ?_, ?_⟩
  · simp [World.cell?, cp1.hx]
  · rw [← hW2, ← hW3]
    refine ⟨cp3, h.li, h.ic, h.im, h.ix, ?_, ?_⟩
    · exact (hother3 it h.im).trans ((g2.block it lit1 (by simp)).trans hit1)
    · refine ⟨hmm3, MapKept.stamped_push v2.st (fun x hx hxk => ?_), ?_, ?_, ?_, ?_⟩
      · have : (x.key, x.val) ∈ vis.map fun p => ((.int .i64 p.1 : Value), (.map (some p.2.2) : Value)) := by
          rw [← v2.he]; exact List.mem_map.2 ⟨x, hx, rfl⟩
        obtain ⟨p, hp, e1⟩ := List.mem_map.1 this
        simp only [Prod.mk.injEq] at e1
        rw [hxk] at e1
        have := e1.1
        simp only [Value.int.injEq, true_and] at this
        exact hnk p hp this
      · rw [Array.toList_push, List.map_append, List.map_append, v2.he]
        rfl
      · rw [hleft, List.map_append, List.append_assoc]
        refine .trans (List.Perm.append_left _ ?_) h.vis.perm
        have := (hsplit.map fun m => (m.key, m.val)).symm
        simp only [List.map_cons, hk, hv] at this
        simpa using this
      · intro p hp
        rcases List.mem_append.1 hp with hp | hp
        · obtain ⟨a1, a2, a3, a4, a5, m, c, a6, a7⟩ := v2.blk p hp
          exact ⟨a1, a2, a3, a4, a5, m, c, a6, (hother3 _ a3).trans a7⟩
        · simp only [List.mem_singleton] at hp
          subst hp
          have := cp1.adv.size
          exact ⟨by show w0.heap.size ≤ W1.heap.size; omega, by show W1.heap.size ≠ bc; omega, by show W1.heap.size ≠ mm; omega, by show W1.heap.size ≠ bx; omega, by show W1.heap.size ≠ it; omega, msI, clI, hbs, (hother3 _ (by show W1.heap.size ≠ mm; omega)).trans hnew2⟩
      · rw [List.map_append, List.nodup_append]
        refine ⟨h.vis.nd, by simp, ?_⟩
        intro x hx y hy
        simp only [List.map_cons, List.map_nil, List.mem_singleton] at hy
        obtain ⟨p, hp, rfl⟩ := List.mem_map.1 hx
        obtain ⟨-, -, -, -, -, m, c, -, a7⟩ := v1.blk p hp
        have := (Array.getElem?_eq_some_iff.1 a7).1
        subst hy
        show p.2.2 ≠ W1.heap.size
        omega
  · have h1 : (leftOf msD (seen.push e.born)).size = ((leftOf msD seen).toList.eraseIdx i).length := by rw [← hleft]; simp
    have h2 := hsplit.length_eq
    have h3 : (leftOf msD seen).toList.length = (leftOf msD seen).size := by simp
    simp only [List.length_cons] at h2
    omega
end
end Go.Proofs.YtklepphkbbjbjaaDoor
namespace Go.Proofs.YtklepphkbbjbjaaDoor
set_option linter.unusedVariables false
set_option linter.unusedSimpArgs false
open Go Go.RowKit Go.Shelf
attribute [local go_sem] Oper.semAt_some
attribute [local go_sem] run_mk
structure MadeAt (V : Vw) (σ : Sto) (w0 : World) (bt bn bd : Nat) (nx : Int) (ms : Array MapEntry) (clock : Nat) (msD : Array MapEntry) (clockD : Nat) : Prop where
  inv : Inv V noRoots σ w0
  hbt : bt < w0.heap.size
  h0 : w0.cell? ⟨bt, 0, none⟩ = some (.map (some bn))
  h1 : w0.cell? ⟨bt, 1, none⟩ = some (.map (some bd))
  h2 : w0.cell? ⟨bt, 2, none⟩ = some (.int .i64 nx)
  hn : w0.heap[bn]? = some (.map ms clock)
  hd : w0.heap[bd]? = some (.map msD clockD)
  hst : MapKept.Stamped msD clockD
  hsh : ∀ e ∈ msD.toList, ∃ k bs ms clock, e.key = .int .i64 k ∧ e.val = .map (some bs) ∧ w0.heap[bs]? = some (.map ms clock)
set_option maxRecDepth 100000 in
set_option maxHeartbeats 8000000 in
theorem copy_walk (m bt : Nat) (w : World) (σ1 : Sto) (X : Vw → World → Prop)
    (made : CallsIn Fence.wide (m - 1) Tryd.prog 30 #[.pointer (some ⟨bt, 0, none⟩)] w fun e w1 => e = .returned (.bool true) ∧ ∃ V1 bn bd nx ms clock msD clockD, MadeAt V1 σ1 w1 bt bn bd nx ms clock msD clockD ∧ X V1 w1) :
    CallsIn Fence.wide m Tryd.prog 27 #[.pointer (some ⟨bt, 0, none⟩)] w fun e W => ∃ w1 V1 bn bd nx ms clock msD clockD, MadeAt V1 σ1 w1 bt bn bd nx ms clock msD clockD ∧ X V1 w1 ∧
      ∃ bc mm bx it seen vis ents cl, LpAt V1 σ1 w1 bc mm bx it bd ms msD clock clockD nx W seen vis ents cl ∧ (leftOf msD seen).toList = [] ∧ e = .returned (.pointer (some ⟨bx, 0, none⟩)) := by
  have hdd : ∀ k : Nat, (Fence.wide.depth.isSome = true → 1 ≤ k) := fun k h => by simp [Fence.wide] at h
  refine callsIn_of_wp Tryd.func27 rfl trivial ?_ rfl
  simp only [Tryd.ntmps27, List.size_toArray, List.length_cons, List.length_nil, Nat.reduceAdd, Nat.reduceSub, Array.replicate_succ, Array.replicate_zero, List.push_toArray, List.append_toArray, List.nil_append, List.cons_append]
  gi_wp2_with (refine ⟨trivial, hdd _, ?_⟩; refine made.mono ?_; clear made; rintro e w1 ⟨rfl, V1, bn, bd, nx, ms, clock, msD, clockD, hM, hX⟩)
  rename_i K hK
  have h0 := hM.h0
  have h2 := hM.h2
  have hn := hM.hn
  have hbt := hM.hbt
  have hbn := (Array.getElem?_eq_some_iff.1 hn).1
  have rest : ∀ bc mm bx W, CpAt V1 σ1 w1 bc mm bx ms clock nx W ∧ W.heap[mm]? = some (.map #[] 0) → K { tmps := #[.pointer (some ⟨bt, 0, none⟩), undef, .pointer none, .pointer (some ⟨bx, 0, none⟩), undef, undef,
      .pointer (some ⟨bt, 0, none⟩), .bool true, .bool false, .pointer (some ⟨bt, 0, none⟩), .pointer (some ⟨bt, 0, none⟩), .pointer (some ⟨bt, 0, none⟩), .map (some bn), .map (some bc), .map (some mm),
      .pointer (some ⟨bt, 0, none⟩), .pointer (some ⟨bt, 0, none⟩), .pointer (some ⟨bt, 2, none⟩), .int .i64 nx, .agg #[.map (some bc), .map (some mm), .int .i64 nx], .pointer (some ⟨bx, 0, none⟩),
      undef, undef, undef, undef, undef, undef, undef, undef, undef, undef, undef, undef, undef, undef, undef, undef, undef, undef], defers := [] } W := by
    rintro bc mm bx W ⟨hc, hm⟩
    have hdW : W.heap[bd]? = some (.map msD clockD) := (hc.old bd (Array.getElem?_eq_some_iff.1 hM.hd).1).trans hM.hd
    have hc1 : W.cell? ⟨bt, 1, none⟩ = some (.map (some bd)) := (World.cell?_of_block (hc.old bt hbt)).trans hM.h1
    have hrg := run_range_map (P := Tryd.prog) W 60 3 68 bd msD clockD Tryd.underlying60 hdW
    refine hK _ _ ?_
    clear hK h0 h2 hn
    gi_wp2
    gi_loopw [] (fun wr => ∃ seen vis ents cl, LpAt V1 σ1 w1 bc mm bx W.heap.size bd ms msD clock clockD nx wr seen vis ents cl) (fun wr => wr.rangeLeft bd W.heap.size)
    case atStart =>
      exact ⟨_, _, _, _, LpAt.start hc hM.inv hm⟩
    case round =>
      obtain ⟨seen, vis, ents, cl, hL⟩ := hrel
      have hbdW := (hL.cp.old bd (Array.getElem?_eq_some_iff.1 hM.hd).1).trans hM.hd
      rcases run_next_at (P := Tryd.prog) wr 0 W.heap.size bd clockD clockD seen msD clockD hL.hit hbdW hM.hst.1 (Nat.le_refl _) with ⟨hz, hnx⟩ | ⟨e, he, w2, hw2, hnx⟩
      · clear hrg hdW hc1 hbdW
        gi_wp2
        go_ret
        exact ⟨w1, V1, bn, bd, nx, ms, clock, msD, clockD, hM, hX, bc, mm, bx, _, seen, vis, ents, cl, hL, List.eq_nil_of_length_eq_zero (by simpa using hz), rfl⟩
      · obtain ⟨k, bs, msI, clI, hek, hev, hbs⟩ := hM.hsh e (mem_left he).1
        rw [hek, hev] at hnx
        obtain ⟨W1, hW1⟩ : ∃ W1, W1 = ChangeMaps.setBlock w2 W.heap.size (.mapIter (some bd) clockD (seen.push e.born) clockD) := ⟨_, rfl⟩
        rw [← hW1] at hnx
        obtain ⟨t1, t2, t3, t4, t5, hmu, hL3, hlt⟩ := hL.turn hM.inv hM.hst hM.hd he hek hev hbs hw2 hW1
        have hen := run_entry_at (P := Tryd.prog) W1 W.heap.size bd clockD seen msD clockD e t1 t2 (mem_left he).1 hM.hst.2.1
        rw [hek, hev] at hen
        have hmu0 := hmu _ rfl
        have hmu1 := hmu (W1.alloc (.map msI clI)).drew rfl
        have hms := hL.left hM.hd
        clear hmu hW1 hw2 t1 t2 hrg hdW hc1 hbdW
        gi_wp2
        gi_region_with (refine ⟨trivial, hdd _, ?_⟩; refine (clone46 bs msI clI _ (by first | exact t3 | exact (old_alloc _ _ _ (Array.getElem?_eq_some_iff.1 t3).1).trans t3) _).mono ?_; rintro e w' ⟨rfl, rfl⟩)
        all_goals
          have hL4 := fun (X : World) h1 h2 h3 h4 => hL3.same (W' := X) hM.inv h1 h2 h3 h4
          refine (show _ ∧ _ from ⟨?_, ?_⟩)
          · repeat apply Exists.intro
            refine ⟨⟨_, _, _, _, hL4 _ rfl rfl rfl rfl⟩, rfl⟩
          · rw [hms]
            exact Nat.lt_of_le_of_lt (Nat.le_of_eq (LpAt.left (hL4 _ rfl rfl rfl rfl) hM.hd)) hlt
  gi_region_with (refine ⟨trivial, hdd _, ?_⟩; refine (clone45 bn ms clock _ (by first | exact hn | exact (old_alloc _ _ _ hbn).trans hn) _).mono ?_; rintro e w' ⟨rfl, rfl⟩)
  all_goals simp only [Exit.then, Act.put, List.setIfInBounds_toArray, List.set_cons_succ, List.set_cons_zero, List.getElem_toArray, List.getElem_cons_succ, List.getElem_cons_zero]
  all_goals first
    | exact rest _ _ _ _ (CpAt.start hM.inv rfl rfl rfl (.inl ⟨rfl, rfl, rfl⟩))
    | exact rest _ _ _ _ (CpAt.start hM.inv rfl rfl rfl (.inr ⟨rfl, rfl, rfl⟩))
end Go.Proofs.YtklepphkbbjbjaaDoor
namespace Go.Proofs.YtklepphkbbjbjaaDoor
set_option linter.unusedVariables false
set_option linter.unusedSimpArgs false
open Go Go.RowKit Go.Shelf
theorem copyT_inv {t : Nat} {σ σ' : Sto} {r : DVal} (h : copyT t σ = some (r, σ')) : ∃ nid did nx ns kp, σ.obj t = .agg [.map nid, .map did, .int .i64 nx] ∧ σ.obj nid = .tup ns ∧ σ.obj did = .tup (kp.map fun a => .tup [.int .i64 a.1, .map a.2]) ∧
    (t < σ.nobj ∧ nid < σ.nobj ∧ did < σ.nobj) ∧ ns.all isTup = true ∧ (∀ a ∈ kp, a.2 < σ.nobj ∧ isMapD (σ.obj a.2) = true) ∧ r = .obj (σ.nobj + kp.length + 2) 0 ∧
    σ' = (((σ.newAll (kp.map fun a => σ.obj a.2)).new (.tup (reE σ.nobj kp))).new (.tup ns)).new (.agg [.map (σ.nobj + kp.length + 1), .map (σ.nobj + kp.length), .int .i64 nx]) := by
  unfold copyT at h
  split at h
  · rename_i nid did nx h1
    split at h
    · rename_i ns ds h2 h3
      simp only [Option.bind_eq_some_iff] at h
      obtain ⟨kp, h4, h5⟩ := h
      split at h5
      · rename_i hc
        simp only [Option.some.injEq, Prod.mk.injEq] at h5
        exact ⟨nid, did, nx, ns, kp, h1, h2, by rw [h3, parseD_eq h4], hc.1, hc.2.1, hc.2.2, h5.1.symm, h5.2.symm⟩
      · cases h5
    · cases h
  · cases h
theorem isTup_notStr {es : List DVal} (h : es.all isTup = true) : ∀ s l, es ≠ .str s :: l := by
  rintro s l rfl
  simp [isTup] at h
theorem isMapD_inv {d : DVal} (h : isMapD d = true) : ∃ es, d = .tup es ∧ es.all isTup = true := by
  unfold isMapD at h
  split at h
  · exact ⟨_, rfl, h⟩
  · cases h
theorem agg_cells {V : Vw} {w : World} {a b p : Nat} {x : Int} (h : ObjRel V w (.agg [.map a, .map b, .int .i64 x]) p) :
    w.cell? ⟨p, 0, none⟩ = some (.map (some (V.phi a))) ∧ w.cell? ⟨p, 1, none⟩ = some (.map (some (V.phi b))) ∧ w.cell? ⟨p, 2, none⟩ = some (.int .i64 x) := by
  unfold ObjRel at h
  obtain ⟨vs, el, us, rest, h1, h2, h3⟩ := h
  simp only [VRels, VRel] at h3
  obtain ⟨v1, u1, rfl, ⟨-, -, rfl⟩, v2, u2, rfl, ⟨-, -, rfl⟩, v3, u3, rfl, rfl, rfl⟩ := h3
  obtain ⟨l⟩ := vs
  simp only at h2
  subst h2
  refine ⟨?_, ?_, ?_⟩ <;> simp [World.cell?, h1]
theorem erels_pairs {V : Vw} {w : World} : ∀ {kp : List (Int × Nat)} {ms : List MapEntry}, ERels V w (kp.map fun a => .tup [.int .i64 a.1, .map a.2]) ms → ms.map (fun m => (m.key, m.val)) = kp.map fun a => ((.int .i64 a.1 : Value), (.map (some (V.phi a.2)) : Value))
  | [], ms, h => by unfold ERels at h; subst h; rfl
  | a :: kp, ms, h => by
    simp only [List.map_cons] at h
    unfold ERels at h
    obtain ⟨m, ns, rfl, h0, h1, h2, h3⟩ := h
    simp only [VRel] at h1 h2
    rw [List.map_cons, List.map_cons, erels_pairs h3, h1, h2.2.2]
theorem erels_of {V : Vw} {w : World} (id : Int × Nat × Nat → Nat) : ∀ (vis : List (Int × Nat × Nat)) (l : List MapEntry), (∀ p ∈ vis, id p < V.nobj ∧ V.phi (id p) = p.2.2) →
    l.map (fun m => (m.key, m.val)) = vis.map (fun p => ((.int .i64 p.1 : Value), (.map (some p.2.2) : Value))) → ERels V w (vis.map fun p => .tup [.int .i64 p.1, .map (id p)]) l
  | [], l, _, h => by simp only [List.map_nil, List.map_eq_nil_iff] at h; subst h; unfold ERels; rfl
  | q :: r, l, h0, h => by
    cases l with
    | nil => simp at h
    | cons e l =>
      simp only [List.map_cons, List.cons.injEq, Prod.mk.injEq] at h
      simp only [List.map_cons]
      unfold ERels
      obtain ⟨g1, g2⟩ := h0 q (by simp)
      refine ⟨e, l, rfl, rfl, ?_, ?_, erels_of id r l (fun p hp => h0 p (by simp [hp])) h.2⟩
      · simp only [VRel]; exact h.1.1
      · simp only [VRel]; exact ⟨by omega, g1, by rw [g2]; exact h.1.2⟩
theorem made_at {V : Vw} {σ σ' : Sto} {w : World} {t : Nat} {r : DVal} (hi : Inv V noRoots σ w) (h : copyT t σ = some (r, σ')) : ∃ bn bd nx ms clock msD clockD, MadeAt V σ w (V.phi t) bn bd nx ms clock msD clockD := by
  obtain ⟨nid, did, nx, ns, kp, h1, h2, h3, ⟨l1, l2, l3⟩, h4, h5, -, -⟩ := copyT_inv h
  have hn := hi.nobj
  have ot := (hi.obj t (by omega)).2
  have on := (hi.obj nid (by omega)).2
  have od := (hi.obj did (by omega)).2
  have hbt := ot.lt
  rw [h1] at ot
  rw [h2] at on
  rw [h3] at od
  obtain ⟨c0, c1, c2⟩ := agg_cells ot
  obtain ⟨ms, clock, -, hms, -⟩ := on.map (isTup_notStr h4)
  obtain ⟨msD, clockD, es', hmsD, hpm, hE, hst⟩ := od.map (isTup_notStr (by rw [List.all_eq_true]; intro e he; obtain ⟨a, -, rfl⟩ := List.mem_map.1 he; rfl))
  obtain ⟨kp', hk1, rfl⟩ := perm_inv _ _ _ hpm
  refine ⟨V.phi nid, V.phi did, nx, ms, clock, msD, clockD, hi, hbt, c0, c1, c2, hms, hmsD, hst, fun e he => ?_⟩
  have hp := erels_pairs hE
  have hmem : (e.key, e.val) ∈ msD.toList.map fun m => (m.key, m.val) := List.mem_map.2 ⟨e, he, rfl⟩
  rw [hp] at hmem
  obtain ⟨a, ha, e1⟩ := List.mem_map.1 hmem
  simp only [Prod.mk.injEq] at e1
  obtain ⟨b1, b2⟩ := h5 a (hk1.symm.subset ha)
  obtain ⟨es, b3, b4⟩ := isMapD_inv b2
  have oa := (hi.obj a.2 (by omega)).2
  rw [b3] at oa
  obtain ⟨m2, c2', -, hm2, -⟩ := oa.map (isTup_notStr b4)
  exact ⟨a.1, V.phi a.2, m2, c2', e1.1.symm, e1.2.symm, hm2⟩
theorem copy_end {V : Vw} {σ σ' : Sto} {w W : World} {t : Nat} {r : DVal} {bn bd : Nat} {nx : Int} {ms : Array MapEntry} {clock : Nat} {msD : Array MapEntry} {clockD : Nat} (hM : MadeAt V σ w (V.phi t) bn bd nx ms clock msD clockD) (hcp : copyT t σ = some (r, σ'))
    {bc mm bx it : Nat} {seen : Array Nat} {vis : List (Int × Nat × Nat)} {ents : Array MapEntry} {cl : Nat} (hL : LpAt V σ w bc mm bx it bd ms msD clock clockD nx W seen vis ents cl) (hz : (leftOf msD seen).toList = []) :
    ∃ V', Adv V w V' W ∧ Inv V' noRoots σ' W ∧ VRel V' W 1 r (.pointer (some ⟨bx, 0, none⟩)) := by
  obtain ⟨nid, did, nx', ns, kp, h1, h2, h3, ⟨l1, l2, l3⟩, h4, h5, rfl, rfl⟩ := copyT_inv hcp
  have hi := hM.inv
  have hn := hi.nobj
  have ot := (hi.obj t (by omega)).2
  have on := (hi.obj nid (by omega)).2
  have od := (hi.obj did (by omega)).2
  rw [h1] at ot
  rw [h2] at on
  rw [h3] at od
  obtain ⟨c0, c1, c2⟩ := agg_cells ot
  rw [hM.h0] at c0
  rw [hM.h1] at c1
  rw [hM.h2] at c2
  simp only [Option.some.injEq, Value.map.injEq] at c0 c1
  simp only [Option.some.injEq, Value.int.injEq, true_and] at c2
  subst c0 c1 c2
  obtain ⟨ms1, clock1, esN, hms, hpN, hEN, hstN⟩ := on.map (isTup_notStr h4)
  rw [hM.hn] at hms
  simp only [Option.some.injEq, Obj.map.injEq] at hms
  obtain ⟨rfl, rfl⟩ := hms
  obtain ⟨msD1, clockD1, es', hmsD, hpm, hE, hst⟩ := od.map (isTup_notStr (by rw [List.all_eq_true]; intro e he; obtain ⟨a, -, rfl⟩ := List.mem_map.1 he; rfl))
  rw [hM.hd] at hmsD
  simp only [Option.some.injEq, Obj.map.injEq] at hmsD
  obtain ⟨rfl, rfl⟩ := hmsD
  obtain ⟨kp', hk1, rfl⟩ := perm_inv _ _ _ hpm
  have hp1 := erels_pairs hE
  have hp2 := hL.vis.perm
  rw [hz, hp1] at hp2
  simp only [List.map_nil, List.append_nil] at hp2
  obtain ⟨vis', hv1, hv2⟩ := perm_inv _ _ _ (hp2.trans (hk1.symm.map fun a => ((.int .i64 a.1 : Value), (.map (some (V.phi a.2)) : Value))))
  have hlen : vis'.length = kp.length := by have := congrArg List.length hv2; simpa using this
  -- entry by entry
  have hat : ∀ (i : Nat) (a : Int × Nat) (p : Int × Nat × Nat), kp[i]? = some a → vis'[i]? = some p → p.1 = a.1 ∧ p.2.1 = V.phi a.2 := by
    intro i a p ha hp
    have := congrArg (fun l => l[i]?) hv2
    simp only [List.getElem?_map, ha, hp, Option.map_some, Option.some.injEq, Prod.mk.injEq, Value.int.injEq, true_and, Value.map.injEq] at this
    exact this
  have s0 := hL.cp.adv.stp
  have new0 : ∀ b, w.heap.size ≤ b → (V.tag b).1 = 0 := fun b hb => hi.tag_new hb
  have hB := hi.hB
  obtain ⟨ps, hps⟩ : ∃ ps, ps = (kp.map fun a => σ.obj a.2).zip (vis'.map fun p => p.2.2) := ⟨_, rfl⟩
  have hf : ps.map Prod.fst = kp.map fun a => σ.obj a.2 := by rw [hps, List.map_fst_zip (by simp [hlen])]
  have hs : ps.map Prod.snd = vis'.map fun p => p.2.2 := by rw [hps, List.map_snd_zip (by simp [hlen])]
  have hnd : (vis'.map fun p => p.2.2).Nodup := (hv1.map _).nodup_iff.1 hL.vis.nd
  obtain ⟨s2, a2, i2⟩ := Inv.takeAll (w := W) (w0 := w) (V0 := V) ps hL.cp.inv hL.cp.adv (by rw [hs]; exact hnd) (fun x hx => by
    rw [hps] at hx
    obtain ⟨i, hix⟩ := List.mem_iff_getElem?.1 hx
    rw [List.getElem?_zip_eq_some] at hix
    simp only [List.getElem?_map, Option.map_eq_some_iff] at hix
    obtain ⟨⟨a, ha, e1⟩, p, hp, e2⟩ := hix
    obtain ⟨q1, q2⟩ := hat i a p ha hp
    obtain ⟨b1, b2, b3, b4, b5, m, c, b6, b7⟩ := hL.vis.blk p (hv1.symm.subset (List.mem_of_getElem? hp))
    obtain ⟨k1, k2⟩ := h5 a (List.mem_of_getElem? ha)
    obtain ⟨es, k3, k4⟩ := isMapD_inv k2
    rw [← e1, ← e2]
    refine ⟨by omega, b1, (Array.getElem?_eq_some_iff.1 b7).1, new0 _ b1, (by rw [k3]; intro m c hh; cases hh), fun V' hs' => ?_⟩
    have oa := (hi.obj a.2 (by omega)).2
    rw [k3] at oa ⊢
    obtain ⟨m2, c2', es2, g1, g2, g3, g4⟩ := oa.map (isTup_notStr k4)
    rw [← q2, b6] at g1
    simp only [Option.some.injEq, Obj.map.injEq] at g1
    obtain ⟨rfl, rfl⟩ := g1
    exact ObjRel.ofMap b7 g2 (g3.ext (s0.trans hs').ei (s0.trans hs').er) g4)
  rw [hs] at s2 a2 i2
  rw [hf] at i2
  obtain ⟨V2, hV2⟩ : ∃ V2, V2 = V.takeAll (vis'.map fun p => p.2.2) := ⟨_, rfl⟩
  have hn2 : V2.nobj = σ.nobj + kp.length := by rw [hV2, takeAll_nobj, hn]; simp [hlen]
  have hB2 : V2.B = V.B := by rw [hV2, takeAll_B]
  have hid : ∀ p ∈ vis, (V2.tag p.2.2).2 < V2.nobj ∧ V2.phi (V2.tag p.2.2).2 = p.2.2 := fun p hp => by
    obtain ⟨i, hi'⟩ := List.mem_iff_getElem?.1 (hv1.subset hp)
    have hil := (List.getElem?_eq_some_iff.1 hi').1
    obtain ⟨g1, g2⟩ := takeAll_at (vis'.map fun p => p.2.2) V i p.2.2 hnd (by rw [List.getElem?_map, hi']; rfl)
    rw [← hV2] at g1 g2
    rw [g2]
    exact ⟨by show V.nobj + i < V2.nobj; omega, g1⟩
  have hre : reE σ.nobj kp = vis'.map fun p => .tup [.int .i64 p.1, .map (V2.tag p.2.2).2] := by
    apply List.ext_getElem?
    intro i
    rw [reE_get, List.getElem?_map]
    by_cases hik : i < kp.length
    · obtain ⟨a, ha⟩ : ∃ a, kp[i]? = some a := ⟨_, List.getElem?_eq_getElem hik⟩
      obtain ⟨p, hp⟩ : ∃ p, vis'[i]? = some p := ⟨_, List.getElem?_eq_getElem (by omega)⟩
      obtain ⟨g1, g2⟩ := takeAll_at (vis'.map fun p => p.2.2) V i p.2.2 hnd (by rw [List.getElem?_map, hp]; rfl)
      rw [← hV2] at g2
      rw [ha, hp, Option.map_some, Option.map_some, (hat i a p ha hp).1, g2, hn]
    · rw [List.getElem?_eq_none (by omega), List.getElem?_eq_none (by omega)]
      rfl
  have hnot : ∀ b, (∀ p ∈ vis, p.2.2 ≠ b) → w.heap.size ≤ b → (V2.tag b).1 = 0 := fun b hb hsz => by
    rw [hV2, takeAll_tag _ _ _ (fun hm => by
      obtain ⟨p, hp, e⟩ := List.mem_map.1 hm
      exact hb p (hv1.symm.subset hp) e)]
    exact new0 b hsz
  rw [← hV2] at s2 a2 i2
  have tm := hnot mm (fun p hp => (hL.vis.blk p hp).2.2.1) hL.cp.lm
  have tc := hnot bc (fun p hp => (hL.vis.blk p hp).2.1) hL.cp.lc
  have tx := hnot bx (fun p hp => (hL.vis.blk p hp).2.2.2.1) hL.cp.lx
  have lm := hL.cp.lm
  have lc := hL.cp.lc
  have lx := hL.cp.lx
  have cm := hL.cp.cm
  have cx := hL.cp.cx
  have mx := hL.cp.mx
  -- the map of names
  obtain ⟨s3, i3⟩ := i2.takeObj (p := mm) (d := .tup (reE σ.nobj kp)) (by omega) (Array.getElem?_eq_some_iff.1 hL.vis.hm).1 tm
    (ObjRel.ofMap hL.vis.hm (by rw [hre]; exact (hv1.map _).symm) (erels_of (fun p => (V2.tag p.2.2).2) vis ents.toList hid hL.vis.he) hL.vis.st) (by intro m c h; cases h)
  have a3 := a2.takeO s3 lm
  -- the map of nodes
  obtain ⟨s4, i4⟩ := i3.takeObj (p := bc) (d := .tup ns) (by show V2.B ≤ bc; omega) (Array.getElem?_eq_some_iff.1 hL.cp.hc).1 (by rw [takeO_tag cm]; exact tc)
    (ObjRel.ofMap hL.cp.hc hpN (hEN.ext ((s0.trans s2).trans s3).ei ((s0.trans s2).trans s3).er) hstN) (by intro m c h; cases h)
  have a4 := a3.takeO s4 lc
  have n3 : (V2.takeO mm).nobj = σ.nobj + kp.length + 1 := by show V2.nobj + 1 = _; omega
  have n4 : ((V2.takeO mm).takeO bc).nobj = σ.nobj + kp.length + 2 := by show V2.nobj + 1 + 1 = _; omega
  -- the tree
  have hag : ObjRel ((V2.takeO mm).takeO bc) W (.agg [.map (σ.nobj + kp.length + 1), .map (σ.nobj + kp.length), .int .i64 nx]) bx := by
    unfold ObjRel
    refine ⟨_, _, [.map (some bc), .map (some mm), .int .i64 nx], [], hL.cp.hx, rfl, ?_⟩
    simp only [VRels, VRel]
    refine ⟨_, _, rfl, ⟨by omega, by omega, ?_⟩, _, _, rfl, ⟨by omega, by omega, ?_⟩, _, _, rfl, rfl, rfl⟩
    · rw [← n3, takeO_phi_self]
    · rw [takeO_phi (by omega), ← hn2, takeO_phi_self]
  obtain ⟨s5, i5⟩ := i4.takeObj (p := bx) (by show V2.B ≤ bx; omega) (Array.getElem?_eq_some_iff.1 hL.cp.hx).1 (by rw [takeO_tag cx.symm, takeO_tag mx.symm]; exact tx) hag (by intro m c h; cases h)
  have a5 := a4.takeO s5 lx
  refine ⟨_, a5, i5, ?_⟩
  simp only [VRel]
  refine ⟨by omega, ?_, ?_⟩
  · show σ.nobj + kp.length + 2 < ((V2.takeO mm).takeO bc).nobj + 1
    omega
  · rw [← n4, takeO_phi_self]
section
variable {Gl : List (Nat × Nat × Option Value)}
theorem copy_in (hcs : ∀ f, ImpOk Tryd.prog Gl f (ciJ PR0 1000 f)) (td : DVal) (p0 : Option Addr) {V : Vw} {σ σ' : Sto} {w : World} {r : DVal} (hi : Inv V noRoots σ w) (hG : HasG Gl V.imm w) (ht : VRel V w 1 td (.pointer p0)) (hs : copyB td σ = some (r, σ')) (m : Nat) :
    CallsIn Fence.wide m Tryd.prog 27 #[.pointer p0] w fun e w' => ∃ v V', e = .returned v ∧ Adv V w V' w' ∧ Inv V' noRoots σ' w' ∧ VRel V' w' 1 r v := by
  simp only [copyB, Option.bind_eq_some_iff] at hs
  obtain ⟨⟨b, σ1⟩, hy, hs⟩ := hs
  simp only at hs
  split at hs
  · simp only [Option.some.injEq, Prod.mk.injEq] at hs
    obtain ⟨rfl, rfl⟩ := hs
    exact copy_none hcs td p0 hi hG ht hy m
  · split at hs
    · rename_i i
      have ht' := ht
      simp only [VRel] at ht'
      obtain ⟨-, hil, ep⟩ := ht'
      simp only [Value.pointer.injEq] at ep
      subst ep
      refine (copy_walk m (V.phi i) w σ1 (fun V1 w1 => Adv V w V1 w1 ∧ V1.phi i = V.phi i) ?_).mono ?_
      · refine callsIn_wide.2 ((hcs 30 V σ σ1 w [.obj i 0] [.pointer (some ⟨V.phi i, 0, none⟩)] _ hi hG ?_ hy).2.mono ?_)
        · simp only [VRels]
          exact ⟨_, _, rfl, ht, rfl⟩
        · rintro e w1 ⟨v, V1, rfl, ha, hi1, hv⟩
          simp only [VRel] at hv
          subst hv
          obtain ⟨bn, bd, nx, ms, clock, msD, clockD, hM⟩ := made_at hi1 hs
          rw [ha.er.phi i hil] at hM
          exact ⟨rfl, V1, bn, bd, nx, ms, clock, msD, clockD, hM, ha, ha.er.phi i hil⟩
      · rintro e W ⟨w1, V1, bn, bd, nx, ms, clock, msD, clockD, hM, ⟨ha, hph⟩, bc, mm, bx, it, seen, vis, ents, cl, hL, hz, rfl⟩
        rw [← hph] at hM
        obtain ⟨V', a1, i1, v1⟩ := copy_end hM hs hL hz
        exact ⟨_, V', rfl, ha.trans a1, i1, v1⟩
    · cases hs
  · cases hs
end
end Go.Proofs.YtklepphkbbjbjaaDoor
namespace Go.Proofs.YtklepphkbbjbjaaDoor
set_option linter.unusedVariables false
set_option maxRecDepth 100000
open Go
theorem dty_str {k : Nat} {cs : List DVal} (h : DTy Tryd.prog (k + 1) 9 cs) : ∃ s : Bs, cs = [.str s] ∧ s.length ≤ maxLen := by
  unfold DTy at h
  rw [Tryd.underlying9] at h
  exact h
theorem dty_int {k : Nat} {cs : List DVal} (h : DTy Tryd.prog (k + 1) 3 cs) : ∃ i : Int, cs = [.int .i64 i] := by
  unfold DTy at h
  rw [Tryd.underlying3] at h
  obtain ⟨i, h, -⟩ := h
  exact ⟨i, h⟩
theorem dty_step {k : Nat} {cs : List DVal} (h : DTy Tryd.prog (k + 6) 58 cs) : ∃ x : StepV, cs = x.row ∧ x.name.length ≤ 9223372036854775807 := by
  unfold DTy at h
  rw [Tryd.underlying58] at h
  simp only [List.foldr] at h
  obtain ⟨a0, b0, rfl, h0, a1, b1, rfl, h1, a2, b2, rfl, h2, a3, b3, rfl, h3, a4, b4, rfl, h4, a5, b5, rfl, h5, rfl⟩ := h
  obtain ⟨x0, rfl⟩ := dty_int h0
  obtain ⟨x1, rfl⟩ := dty_int h1
  obtain ⟨x2, rfl⟩ := dty_int h2
  obtain ⟨x3, rfl⟩ := dty_int h3
  obtain ⟨x4, rfl⟩ := dty_int h4
  obtain ⟨x5, rfl, hl⟩ := dty_str h5
  exact ⟨⟨x0, x1, x2, x3, x4, x5⟩, rfl, hl⟩
theorem arg_steps {k : Nat} {d : DVal} (h : DTyArg Tryd.prog k 32 d) : ∃ s : Sl StepV, d = slD s.z 6 (s.l.map StepV.row) ∧ ∀ x ∈ s.l, x.name.length ≤ 9223372036854775807 := by
  have h' := dtyArg_mono (m := k + 8) (by omega) h
  unfold DTyArg at h'
  rw [Tryd.underlying32] at h'
  simp only at h'
  unfold DTy at h'
  rw [Tryd.underlying32] at h'
  simp only at h'
  rw [show Tryd.prog.cellsOf 58 = 6 by kernel_rfl] at h'
  obtain ⟨z, es, e, h1, -⟩ := h'
  obtain ⟨l, rfl⟩ := rows_of (f := StepV.row) fun r hr => by
    obtain ⟨x, hx, -⟩ := dty_step (h1 r hr)
    exact ⟨x, hx⟩
  simp only [List.cons.injEq, and_true] at e
  refine ⟨⟨z, l⟩, e, fun x hx => ?_⟩
  obtain ⟨y, hy, hl⟩ := dty_step (h1 x.row (List.mem_map.2 ⟨x, hx, rfl⟩))
  have : x = y := by
    obtain ⟨a0, a1, a2, a3, a4, a5⟩ := x
    obtain ⟨c0, c1, c2, c3, c4, c5⟩ := y
    simp only [StepV.row, List.cons.injEq, DVal.int.injEq, DVal.str.injEq, true_and, and_true] at hy
    obtain ⟨rfl, rfl, rfl, rfl, rfl, rfl⟩ := hy
    rfl
  rw [this]; exact hl
end Go.Proofs.YtklepphkbbjbjaaDoor
