/- Texts of this proof, part 8: see the card for what is proved. -/
import Derived.Test.YtagkgekpfgepoaaGreatDoorPm03
import Derived.Test.YtagkgekpfgepoaaGreatDoorChecked
import Derived.KernelRfl
import Derived.Test.YtagkgekpfgepoaaGreatDoorPm05
namespace Go.Proofs.YtagkgekpfgepoaaGreatDoor
set_option linter.unusedVariables false
set_option maxRecDepth 100000
open Go
def fns : List (Nat × Nat) := [(19, 2), (21, 2), (23, 2), (25, 2), (27, 2), (28, 2), (41, 2), (43, 2), (44, 2), (46, 2), (47, 2), (62, 2), (63, 2), (64, 2), (65, 2), (85, 2)]
def pts : List Nat := []
theorem K6 : KnowsJ Tryz.prog 6 2 T6 := ⟨Tryz.f6, hintJ H6 fns pts, Tryz.func6, by kernel_rfl, by kernel_rfl⟩
theorem K7 : KnowsJ Tryz.prog 7 1 T7 := ⟨Tryz.f7, hintJ H7 fns pts, Tryz.func7, by kernel_rfl, by kernel_rfl⟩
theorem K8 : KnowsJ Tryz.prog 8 0 T8 := ⟨Tryz.f8, hintJ H8 fns pts, Tryz.func8, by kernel_rfl, by kernel_rfl⟩
theorem K9 : KnowsJ Tryz.prog 9 1 T9 := ⟨Tryz.f9, hintJ H9 fns pts, Tryz.func9, by kernel_rfl, by kernel_rfl⟩
theorem K10 : KnowsJ Tryz.prog 10 1 T10 := ⟨Tryz.f10, hintJ H10 fns pts, Tryz.func10, by kernel_rfl, by kernel_rfl⟩
theorem K11 : KnowsJ Tryz.prog 11 2 T11 := ⟨Tryz.f11, hintJ H11 fns pts, Tryz.func11, by kernel_rfl, by kernel_rfl⟩
theorem K12 : KnowsJ Tryz.prog 12 2 T12 := ⟨Tryz.f12, hintJ H12 fns pts, Tryz.func12, by kernel_rfl, by kernel_rfl⟩
theorem K13 : KnowsJ Tryz.prog 13 1 T13 := ⟨Tryz.f13, hintJ H13 fns pts, Tryz.func13, by kernel_rfl, by kernel_rfl⟩
theorem K14 : KnowsJ Tryz.prog 14 1 T14 := ⟨Tryz.f14, hintJ H14 fns pts, Tryz.func14, by kernel_rfl, by kernel_rfl⟩
theorem K15 : KnowsJ Tryz.prog 15 1 T15 := ⟨Tryz.f15, hintJ H15 fns pts, Tryz.func15, by kernel_rfl, by kernel_rfl⟩
theorem K16 : KnowsJ Tryz.prog 16 2 T16 := ⟨Tryz.f16, hintJ H16 fns pts, Tryz.func16, by kernel_rfl, by kernel_rfl⟩
theorem K18 : KnowsJ Tryz.prog 18 1 T18 := ⟨Tryz.f18, hintJ H18 fns pts, Tryz.func18, by kernel_rfl, by kernel_rfl⟩
theorem K19 : KnowsJ Tryz.prog 19 3 T19 := ⟨Tryz.f19, hintJ H19 fns pts, Tryz.func19, by kernel_rfl, by kernel_rfl⟩
theorem K20 : KnowsJ Tryz.prog 20 3 T20 := ⟨Tryz.f20, hintJ H20 fns pts, Tryz.func20, by kernel_rfl, by kernel_rfl⟩
theorem K21 : KnowsJ Tryz.prog 21 1 T21 := ⟨Tryz.f21, hintJ H21 fns pts, Tryz.func21, by kernel_rfl, by kernel_rfl⟩
theorem K22 : KnowsJ Tryz.prog 22 1 T22 := ⟨Tryz.f22, hintJ H22 fns pts, Tryz.func22, by kernel_rfl, by kernel_rfl⟩
theorem K23 : KnowsJ Tryz.prog 23 2 T23 := ⟨Tryz.f23, hintJ H23 fns pts, Tryz.func23, by kernel_rfl, by kernel_rfl⟩
theorem K24 : KnowsJ Tryz.prog 24 2 T24 := ⟨Tryz.f24, hintJ H24 fns pts, Tryz.func24, by kernel_rfl, by kernel_rfl⟩
theorem K25 : KnowsJ Tryz.prog 25 2 T25 := ⟨Tryz.f25, hintJ H25 fns pts, Tryz.func25, by kernel_rfl, by kernel_rfl⟩
theorem K26 : KnowsJ Tryz.prog 26 1 T26 := ⟨Tryz.f26, hintJ H26 fns pts, Tryz.func26, by kernel_rfl, by kernel_rfl⟩
theorem K27 : KnowsJ Tryz.prog 27 1 T27 := ⟨Tryz.f27, hintJ H27 fns pts, Tryz.func27, by kernel_rfl, by kernel_rfl⟩
theorem K28 : KnowsJ Tryz.prog 28 1 T28 := ⟨Tryz.f28, hintJ H28 fns pts, Tryz.func28, by kernel_rfl, by kernel_rfl⟩
theorem K29 : KnowsJ Tryz.prog 29 1 T29 := ⟨Tryz.f29, hintJ H29 fns pts, Tryz.func29, by kernel_rfl, by kernel_rfl⟩
theorem K30 : KnowsJ Tryz.prog 30 1 T30 := ⟨Tryz.f30, hintJ H30 fns pts, Tryz.func30, by kernel_rfl, by kernel_rfl⟩
theorem K31 : KnowsJ Tryz.prog 31 2 T31 := ⟨Tryz.f31, hintJ H31 fns pts, Tryz.func31, by kernel_rfl, by kernel_rfl⟩
theorem K32 : KnowsJ Tryz.prog 32 1 T32 := ⟨Tryz.f32, hintJ H32 fns pts, Tryz.func32, by kernel_rfl, by kernel_rfl⟩
theorem K33 : KnowsJ Tryz.prog 33 1 T33 := ⟨Tryz.f33, hintJ H33 fns pts, Tryz.func33, by kernel_rfl, by kernel_rfl⟩
theorem K34 : KnowsJ Tryz.prog 34 2 T34 := ⟨Tryz.f34, hintJ H34 fns pts, Tryz.func34, by kernel_rfl, by kernel_rfl⟩
theorem K35 : KnowsJ Tryz.prog 35 1 T35 := ⟨Tryz.f35, hintJ H35 fns pts, Tryz.func35, by kernel_rfl, by kernel_rfl⟩
theorem K36 : KnowsJ Tryz.prog 36 1 T36 := ⟨Tryz.f36, hintJ H36 fns pts, Tryz.func36, by kernel_rfl, by kernel_rfl⟩
theorem K37 : KnowsJ Tryz.prog 37 1 T37 := ⟨Tryz.f37, hintJ H37 fns pts, Tryz.func37, by kernel_rfl, by kernel_rfl⟩
theorem K38 : KnowsJ Tryz.prog 38 2 T38 := ⟨Tryz.f38, hintJ H38 fns pts, Tryz.func38, by kernel_rfl, by kernel_rfl⟩
theorem K41 : KnowsJ Tryz.prog 41 3 T41 := ⟨Tryz.f41, hintJ H41 fns pts, Tryz.func41, by kernel_rfl, by kernel_rfl⟩
theorem K42 : KnowsJ Tryz.prog 42 3 T42 := ⟨Tryz.f42, hintJ H42 fns pts, Tryz.func42, by kernel_rfl, by kernel_rfl⟩
theorem K43 : KnowsJ Tryz.prog 43 1 T43 := ⟨Tryz.f43, hintJ H43 fns pts, Tryz.func43, by kernel_rfl, by kernel_rfl⟩
theorem K44 : KnowsJ Tryz.prog 44 3 T44 := ⟨Tryz.f44, hintJ H44 fns pts, Tryz.func44, by kernel_rfl, by kernel_rfl⟩
theorem K45 : KnowsJ Tryz.prog 45 1 T45 := ⟨Tryz.f45, hintJ H45 fns pts, Tryz.func45, by kernel_rfl, by kernel_rfl⟩
theorem K46 : KnowsJ Tryz.prog 46 2 T46 := ⟨Tryz.f46, hintJ H46 fns pts, Tryz.func46, by kernel_rfl, by kernel_rfl⟩
theorem K47 : KnowsJ Tryz.prog 47 2 T47 := ⟨Tryz.f47, hintJ H47 fns pts, Tryz.func47, by kernel_rfl, by kernel_rfl⟩
theorem K48 : KnowsJ Tryz.prog 48 1 T48 := ⟨Tryz.f48, hintJ H48 fns pts, Tryz.func48, by kernel_rfl, by kernel_rfl⟩
theorem K49 : KnowsJ Tryz.prog 49 3 T49 := ⟨Tryz.f49, hintJ H49 fns pts, Tryz.func49, by kernel_rfl, by kernel_rfl⟩
theorem K50 : KnowsJ Tryz.prog 50 1 T50 := ⟨Tryz.f50, hintJ H50 fns pts, Tryz.func50, by kernel_rfl, by kernel_rfl⟩
theorem K51 : KnowsJ Tryz.prog 51 1 T51 := ⟨Tryz.f51, hintJ H51 fns pts, Tryz.func51, by kernel_rfl, by kernel_rfl⟩
theorem K52 : KnowsJ Tryz.prog 52 1 T52 := ⟨Tryz.f52, hintJ H52 fns pts, Tryz.func52, by kernel_rfl, by kernel_rfl⟩
theorem K53 : KnowsJ Tryz.prog 53 1 T53 := ⟨Tryz.f53, hintJ H53 fns pts, Tryz.func53, by kernel_rfl, by kernel_rfl⟩
theorem K54 : KnowsJ Tryz.prog 54 1 T54 := ⟨Tryz.f54, hintJ H54 fns pts, Tryz.func54, by kernel_rfl, by kernel_rfl⟩
theorem K55 : KnowsJ Tryz.prog 55 2 T55 := ⟨Tryz.f55, hintJ H55 fns pts, Tryz.func55, by kernel_rfl, by kernel_rfl⟩
theorem K56 : KnowsJ Tryz.prog 56 1 T56 := ⟨Tryz.f56, hintJ H56 fns pts, Tryz.func56, by kernel_rfl, by kernel_rfl⟩
theorem K57 : KnowsJ Tryz.prog 57 1 T57 := ⟨Tryz.f57, hintJ H57 fns pts, Tryz.func57, by kernel_rfl, by kernel_rfl⟩
theorem K58 : KnowsJ Tryz.prog 58 1 T58 := ⟨Tryz.f58, hintJ H58 fns pts, Tryz.func58, by kernel_rfl, by kernel_rfl⟩
theorem K62 : KnowsJ Tryz.prog 62 1 T62 := ⟨Tryz.f62, hintJ H62 fns pts, Tryz.func62, by kernel_rfl, by kernel_rfl⟩
theorem K63 : KnowsJ Tryz.prog 63 2 T63 := ⟨Tryz.f63, hintJ H63 fns pts, Tryz.func63, by kernel_rfl, by kernel_rfl⟩
theorem K64 : KnowsJ Tryz.prog 64 2 T64 := ⟨Tryz.f64, hintJ H64 fns pts, Tryz.func64, by kernel_rfl, by kernel_rfl⟩
theorem K65 : KnowsJ Tryz.prog 65 3 T65 := ⟨Tryz.f65, hintJ H65 fns pts, Tryz.func65, by kernel_rfl, by kernel_rfl⟩
theorem K66 : KnowsJ Tryz.prog 66 1 T66 := ⟨Tryz.f66, hintJ H66 fns pts, Tryz.func66, by kernel_rfl, by kernel_rfl⟩
theorem K67 : KnowsJ Tryz.prog 67 2 T67 := ⟨Tryz.f67, hintJ H67 fns pts, Tryz.func67, by kernel_rfl, by kernel_rfl⟩
theorem K68 : KnowsJ Tryz.prog 68 3 T68 := ⟨Tryz.f68, hintJ H68 fns pts, Tryz.func68, by kernel_rfl, by kernel_rfl⟩
theorem K69 : KnowsJ Tryz.prog 69 2 T69 := ⟨Tryz.f69, hintJ H69 fns pts, Tryz.func69, by kernel_rfl, by kernel_rfl⟩
theorem K70 : KnowsJ Tryz.prog 70 3 T70 := ⟨Tryz.f70, hintJ H70 fns pts, Tryz.func70, by kernel_rfl, by kernel_rfl⟩
theorem K71 : KnowsJ Tryz.prog 71 1 T71 := ⟨Tryz.f71, hintJ H71 fns pts, Tryz.func71, by kernel_rfl, by kernel_rfl⟩
theorem K72 : KnowsJ Tryz.prog 72 1 T72 := ⟨Tryz.f72, hintJ H72 fns pts, Tryz.func72, by kernel_rfl, by kernel_rfl⟩
theorem K73 : KnowsJ Tryz.prog 73 1 T73 := ⟨Tryz.f73, hintJ H73 fns pts, Tryz.func73, by kernel_rfl, by kernel_rfl⟩
theorem K74 : KnowsJ Tryz.prog 74 1 T74 := ⟨Tryz.f74, hintJ H74 fns pts, Tryz.func74, by kernel_rfl, by kernel_rfl⟩
theorem K75 : KnowsJ Tryz.prog 75 2 T75 := ⟨Tryz.f75, hintJ H75 fns pts, Tryz.func75, by kernel_rfl, by kernel_rfl⟩
theorem K76 : KnowsJ Tryz.prog 76 1 T76 := ⟨Tryz.f76, hintJ H76 fns pts, Tryz.func76, by kernel_rfl, by kernel_rfl⟩
theorem K85 : KnowsJ Tryz.prog 85 3 T85 := ⟨Tryz.f85, hintJ H85 fns pts, Tryz.func85, by kernel_rfl, by kernel_rfl⟩
theorem K86 : KnowsJ Tryz.prog 86 2 T86 := ⟨Tryz.f86, hintJ H86 fns pts, Tryz.func86, by kernel_rfl, by kernel_rfl⟩
end Go.Proofs.YtagkgekpfgepoaaGreatDoor
namespace Go.Proofs.YtagkgekpfgepoaaGreatDoor
set_option linter.unusedVariables false
set_option maxRecDepth 100000
open Go
theorem dty_str {k : Nat} {cs : List DVal} (h : DTy Tryz.prog (k + 1) 9 cs) : ∃ s : Bs, cs = [.str s] ∧ s.length ≤ maxLen := by
  unfold DTy at h
  rw [Tryz.underlying9] at h
  exact h
theorem dty_int {k : Nat} {cs : List DVal} (h : DTy Tryz.prog (k + 1) 3 cs) : ∃ i : Int, cs = [.int .i64 i] := by
  unfold DTy at h
  rw [Tryz.underlying3] at h
  obtain ⟨i, h, -⟩ := h
  exact ⟨i, h⟩
theorem dty_bool {k : Nat} {cs : List DVal} (h : DTy Tryz.prog (k + 1) 4 cs) : ∃ b : Bool, cs = [.bool b] := by
  unfold DTy at h
  rw [Tryz.underlying4] at h
  exact h
theorem dty_strs {k : Nat} {cs : List DVal} (h : DTy Tryz.prog (k + 2) 22 cs) : ∃ s : Sl Bs, cs = [strs s] ∧ s.l.length ≤ maxLen ∧ ∀ x ∈ s.l, x.length ≤ maxLen := by
  unfold DTy at h
  rw [Tryz.underlying22] at h
  obtain ⟨z, es, rfl, h1, h2⟩ := h
  obtain ⟨l, rfl⟩ := rows_of (f := fun s : Bs => [DVal.str s]) fun r hr => by
    obtain ⟨s, rfl, -⟩ := dty_str (h1 r hr)
    exact ⟨s, rfl⟩
  refine ⟨⟨z, l⟩, rfl, by simpa using h2, fun x hx => ?_⟩
  obtain ⟨s, e, hs⟩ := dty_str (h1 [.str x] (List.mem_map.2 ⟨x, hx, rfl⟩))
  simp only [List.cons.injEq, DVal.str.injEq, and_true] at e
  rw [e]; exact hs
theorem dty_rec {k : Nat} {cs : List DVal} (h : DTy Tryz.prog (k + 6) 24 cs) : ∃ x : RecV, cs = x.row := by
  unfold DTy at h
  rw [Tryz.underlying24] at h
  simp only [List.foldr] at h
  obtain ⟨a0, b0, rfl, h0, a1, b1, rfl, h1, a2, b2, rfl, h2, a3, b3, rfl, h3, a4, b4, rfl, h4, a5, b5, rfl, h5, a6, b6, rfl, h6, a7, b7, rfl, h7, a8, b8, rfl, h8, rfl⟩ := h
  obtain ⟨x0, rfl⟩ := dty_int h0
  obtain ⟨x1, rfl⟩ := dty_int h1
  obtain ⟨x2, rfl⟩ := dty_bool h2
  obtain ⟨x3, rfl⟩ := dty_bool h3
  obtain ⟨x4, rfl, -⟩ := dty_str h4
  obtain ⟨x5, rfl, -⟩ := dty_str h5
  obtain ⟨x6, rfl, -⟩ := dty_str h6
  obtain ⟨x7, rfl, -⟩ := dty_strs h7
  obtain ⟨x8, rfl⟩ := dty_int h8
  exact ⟨⟨x0, x1, x2, x3, x4, x5, x6, x7, x8⟩, rfl⟩
theorem dty_u8 {k : Nat} {cs : List DVal} (h : DTy Tryz.prog (k + 1) 5 cs) : ∃ c : Nat, cs = [.int .u8 (c : Nat)] := by
  unfold DTy at h
  rw [Tryz.underlying5] at h
  obtain ⟨i, rfl, hw⟩ := h
  simp [Lit.wf, IntKind.min, IntKind.max, IntKind.signed, IntKind.bits] at hw
  exact ⟨i.toNat, by rw [Int.toNat_of_nonneg (by omega)]⟩
theorem dty_op {k : Nat} {cs : List DVal} (h : DTy Tryz.prog (k + 7) 51 cs) : ∃ x : OpV, cs = x.row := by
  unfold DTy at h
  rw [Tryz.underlying51] at h
  simp only [List.foldr] at h
  obtain ⟨a0, b0, rfl, h0, a1, b1, rfl, h1, rfl⟩ := h
  obtain ⟨c, rfl⟩ := dty_u8 h0
  obtain ⟨r, rfl⟩ := dty_rec h1
  exact ⟨⟨c, r⟩, rfl⟩
theorem arg_ops {k : Nat} {d : DVal} (h : DTyArg Tryz.prog k 39 d) : ∃ (z : Zs) (l : List OpV), d = slD z 10 (l.map OpV.row) := by
  have h' := dtyArg_mono (m := k + 8) (by omega) h
  unfold DTyArg at h'
  rw [Tryz.underlying39] at h'
  simp only at h'
  unfold DTy at h'
  rw [Tryz.underlying39] at h'
  simp only at h'
  rw [show Tryz.prog.cellsOf 51 = 10 by kernel_rfl] at h'
  obtain ⟨z, es, e, h1, -⟩ := h'
  obtain ⟨l, rfl⟩ := rows_of (f := OpV.row) fun r hr => dty_op (h1 r hr)
  simp only [List.cons.injEq, and_true] at e
  exact ⟨z, l, e⟩
theorem arg_set {k : Nat} {d : DVal} (h : DTyArg Tryz.prog k 38 d) : ∃ x : SetgV, d = x.d := by
  have h' := dtyArg_mono (m := k + 8) (by omega) h
  unfold DTyArg at h'
  rw [Tryz.underlying38] at h'
  obtain ⟨cs, rfl, h2⟩ := h'
  unfold DTy at h2
  rw [Tryz.underlying38] at h2
  simp only [List.foldr] at h2
  obtain ⟨a0, b0, rfl, h0, a1, b1, rfl, h1, a2, b2, rfl, h2, rfl⟩ := h2
  obtain ⟨x0, rfl⟩ := dty_int h0
  obtain ⟨x1, rfl⟩ := dty_int h1
  obtain ⟨x2, rfl⟩ := dty_int h2
  exact ⟨⟨x0, x1, x2⟩, rfl⟩
end Go.Proofs.YtagkgekpfgepoaaGreatDoor
