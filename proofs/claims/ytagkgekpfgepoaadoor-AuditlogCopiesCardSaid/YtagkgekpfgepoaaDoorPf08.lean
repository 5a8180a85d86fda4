/- Texts of this proof, part 8: see the card for what is proved. -/
import Derived.Test.YtagkgekpfgepoaaDoorPf03
import Derived.Test.YtagkgekpfgepoaaDoorChecked
import Derived.KernelRfl
import Derived.Test.YtagkgekpfgepoaaDoorPf05
namespace Go.Proofs.YtagkgekpfgepoaaDoor
set_option linter.unusedVariables false
set_option maxRecDepth 100000
open Go
def fns : List (Nat × Nat) := [(10, 2), (12, 2), (13, 2), (15, 2), (16, 2), (19, 2), (20, 2), (21, 2), (26, 2), (27, 2), (32, 2), (34, 2), (35, 2), (38, 2), (46, 2), (47, 2), (48, 2), (49, 2), (56, 2)]
def pts : List Nat := []
theorem K5 : KnowsJ Tryd.prog 5 3 T5 := ⟨Tryd.f5, hintJ H5 fns pts, Tryd.func5, by kernel_rfl, by kernel_rfl⟩
theorem K7 : KnowsJ Tryd.prog 7 1 T7 := ⟨Tryd.f7, hintJ H7 fns pts, Tryd.func7, by kernel_rfl, by kernel_rfl⟩
theorem K8 : KnowsJ Tryd.prog 8 1 T8 := ⟨Tryd.f8, hintJ H8 fns pts, Tryd.func8, by kernel_rfl, by kernel_rfl⟩
theorem K9 : KnowsJ Tryd.prog 9 0 T9 := ⟨Tryd.f9, hintJ H9 fns pts, Tryd.func9, by kernel_rfl, by kernel_rfl⟩
theorem K10 : KnowsJ Tryd.prog 10 3 T10 := ⟨Tryd.f10, hintJ H10 fns pts, Tryd.func10, by kernel_rfl, by kernel_rfl⟩
theorem K12 : KnowsJ Tryd.prog 12 1 T12 := ⟨Tryd.f12, hintJ H12 fns pts, Tryd.func12, by kernel_rfl, by kernel_rfl⟩
theorem K13 : KnowsJ Tryd.prog 13 1 T13 := ⟨Tryd.f13, hintJ H13 fns pts, Tryd.func13, by kernel_rfl, by kernel_rfl⟩
theorem K14 : KnowsJ Tryd.prog 14 1 T14 := ⟨Tryd.f14, hintJ H14 fns pts, Tryd.func14, by kernel_rfl, by kernel_rfl⟩
theorem K15 : KnowsJ Tryd.prog 15 2 T15 := ⟨Tryd.f15, hintJ H15 fns pts, Tryd.func15, by kernel_rfl, by kernel_rfl⟩
theorem K16 : KnowsJ Tryd.prog 16 1 T16 := ⟨Tryd.f16, hintJ H16 fns pts, Tryd.func16, by kernel_rfl, by kernel_rfl⟩
theorem K17 : KnowsJ Tryd.prog 17 2 T17 := ⟨Tryd.f17, hintJ H17 fns pts, Tryd.func17, by kernel_rfl, by kernel_rfl⟩
theorem K18 : KnowsJ Tryd.prog 18 2 T18 := ⟨Tryd.f18, hintJ H18 fns pts, Tryd.func18, by kernel_rfl, by kernel_rfl⟩
theorem K19 : KnowsJ Tryd.prog 19 2 T19 := ⟨Tryd.f19, hintJ H19 fns pts, Tryd.func19, by kernel_rfl, by kernel_rfl⟩
theorem K20 : KnowsJ Tryd.prog 20 1 T20 := ⟨Tryd.f20, hintJ H20 fns pts, Tryd.func20, by kernel_rfl, by kernel_rfl⟩
theorem K21 : KnowsJ Tryd.prog 21 2 T21 := ⟨Tryd.f21, hintJ H21 fns pts, Tryd.func21, by kernel_rfl, by kernel_rfl⟩
theorem K22 : KnowsJ Tryd.prog 22 1 T22 := ⟨Tryd.f22, hintJ H22 fns pts, Tryd.func22, by kernel_rfl, by kernel_rfl⟩
theorem K23 : KnowsJ Tryd.prog 23 1 T23 := ⟨Tryd.f23, hintJ H23 fns pts, Tryd.func23, by kernel_rfl, by kernel_rfl⟩
theorem K24 : KnowsJ Tryd.prog 24 1 T24 := ⟨Tryd.f24, hintJ H24 fns pts, Tryd.func24, by kernel_rfl, by kernel_rfl⟩
theorem K25 : KnowsJ Tryd.prog 25 1 T25 := ⟨Tryd.f25, hintJ H25 fns pts, Tryd.func25, by kernel_rfl, by kernel_rfl⟩
theorem K26 : KnowsJ Tryd.prog 26 3 T26 := ⟨Tryd.f26, hintJ H26 fns pts, Tryd.func26, by kernel_rfl, by kernel_rfl⟩
theorem K27 : KnowsJ Tryd.prog 27 1 T27 := ⟨Tryd.f27, hintJ H27 fns pts, Tryd.func27, by kernel_rfl, by kernel_rfl⟩
theorem K28 : KnowsJ Tryd.prog 28 1 T28 := ⟨Tryd.f28, hintJ H28 fns pts, Tryd.func28, by kernel_rfl, by kernel_rfl⟩
theorem K29 : KnowsJ Tryd.prog 29 1 T29 := ⟨Tryd.f29, hintJ H29 fns pts, Tryd.func29, by kernel_rfl, by kernel_rfl⟩
theorem K30 : KnowsJ Tryd.prog 30 1 T30 := ⟨Tryd.f30, hintJ H30 fns pts, Tryd.func30, by kernel_rfl, by kernel_rfl⟩
theorem K31 : KnowsJ Tryd.prog 31 2 T31 := ⟨Tryd.f31, hintJ H31 fns pts, Tryd.func31, by kernel_rfl, by kernel_rfl⟩
theorem K32 : KnowsJ Tryd.prog 32 3 T32 := ⟨Tryd.f32, hintJ H32 fns pts, Tryd.func32, by kernel_rfl, by kernel_rfl⟩
theorem K33 : KnowsJ Tryd.prog 33 1 T33 := ⟨Tryd.f33, hintJ H33 fns pts, Tryd.func33, by kernel_rfl, by kernel_rfl⟩
theorem K34 : KnowsJ Tryd.prog 34 2 T34 := ⟨Tryd.f34, hintJ H34 fns pts, Tryd.func34, by kernel_rfl, by kernel_rfl⟩
theorem K35 : KnowsJ Tryd.prog 35 2 T35 := ⟨Tryd.f35, hintJ H35 fns pts, Tryd.func35, by kernel_rfl, by kernel_rfl⟩
theorem K36 : KnowsJ Tryd.prog 36 2 T36 := ⟨Tryd.f36, hintJ H36 fns pts, Tryd.func36, by kernel_rfl, by kernel_rfl⟩
theorem K37 : KnowsJ Tryd.prog 37 2 T37 := ⟨Tryd.f37, hintJ H37 fns pts, Tryd.func37, by kernel_rfl, by kernel_rfl⟩
theorem K38 : KnowsR Tryd.prog 38 1 T38 := ⟨Tryd.f38, hintR H38 fns pts, Tryd.func38, by kernel_rfl, by kernel_rfl⟩
theorem K39 : KnowsJ Tryd.prog 39 1 T39 := ⟨Tryd.f39, hintJ H39 fns pts, Tryd.func39, by kernel_rfl, by kernel_rfl⟩
theorem K40 : KnowsJ Tryd.prog 40 1 T40 := ⟨Tryd.f40, hintJ H40 fns pts, Tryd.func40, by kernel_rfl, by kernel_rfl⟩
theorem K41 : KnowsJ Tryd.prog 41 2 T41 := ⟨Tryd.f41, hintJ H41 fns pts, Tryd.func41, by kernel_rfl, by kernel_rfl⟩
theorem K42 : KnowsJ Tryd.prog 42 1 T42 := ⟨Tryd.f42, hintJ H42 fns pts, Tryd.func42, by kernel_rfl, by kernel_rfl⟩
theorem K43 : KnowsJ Tryd.prog 43 1 T43 := ⟨Tryd.f43, hintJ H43 fns pts, Tryd.func43, by kernel_rfl, by kernel_rfl⟩
theorem K44 : KnowsJ Tryd.prog 44 1 T44 := ⟨Tryd.f44, hintJ H44 fns pts, Tryd.func44, by kernel_rfl, by kernel_rfl⟩
theorem K45 : KnowsJ Tryd.prog 45 2 T45 := ⟨Tryd.f45, hintJ H45 fns pts, Tryd.func45, by kernel_rfl, by kernel_rfl⟩
theorem K46 : KnowsJ Tryd.prog 46 1 T46 := ⟨Tryd.f46, hintJ H46 fns pts, Tryd.func46, by kernel_rfl, by kernel_rfl⟩
theorem K47 : KnowsJ Tryd.prog 47 2 T47 := ⟨Tryd.f47, hintJ H47 fns pts, Tryd.func47, by kernel_rfl, by kernel_rfl⟩
theorem K48 : KnowsR Tryd.prog 48 2 T48 := ⟨Tryd.f48, hintR H48 fns pts, Tryd.func48, by kernel_rfl, by kernel_rfl⟩
theorem K49 : KnowsJ Tryd.prog 49 3 T49 := ⟨Tryd.f49, hintJ H49 fns pts, Tryd.func49, by kernel_rfl, by kernel_rfl⟩
theorem K50 : KnowsJ Tryd.prog 50 1 T50 := ⟨Tryd.f50, hintJ H50 fns pts, Tryd.func50, by kernel_rfl, by kernel_rfl⟩
theorem K54 : KnowsJ Tryd.prog 54 1 T54 := ⟨Tryd.f54, hintJ H54 fns pts, Tryd.func54, by kernel_rfl, by kernel_rfl⟩
theorem K55 : KnowsJ Tryd.prog 55 1 T55 := ⟨Tryd.f55, hintJ H55 fns pts, Tryd.func55, by kernel_rfl, by kernel_rfl⟩
theorem K56 : KnowsJ Tryd.prog 56 3 T56 := ⟨Tryd.f56, hintJ H56 fns pts, Tryd.func56, by kernel_rfl, by kernel_rfl⟩
theorem K57 : KnowsJ Tryd.prog 57 1 T57 := ⟨Tryd.f57, hintJ H57 fns pts, Tryd.func57, by kernel_rfl, by kernel_rfl⟩
end Go.Proofs.YtagkgekpfgepoaaDoor
namespace Go.Proofs.YtagkgekpfgepoaaDoor
set_option linter.unusedVariables false
set_option maxRecDepth 100000
open Go
theorem dty_str {k : Nat} {cs : List DVal} (h : DTy Tryd.prog (k + 1) 9 cs) : ∃ s : Bs, cs = [.str s] ∧ s.length ≤ maxLen := by
  unfold DTy at h
  rw [Tryd.underlying9] at h
  exact h
theorem dty_int {k : Nat} {cs : List DVal} (h : DTy Tryd.prog (k + 1) 3 cs) : ∃ i : Int, cs = [.int .i64 i] := by
  unfold DTy at h
  rw [Tryd.underlying3] at h
  obtain ⟨i, h, -⟩ := h
  exact ⟨i, h⟩
theorem dty_bool {k : Nat} {cs : List DVal} (h : DTy Tryd.prog (k + 1) 4 cs) : ∃ b : Bool, cs = [.bool b] := by
  unfold DTy at h
  rw [Tryd.underlying4] at h
  exact h
theorem dty_strs {k : Nat} {cs : List DVal} (h : DTy Tryd.prog (k + 2) 30 cs) : ∃ s : Sl Bs, cs = [strs s] ∧ s.l.length ≤ maxLen ∧ ∀ x ∈ s.l, x.length ≤ maxLen := by
  unfold DTy at h
  rw [Tryd.underlying30] at h
  obtain ⟨z, es, rfl, h1, h2⟩ := h
  obtain ⟨l, rfl⟩ := rows_of (f := fun s : Bs => [DVal.str s]) fun r hr => by
    obtain ⟨s, rfl, -⟩ := dty_str (h1 r hr)
    exact ⟨s, rfl⟩
  refine ⟨⟨z, l⟩, rfl, by simpa using h2, fun x hx => ?_⟩
  obtain ⟨s, e, hs⟩ := dty_str (h1 [.str x] (List.mem_map.2 ⟨x, hx, rfl⟩))
  simp only [List.cons.injEq, DVal.str.injEq, and_true] at e
  rw [e]; exact hs
theorem dty_rec {k : Nat} {cs : List DVal} (h : DTy Tryd.prog (k + 6) 32 cs) : ∃ x : RecV, cs = x.row := by
  unfold DTy at h
  rw [Tryd.underlying32] at h
  simp only [List.foldr] at h
  obtain ⟨a0, b0, rfl, h0, a1, b1, rfl, h1, a2, b2, rfl, h2, a3, b3, rfl, h3, a4, b4, rfl, h4, a5, b5, rfl, h5, a6, b6, rfl, h6, a7, b7, rfl, h7, a8, b8, rfl, h8, rfl⟩ := h
  obtain ⟨x0, rfl⟩ := dty_int h0
  obtain ⟨x1, rfl⟩ := dty_int h1
  obtain ⟨x2, rfl⟩ := dty_bool h2
  obtain ⟨x3, rfl⟩ := dty_bool h3
  obtain ⟨x4, rfl, -⟩ := dty_str h4
  obtain ⟨x5, rfl, -⟩ := dty_str h5
  obtain ⟨x6, rfl, -⟩ := dty_str h6
  obtain ⟨x7, rfl, -⟩ := dty_strs h7
  obtain ⟨x8, rfl⟩ := dty_int h8
  exact ⟨⟨x0, x1, x2, x3, x4, x5, x6, x7, x8⟩, rfl⟩
theorem dty_u8 {k : Nat} {cs : List DVal} (h : DTy Tryd.prog (k + 1) 5 cs) : ∃ c : Nat, cs = [.int .u8 (c : Nat)] := by
  unfold DTy at h
  rw [Tryd.underlying5] at h
  obtain ⟨i, rfl, hw⟩ := h
  simp [Lit.wf, IntKind.min, IntKind.max, IntKind.signed, IntKind.bits] at hw
  exact ⟨i.toNat, by rw [Int.toNat_of_nonneg (by omega)]⟩
theorem dty_op {k : Nat} {cs : List DVal} (h : DTy Tryd.prog (k + 7) 34 cs) : ∃ x : OpV, cs = x.row := by
  unfold DTy at h
  rw [Tryd.underlying34] at h
  simp only [List.foldr] at h
  obtain ⟨a0, b0, rfl, h0, a1, b1, rfl, h1, rfl⟩ := h
  obtain ⟨c, rfl⟩ := dty_u8 h0
  obtain ⟨r, rfl⟩ := dty_rec h1
  exact ⟨⟨c, r⟩, rfl⟩
theorem arg_ops {k : Nat} {d : DVal} (h : DTyArg Tryd.prog k 24 d) : ∃ (z : Zs) (l : List OpV), d = slD z 10 (l.map OpV.row) := by
  have h' := dtyArg_mono (m := k + 8) (by omega) h
  unfold DTyArg at h'
  rw [Tryd.underlying24] at h'
  simp only at h'
  unfold DTy at h'
  rw [Tryd.underlying24] at h'
  simp only at h'
  rw [show Tryd.prog.cellsOf 34 = 10 by kernel_rfl] at h'
  obtain ⟨z, es, e, h1, -⟩ := h'
  obtain ⟨l, rfl⟩ := rows_of (f := OpV.row) fun r hr => dty_op (h1 r hr)
  simp only [List.cons.injEq, and_true] at e
  exact ⟨z, l, e⟩
theorem arg_set {k : Nat} {d : DVal} (h : DTyArg Tryd.prog k 23 d) : ∃ x : SetgV, d = x.d := by
  have h' := dtyArg_mono (m := k + 8) (by omega) h
  unfold DTyArg at h'
  rw [Tryd.underlying23] at h'
  obtain ⟨cs, rfl, h2⟩ := h'
  unfold DTy at h2
  rw [Tryd.underlying23] at h2
  simp only [List.foldr] at h2
  obtain ⟨a0, b0, rfl, h0, a1, b1, rfl, h1, a2, b2, rfl, h2, rfl⟩ := h2
  obtain ⟨x0, rfl⟩ := dty_int h0
  obtain ⟨x1, rfl⟩ := dty_int h1
  obtain ⟨x2, rfl⟩ := dty_int h2
  exact ⟨⟨x0, x1, x2⟩, rfl⟩
end Go.Proofs.YtagkgekpfgepoaaDoor
