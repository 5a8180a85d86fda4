/- Texts of this proof, part 6: see the card for what is proved. -/
import Derived.Test.YtdibpeknpmhknaaFq02
import Derived.Test.YtdibpeknpmhknaaChecked
import Derived.KernelRfl
import Derived.Test.YtdibpeknpmhknaaFq03
namespace Go.Proofs.Ytdibpeknpmhknaa
set_option linter.unusedVariables false
set_option maxRecDepth 100000
open Go
def fns : List (Nat × Nat) := [(5, 2), (7, 2), (8, 2), (13, 2), (14, 2), (15, 2), (18, 2), (19, 2), (20, 2), (21, 2), (22, 2), (23, 2), (24, 2), (25, 2), (31, 2), (32, 2), (34, 2), (51, 2), (52, 2), (53, 2), (54, 2), (55, 2), (56, 2)]
def pts : List Nat := []
theorem K3 : KnowsJ Try.prog 3 1 T3 := ⟨Try.f3, hintJ H3 fns pts, Try.func3, by kernel_rfl, by kernel_rfl⟩
theorem K4 : KnowsJ Try.prog 4 0 T4 := ⟨Try.f4, hintJ H4 fns pts, Try.func4, by kernel_rfl, by kernel_rfl⟩
theorem K5 : KnowsJ Try.prog 5 1 T5 := ⟨Try.f5, hintJ H5 fns pts, Try.func5, by kernel_rfl, by kernel_rfl⟩
theorem K6 : KnowsJ Try.prog 6 0 T6 := ⟨Try.f6, hintJ H6 fns pts, Try.func6, by kernel_rfl, by kernel_rfl⟩
theorem K7 : KnowsJ Try.prog 7 2 T7 := ⟨Try.f7, hintJ H7 fns pts, Try.func7, by kernel_rfl, by kernel_rfl⟩
theorem K8 : KnowsJ Try.prog 8 1 T8 := ⟨Try.f8, hintJ H8 fns pts, Try.func8, by kernel_rfl, by kernel_rfl⟩
theorem K9 : KnowsJ Try.prog 9 0 T9 := ⟨Try.f9, hintJ H9 fns pts, Try.func9, by kernel_rfl, by kernel_rfl⟩
theorem K10 : KnowsJ Try.prog 10 1 T10 := ⟨Try.f10, hintJ H10 fns pts, Try.func10, by kernel_rfl, by kernel_rfl⟩
theorem K11 : KnowsJ Try.prog 11 0 T11 := ⟨Try.f11, hintJ H11 fns pts, Try.func11, by kernel_rfl, by kernel_rfl⟩
theorem K12 : KnowsJ Try.prog 12 1 T12 := ⟨Try.f12, hintJ H12 fns pts, Try.func12, by kernel_rfl, by kernel_rfl⟩
theorem K13 : KnowsJ Try.prog 13 1 T13 := ⟨Try.f13, hintJ H13 fns pts, Try.func13, by kernel_rfl, by kernel_rfl⟩
theorem K14 : KnowsJ Try.prog 14 3 T14 := ⟨Try.f14, hintJ H14 fns pts, Try.func14, by kernel_rfl, by kernel_rfl⟩
theorem K15 : KnowsJ Try.prog 15 1 T15 := ⟨Try.f15, hintJ H15 fns pts, Try.func15, by kernel_rfl, by kernel_rfl⟩
theorem K16 : KnowsJ Try.prog 16 2 T16 := ⟨Try.f16, hintJ H16 fns pts, Try.func16, by kernel_rfl, by kernel_rfl⟩
theorem K17 : KnowsJ Try.prog 17 0 T17 := ⟨Try.f17, hintJ H17 fns pts, Try.func17, by kernel_rfl, by kernel_rfl⟩
theorem K18 : KnowsJ Try.prog 18 3 T18 := ⟨Try.f18, hintJ H18 fns pts, Try.func18, by kernel_rfl, by kernel_rfl⟩
theorem K19 : KnowsJ Try.prog 19 2 T19 := ⟨Try.f19, hintJ H19 fns pts, Try.func19, by kernel_rfl, by kernel_rfl⟩
theorem K20 : KnowsJ Try.prog 20 2 T20 := ⟨Try.f20, hintJ H20 fns pts, Try.func20, by kernel_rfl, by kernel_rfl⟩
theorem K21 : KnowsJ Try.prog 21 2 T21 := ⟨Try.f21, hintJ H21 fns pts, Try.func21, by kernel_rfl, by kernel_rfl⟩
theorem K22 : KnowsJ Try.prog 22 2 T22 := ⟨Try.f22, hintJ H22 fns pts, Try.func22, by kernel_rfl, by kernel_rfl⟩
theorem K23 : KnowsJ Try.prog 23 2 T23 := ⟨Try.f23, hintJ H23 fns pts, Try.func23, by kernel_rfl, by kernel_rfl⟩
theorem K24 : KnowsJ Try.prog 24 1 T24 := ⟨Try.f24, hintJ H24 fns pts, Try.func24, by kernel_rfl, by kernel_rfl⟩
theorem K25 : KnowsJ Try.prog 25 2 T25 := ⟨Try.f25, hintJ H25 fns pts, Try.func25, by kernel_rfl, by kernel_rfl⟩
theorem K26 : KnowsJ Try.prog 26 2 T26 := ⟨Try.f26, hintJ H26 fns pts, Try.func26, by kernel_rfl, by kernel_rfl⟩
theorem K27 : KnowsJ Try.prog 27 3 T27 := ⟨Try.f27, hintJ H27 fns pts, Try.func27, by kernel_rfl, by kernel_rfl⟩
theorem K28 : KnowsJ Try.prog 28 1 T28 := ⟨Try.f28, hintJ H28 fns pts, Try.func28, by kernel_rfl, by kernel_rfl⟩
theorem K29 : KnowsJ Try.prog 29 2 T29 := ⟨Try.f29, hintJ H29 fns pts, Try.func29, by kernel_rfl, by kernel_rfl⟩
theorem K30 : KnowsJ Try.prog 30 2 T30 := ⟨Try.f30, hintJ H30 fns pts, Try.func30, by kernel_rfl, by kernel_rfl⟩
theorem K31 : KnowsJ Try.prog 31 3 T31 := ⟨Try.f31, hintJ H31 fns pts, Try.func31, by kernel_rfl, by kernel_rfl⟩
theorem K32 : KnowsJ Try.prog 32 2 T32 := ⟨Try.f32, hintJ H32 fns pts, Try.func32, by kernel_rfl, by kernel_rfl⟩
theorem K33 : KnowsJ Try.prog 33 2 T33 := ⟨Try.f33, hintJ H33 fns pts, Try.func33, by kernel_rfl, by kernel_rfl⟩
theorem K34 : KnowsJ Try.prog 34 2 T34 := ⟨Try.f34, hintJ H34 fns pts, Try.func34, by kernel_rfl, by kernel_rfl⟩
theorem K35 : KnowsJ Try.prog 35 1 T35 := ⟨Try.f35, hintJ H35 fns pts, Try.func35, by kernel_rfl, by kernel_rfl⟩
theorem K36 : KnowsJ Try.prog 36 1 T36 := ⟨Try.f36, hintJ H36 fns pts, Try.func36, by kernel_rfl, by kernel_rfl⟩
theorem K37 : KnowsJ Try.prog 37 1 T37 := ⟨Try.f37, hintJ H37 fns pts, Try.func37, by kernel_rfl, by kernel_rfl⟩
theorem K38 : KnowsJ Try.prog 38 3 T38 := ⟨Try.f38, hintJ H38 fns pts, Try.func38, by kernel_rfl, by kernel_rfl⟩
theorem K39 : KnowsJ Try.prog 39 2 T39 := ⟨Try.f39, hintJ H39 fns pts, Try.func39, by kernel_rfl, by kernel_rfl⟩
theorem K40 : KnowsJ Try.prog 40 1 T40 := ⟨Try.f40, hintJ H40 fns pts, Try.func40, by kernel_rfl, by kernel_rfl⟩
theorem K41 : KnowsJ Try.prog 41 2 T41 := ⟨Try.f41, hintJ H41 fns pts, Try.func41, by kernel_rfl, by kernel_rfl⟩
theorem K42 : KnowsJ Try.prog 42 3 T42 := ⟨Try.f42, hintJ H42 fns pts, Try.func42, by kernel_rfl, by kernel_rfl⟩
theorem K43 : KnowsJ Try.prog 43 3 T43 := ⟨Try.f43, hintJ H43 fns pts, Try.func43, by kernel_rfl, by kernel_rfl⟩
theorem K44 : KnowsJ Try.prog 44 2 T44 := ⟨Try.f44, hintJ H44 fns pts, Try.func44, by kernel_rfl, by kernel_rfl⟩
theorem K45 : KnowsJ Try.prog 45 2 T45 := ⟨Try.f45, hintJ H45 fns pts, Try.func45, by kernel_rfl, by kernel_rfl⟩
theorem K46 : KnowsJ Try.prog 46 2 T46 := ⟨Try.f46, hintJ H46 fns pts, Try.func46, by kernel_rfl, by kernel_rfl⟩
theorem K47 : KnowsJ Try.prog 47 2 T47 := ⟨Try.f47, hintJ H47 fns pts, Try.func47, by kernel_rfl, by kernel_rfl⟩
theorem K48 : KnowsJ Try.prog 48 3 T48 := ⟨Try.f48, hintJ H48 fns pts, Try.func48, by kernel_rfl, by kernel_rfl⟩
theorem K49 : KnowsJ Try.prog 49 3 T49 := ⟨Try.f49, hintJ H49 fns pts, Try.func49, by kernel_rfl, by kernel_rfl⟩
theorem K50 : KnowsJ Try.prog 50 3 T50 := ⟨Try.f50, hintJ H50 fns pts, Try.func50, by kernel_rfl, by kernel_rfl⟩
theorem K51 : KnowsJ Try.prog 51 2 T51 := ⟨Try.f51, hintJ H51 fns pts, Try.func51, by kernel_rfl, by kernel_rfl⟩
theorem K52 : KnowsJ Try.prog 52 2 T52 := ⟨Try.f52, hintJ H52 fns pts, Try.func52, by kernel_rfl, by kernel_rfl⟩
theorem K53 : KnowsJ Try.prog 53 2 T53 := ⟨Try.f53, hintJ H53 fns pts, Try.func53, by kernel_rfl, by kernel_rfl⟩
theorem K54 : KnowsJ Try.prog 54 2 T54 := ⟨Try.f54, hintJ H54 fns pts, Try.func54, by kernel_rfl, by kernel_rfl⟩
theorem K55 : KnowsJ Try.prog 55 2 T55 := ⟨Try.f55, hintJ H55 fns pts, Try.func55, by kernel_rfl, by kernel_rfl⟩
theorem K56 : KnowsJ Try.prog 56 2 T56 := ⟨Try.f56, hintJ H56 fns pts, Try.func56, by kernel_rfl, by kernel_rfl⟩
theorem K57 : KnowsJ Try.prog 57 2 T57 := ⟨Try.f57, hintJ H57 fns pts, Try.func57, by kernel_rfl, by kernel_rfl⟩
theorem K58 : KnowsJ Try.prog 58 2 T58 := ⟨Try.f58, hintJ H58 fns pts, Try.func58, by kernel_rfl, by kernel_rfl⟩
theorem K59 : KnowsJ Try.prog 59 2 T59 := ⟨Try.f59, hintJ H59 fns pts, Try.func59, by kernel_rfl, by kernel_rfl⟩
theorem K60 : KnowsJ Try.prog 60 1 T60 := ⟨Try.f60, hintJ H60 fns pts, Try.func60, by kernel_rfl, by kernel_rfl⟩
theorem K62 : KnowsJ Try.prog 62 2 T62 := ⟨Try.f62, hintJ H62 fns pts, Try.func62, by kernel_rfl, by kernel_rfl⟩
theorem K66 : KnowsJ Try.prog 66 1 T66 := ⟨Try.f66, hintJ H66 fns pts, Try.func66, by kernel_rfl, by kernel_rfl⟩
theorem K69 : KnowsJ Try.prog 69 1 T69 := ⟨Try.f69, hintJ H69 fns pts, Try.func69, by kernel_rfl, by kernel_rfl⟩
end Go.Proofs.Ytdibpeknpmhknaa
namespace Go.Proofs.Ytdibpeknpmhknaa
set_option linter.unusedVariables false
set_option maxRecDepth 100000
open Go
theorem wf_u16 {i : Int} (h : (Lit.int .u16 i).wf = true) : ∃ c : Nat, i = c ∧ c < 65536 := by
  simp [Lit.wf, IntKind.min, IntKind.max, IntKind.signed, IntKind.bits] at h
  exact ⟨i.toNat, by omega, by omega⟩
theorem arg_u16 {k : Nat} {d : DVal} (h : DTyArg Try.prog k 22 d) : ∃ v : Nat, d = .int .u16 v ∧ v < 65536 := by
  have h' := dtyArg_mono (m := k + 8) (by omega) h
  unfold DTyArg at h'
  rw [Try.underlying22] at h'
  simp only at h'
  unfold DTy at h'
  rw [Try.underlying22] at h'
  obtain ⟨i, h1, h2⟩ := h'
  obtain ⟨v, rfl, hv⟩ := wf_u16 h2
  simp only [List.cons.injEq, and_true] at h1
  exact ⟨v, h1, hv⟩
end Go.Proofs.Ytdibpeknpmhknaa
