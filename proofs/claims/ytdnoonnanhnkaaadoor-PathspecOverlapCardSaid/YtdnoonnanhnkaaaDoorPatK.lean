/- Each function's code makes its tree. -/
import Derived.Test.YtdnoonnanhnkaaaDoorTreeFun
import Derived.Test.YtdnoonnanhnkaaaDoorPatT
import Derived.Test.YtdnoonnanhnkaaaDoorChecked
import Derived.KernelRfl
set_option linter.unusedVariables false
set_option maxRecDepth 100000
namespace Go.Proofs.YtdnoonnanhnkaaaDoor
open Go

/-- How callees are called, where not purely. -/
def fns : List (Nat × Nat) := []
/-- Types of elements that may hold addresses. -/
def pts : List Nat := [58, 62, 63]

theorem K3 : KnowsJ Tryd.prog 3 2 T3 := ⟨Tryd.f3, hintJ H3 fns pts, Tryd.func3, by kernel_rfl, by kernel_rfl⟩
theorem K4 : KnowsJ Tryd.prog 4 2 T4 := ⟨Tryd.f4, hintJ H4 fns pts, Tryd.func4, by kernel_rfl, by kernel_rfl⟩
theorem K5 : KnowsJ Tryd.prog 5 3 T5 := ⟨Tryd.f5, hintJ H5 fns pts, Tryd.func5, by kernel_rfl, by kernel_rfl⟩
theorem K6 : KnowsJ Tryd.prog 6 3 T6 := ⟨Tryd.f6, hintJ H6 fns pts, Tryd.func6, by kernel_rfl, by kernel_rfl⟩
theorem K7 : KnowsJ Tryd.prog 7 3 T7 := ⟨Tryd.f7, hintJ H7 fns pts, Tryd.func7, by kernel_rfl, by kernel_rfl⟩
theorem K8 : KnowsJ Tryd.prog 8 2 T8 := ⟨Tryd.f8, hintJ H8 fns pts, Tryd.func8, by kernel_rfl, by kernel_rfl⟩
theorem K9 : KnowsJ Tryd.prog 9 2 T9 := ⟨Tryd.f9, hintJ H9 fns pts, Tryd.func9, by kernel_rfl, by kernel_rfl⟩
theorem K10 : KnowsJ Tryd.prog 10 1 T10 := ⟨Tryd.f10, hintJ H10 fns pts, Tryd.func10, by kernel_rfl, by kernel_rfl⟩
theorem K11 : KnowsJ Tryd.prog 11 0 T11 := ⟨Tryd.f11, hintJ H11 fns pts, Tryd.func11, by kernel_rfl, by kernel_rfl⟩
theorem K12 : KnowsJ Tryd.prog 12 1 T12 := ⟨Tryd.f12, hintJ H12 fns pts, Tryd.func12, by kernel_rfl, by kernel_rfl⟩
theorem K13 : KnowsJ Tryd.prog 13 1 T13 := ⟨Tryd.f13, hintJ H13 fns pts, Tryd.func13, by kernel_rfl, by kernel_rfl⟩
theorem K14 : KnowsJ Tryd.prog 14 1 T14 := ⟨Tryd.f14, hintJ H14 fns pts, Tryd.func14, by kernel_rfl, by kernel_rfl⟩
theorem K15 : KnowsJ Tryd.prog 15 1 T15 := ⟨Tryd.f15, hintJ H15 fns pts, Tryd.func15, by kernel_rfl, by kernel_rfl⟩
theorem K16 : KnowsJ Tryd.prog 16 1 T16 := ⟨Tryd.f16, hintJ H16 fns pts, Tryd.func16, by kernel_rfl, by kernel_rfl⟩
theorem K17 : KnowsJ Tryd.prog 17 1 T17 := ⟨Tryd.f17, hintJ H17 fns pts, Tryd.func17, by kernel_rfl, by kernel_rfl⟩
theorem K18 : KnowsJ Tryd.prog 18 1 T18 := ⟨Tryd.f18, hintJ H18 fns pts, Tryd.func18, by kernel_rfl, by kernel_rfl⟩
theorem K19 : KnowsJ Tryd.prog 19 1 T19 := ⟨Tryd.f19, hintJ H19 fns pts, Tryd.func19, by kernel_rfl, by kernel_rfl⟩
theorem K20 : KnowsJ Tryd.prog 20 1 T20 := ⟨Tryd.f20, hintJ H20 fns pts, Tryd.func20, by kernel_rfl, by kernel_rfl⟩
theorem K21 : KnowsJ Tryd.prog 21 1 T21 := ⟨Tryd.f21, hintJ H21 fns pts, Tryd.func21, by kernel_rfl, by kernel_rfl⟩
theorem K22 : KnowsJ Tryd.prog 22 2 T22 := ⟨Tryd.f22, hintJ H22 fns pts, Tryd.func22, by kernel_rfl, by kernel_rfl⟩
theorem K23 : KnowsJ Tryd.prog 23 2 T23 := ⟨Tryd.f23, hintJ H23 fns pts, Tryd.func23, by kernel_rfl, by kernel_rfl⟩
theorem K24 : KnowsJ Tryd.prog 24 2 T24 := ⟨Tryd.f24, hintJ H24 fns pts, Tryd.func24, by kernel_rfl, by kernel_rfl⟩
theorem K25 : KnowsJ Tryd.prog 25 2 T25 := ⟨Tryd.f25, hintJ H25 fns pts, Tryd.func25, by kernel_rfl, by kernel_rfl⟩
theorem K26 : KnowsJ Tryd.prog 26 3 T26 := ⟨Tryd.f26, hintJ H26 fns pts, Tryd.func26, by kernel_rfl, by kernel_rfl⟩
theorem K27 : KnowsJ Tryd.prog 27 3 T27 := ⟨Tryd.f27, hintJ H27 fns pts, Tryd.func27, by kernel_rfl, by kernel_rfl⟩
theorem K28 : KnowsJ Tryd.prog 28 2 T28 := ⟨Tryd.f28, hintJ H28 fns pts, Tryd.func28, by kernel_rfl, by kernel_rfl⟩
theorem K29 : KnowsJ Tryd.prog 29 2 T29 := ⟨Tryd.f29, hintJ H29 fns pts, Tryd.func29, by kernel_rfl, by kernel_rfl⟩
theorem K30 : KnowsJ Tryd.prog 30 0 T30 := ⟨Tryd.f30, hintJ H30 fns pts, Tryd.func30, by kernel_rfl, by kernel_rfl⟩
theorem K31 : KnowsJ Tryd.prog 31 1 T31 := ⟨Tryd.f31, hintJ H31 fns pts, Tryd.func31, by kernel_rfl, by kernel_rfl⟩
theorem K32 : KnowsJ Tryd.prog 32 2 T32 := ⟨Tryd.f32, hintJ H32 fns pts, Tryd.func32, by kernel_rfl, by kernel_rfl⟩
theorem K33 : KnowsJ Tryd.prog 33 2 T33 := ⟨Tryd.f33, hintJ H33 fns pts, Tryd.func33, by kernel_rfl, by kernel_rfl⟩
theorem K34 : KnowsJ Tryd.prog 34 1 T34 := ⟨Tryd.f34, hintJ H34 fns pts, Tryd.func34, by kernel_rfl, by kernel_rfl⟩
theorem K35 : KnowsJ Tryd.prog 35 1 T35 := ⟨Tryd.f35, hintJ H35 fns pts, Tryd.func35, by kernel_rfl, by kernel_rfl⟩
theorem K36 : KnowsJ Tryd.prog 36 1 T36 := ⟨Tryd.f36, hintJ H36 fns pts, Tryd.func36, by kernel_rfl, by kernel_rfl⟩
theorem K37 : KnowsJ Tryd.prog 37 1 T37 := ⟨Tryd.f37, hintJ H37 fns pts, Tryd.func37, by kernel_rfl, by kernel_rfl⟩
theorem K38 : KnowsJ Tryd.prog 38 2 T38 := ⟨Tryd.f38, hintJ H38 fns pts, Tryd.func38, by kernel_rfl, by kernel_rfl⟩
theorem K39 : KnowsJ Tryd.prog 39 2 T39 := ⟨Tryd.f39, hintJ H39 fns pts, Tryd.func39, by kernel_rfl, by kernel_rfl⟩
theorem K40 : KnowsJ Tryd.prog 40 2 T40 := ⟨Tryd.f40, hintJ H40 fns pts, Tryd.func40, by kernel_rfl, by kernel_rfl⟩
theorem K41 : KnowsJ Tryd.prog 41 1 T41 := ⟨Tryd.f41, hintJ H41 fns pts, Tryd.func41, by kernel_rfl, by kernel_rfl⟩
theorem K42 : KnowsJ Tryd.prog 42 1 T42 := ⟨Tryd.f42, hintJ H42 fns pts, Tryd.func42, by kernel_rfl, by kernel_rfl⟩
theorem K43 : KnowsJ Tryd.prog 43 1 T43 := ⟨Tryd.f43, hintJ H43 fns pts, Tryd.func43, by kernel_rfl, by kernel_rfl⟩
theorem K44 : KnowsJ Tryd.prog 44 2 T44 := ⟨Tryd.f44, hintJ H44 fns pts, Tryd.func44, by kernel_rfl, by kernel_rfl⟩
theorem K45 : KnowsJ Tryd.prog 45 1 T45 := ⟨Tryd.f45, hintJ H45 fns pts, Tryd.func45, by kernel_rfl, by kernel_rfl⟩
theorem K46 : KnowsJ Tryd.prog 46 2 T46 := ⟨Tryd.f46, hintJ H46 fns pts, Tryd.func46, by kernel_rfl, by kernel_rfl⟩
theorem K47 : KnowsJ Tryd.prog 47 1 T47 := ⟨Tryd.f47, hintJ H47 fns pts, Tryd.func47, by kernel_rfl, by kernel_rfl⟩
theorem K48 : KnowsJ Tryd.prog 48 1 T48 := ⟨Tryd.f48, hintJ H48 fns pts, Tryd.func48, by kernel_rfl, by kernel_rfl⟩
theorem K50 : KnowsJ Tryd.prog 50 1 T50 := ⟨Tryd.f50, hintJ H50 fns pts, Tryd.func50, by kernel_rfl, by kernel_rfl⟩
theorem K51 : KnowsJ Tryd.prog 51 2 T51 := ⟨Tryd.f51, hintJ H51 fns pts, Tryd.func51, by kernel_rfl, by kernel_rfl⟩
theorem K52 : KnowsJ Tryd.prog 52 2 T52 := ⟨Tryd.f52, hintJ H52 fns pts, Tryd.func52, by kernel_rfl, by kernel_rfl⟩
theorem K54 : KnowsJ Tryd.prog 54 1 T54 := ⟨Tryd.f54, hintJ H54 fns pts, Tryd.func54, by kernel_rfl, by kernel_rfl⟩
theorem K55 : KnowsJ Tryd.prog 55 1 T55 := ⟨Tryd.f55, hintJ H55 fns pts, Tryd.func55, by kernel_rfl, by kernel_rfl⟩
theorem K56 : KnowsJ Tryd.prog 56 1 T56 := ⟨Tryd.f56, hintJ H56 fns pts, Tryd.func56, by kernel_rfl, by kernel_rfl⟩
theorem K57 : KnowsJ Tryd.prog 57 2 T57 := ⟨Tryd.f57, hintJ H57 fns pts, Tryd.func57, by kernel_rfl, by kernel_rfl⟩
theorem K58 : KnowsJ Tryd.prog 58 2 T58 := ⟨Tryd.f58, hintJ H58 fns pts, Tryd.func58, by kernel_rfl, by kernel_rfl⟩
theorem K63 : KnowsJ Tryd.prog 63 2 T63 := ⟨Tryd.f63, hintJ H63 fns pts, Tryd.func63, by kernel_rfl, by kernel_rfl⟩
theorem K67 : KnowsJ Tryd.prog 67 2 T67 := ⟨Tryd.f67, hintJ H67 fns pts, Tryd.func67, by kernel_rfl, by kernel_rfl⟩
theorem K94 : KnowsJ Tryd.prog 94 1 T94 := ⟨Tryd.f94, hintJ H94 fns pts, Tryd.func94, by kernel_rfl, by kernel_rfl⟩
theorem K95 : KnowsJ Tryd.prog 95 1 T95 := ⟨Tryd.f95, hintJ H95 fns pts, Tryd.func95, by kernel_rfl, by kernel_rfl⟩

end Go.Proofs.YtdnoonnanhnkaaaDoor
