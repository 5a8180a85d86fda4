/- Each function's code makes its tree. -/
import Derived.Test.YticbfdcfopilfaaDoorTreeFun
import Derived.Test.YticbfdcfopilfaaDoorLevT
import Derived.Test.YticbfdcfopilfaaDoorChecked
import Derived.KernelRfl
set_option linter.unusedVariables false
set_option maxRecDepth 100000
namespace Go.Proofs.YticbfdcfopilfaaDoor
open Go

/-- How callees are called, where not purely. -/
def fns : List (Nat × Nat) := []

theorem K3 : KnowsJ Tryd.prog 3 3 T3 := ⟨Tryd.f3, hintJ H3 fns, Tryd.func3, by kernel_rfl, by kernel_rfl⟩
theorem K4 : KnowsJ Tryd.prog 4 2 T4 := ⟨Tryd.f4, hintJ H4 fns, Tryd.func4, by kernel_rfl, by kernel_rfl⟩
theorem K5 : KnowsJ Tryd.prog 5 3 T5 := ⟨Tryd.f5, hintJ H5 fns, Tryd.func5, by kernel_rfl, by kernel_rfl⟩
theorem K6 : KnowsJ Tryd.prog 6 2 T6 := ⟨Tryd.f6, hintJ H6 fns, Tryd.func6, by kernel_rfl, by kernel_rfl⟩
theorem K7 : KnowsJ Tryd.prog 7 2 T7 := ⟨Tryd.f7, hintJ H7 fns, Tryd.func7, by kernel_rfl, by kernel_rfl⟩
theorem K8 : KnowsJ Tryd.prog 8 2 T8 := ⟨Tryd.f8, hintJ H8 fns, Tryd.func8, by kernel_rfl, by kernel_rfl⟩
theorem K9 : KnowsJ Tryd.prog 9 3 T9 := ⟨Tryd.f9, hintJ H9 fns, Tryd.func9, by kernel_rfl, by kernel_rfl⟩
theorem K10 : KnowsJ Tryd.prog 10 2 T10 := ⟨Tryd.f10, hintJ H10 fns, Tryd.func10, by kernel_rfl, by kernel_rfl⟩
theorem K11 : KnowsJ Tryd.prog 11 2 T11 := ⟨Tryd.f11, hintJ H11 fns, Tryd.func11, by kernel_rfl, by kernel_rfl⟩
theorem K12 : KnowsJ Tryd.prog 12 3 T12 := ⟨Tryd.f12, hintJ H12 fns, Tryd.func12, by kernel_rfl, by kernel_rfl⟩
theorem K13 : KnowsJ Tryd.prog 13 3 T13 := ⟨Tryd.f13, hintJ H13 fns, Tryd.func13, by kernel_rfl, by kernel_rfl⟩
theorem K14 : KnowsJ Tryd.prog 14 3 T14 := ⟨Tryd.f14, hintJ H14 fns, Tryd.func14, by kernel_rfl, by kernel_rfl⟩
theorem K15 : KnowsJ Tryd.prog 15 3 T15 := ⟨Tryd.f15, hintJ H15 fns, Tryd.func15, by kernel_rfl, by kernel_rfl⟩
theorem K16 : KnowsJ Tryd.prog 16 0 T16 := ⟨Tryd.f16, hintJ H16 fns, Tryd.func16, by kernel_rfl, by kernel_rfl⟩
theorem K17 : KnowsJ Tryd.prog 17 2 T17 := ⟨Tryd.f17, hintJ H17 fns, Tryd.func17, by kernel_rfl, by kernel_rfl⟩
theorem K18 : KnowsJ Tryd.prog 18 2 T18 := ⟨Tryd.f18, hintJ H18 fns, Tryd.func18, by kernel_rfl, by kernel_rfl⟩
theorem K19 : KnowsJ Tryd.prog 19 2 T19 := ⟨Tryd.f19, hintJ H19 fns, Tryd.func19, by kernel_rfl, by kernel_rfl⟩
theorem K20 : KnowsJ Tryd.prog 20 2 T20 := ⟨Tryd.f20, hintJ H20 fns, Tryd.func20, by kernel_rfl, by kernel_rfl⟩
theorem K21 : KnowsJ Tryd.prog 21 2 T21 := ⟨Tryd.f21, hintJ H21 fns, Tryd.func21, by kernel_rfl, by kernel_rfl⟩
theorem K22 : KnowsJ Tryd.prog 22 2 T22 := ⟨Tryd.f22, hintJ H22 fns, Tryd.func22, by kernel_rfl, by kernel_rfl⟩
theorem K23 : KnowsJ Tryd.prog 23 1 T23 := ⟨Tryd.f23, hintJ H23 fns, Tryd.func23, by kernel_rfl, by kernel_rfl⟩
theorem K24 : KnowsJ Tryd.prog 24 3 T24 := ⟨Tryd.f24, hintJ H24 fns, Tryd.func24, by kernel_rfl, by kernel_rfl⟩
theorem K25 : KnowsJ Tryd.prog 25 3 T25 := ⟨Tryd.f25, hintJ H25 fns, Tryd.func25, by kernel_rfl, by kernel_rfl⟩
theorem K26 : KnowsJ Tryd.prog 26 3 T26 := ⟨Tryd.f26, hintJ H26 fns, Tryd.func26, by kernel_rfl, by kernel_rfl⟩
theorem K27 : KnowsJ Tryd.prog 27 3 T27 := ⟨Tryd.f27, hintJ H27 fns, Tryd.func27, by kernel_rfl, by kernel_rfl⟩
theorem K28 : KnowsJ Tryd.prog 28 1 T28 := ⟨Tryd.f28, hintJ H28 fns, Tryd.func28, by kernel_rfl, by kernel_rfl⟩
theorem K29 : KnowsJ Tryd.prog 29 3 T29 := ⟨Tryd.f29, hintJ H29 fns, Tryd.func29, by kernel_rfl, by kernel_rfl⟩
theorem K30 : KnowsJ Tryd.prog 30 3 T30 := ⟨Tryd.f30, hintJ H30 fns, Tryd.func30, by kernel_rfl, by kernel_rfl⟩
theorem K31 : KnowsJ Tryd.prog 31 3 T31 := ⟨Tryd.f31, hintJ H31 fns, Tryd.func31, by kernel_rfl, by kernel_rfl⟩
theorem K32 : KnowsJ Tryd.prog 32 3 T32 := ⟨Tryd.f32, hintJ H32 fns, Tryd.func32, by kernel_rfl, by kernel_rfl⟩
theorem K33 : KnowsJ Tryd.prog 33 2 T33 := ⟨Tryd.f33, hintJ H33 fns, Tryd.func33, by kernel_rfl, by kernel_rfl⟩
theorem K34 : KnowsJ Tryd.prog 34 2 T34 := ⟨Tryd.f34, hintJ H34 fns, Tryd.func34, by kernel_rfl, by kernel_rfl⟩
theorem K35 : KnowsJ Tryd.prog 35 2 T35 := ⟨Tryd.f35, hintJ H35 fns, Tryd.func35, by kernel_rfl, by kernel_rfl⟩
theorem K36 : KnowsJ Tryd.prog 36 2 T36 := ⟨Tryd.f36, hintJ H36 fns, Tryd.func36, by kernel_rfl, by kernel_rfl⟩
theorem K37 : KnowsJ Tryd.prog 37 2 T37 := ⟨Tryd.f37, hintJ H37 fns, Tryd.func37, by kernel_rfl, by kernel_rfl⟩
theorem K38 : KnowsJ Tryd.prog 38 2 T38 := ⟨Tryd.f38, hintJ H38 fns, Tryd.func38, by kernel_rfl, by kernel_rfl⟩
theorem K39 : KnowsJ Tryd.prog 39 3 T39 := ⟨Tryd.f39, hintJ H39 fns, Tryd.func39, by kernel_rfl, by kernel_rfl⟩
theorem K40 : KnowsJ Tryd.prog 40 3 T40 := ⟨Tryd.f40, hintJ H40 fns, Tryd.func40, by kernel_rfl, by kernel_rfl⟩
theorem K41 : KnowsJ Tryd.prog 41 2 T41 := ⟨Tryd.f41, hintJ H41 fns, Tryd.func41, by kernel_rfl, by kernel_rfl⟩
theorem K42 : KnowsJ Tryd.prog 42 2 T42 := ⟨Tryd.f42, hintJ H42 fns, Tryd.func42, by kernel_rfl, by kernel_rfl⟩
theorem K43 : KnowsJ Tryd.prog 43 3 T43 := ⟨Tryd.f43, hintJ H43 fns, Tryd.func43, by kernel_rfl, by kernel_rfl⟩
theorem K44 : KnowsJ Tryd.prog 44 3 T44 := ⟨Tryd.f44, hintJ H44 fns, Tryd.func44, by kernel_rfl, by kernel_rfl⟩
theorem K45 : KnowsJ Tryd.prog 45 1 T45 := ⟨Tryd.f45, hintJ H45 fns, Tryd.func45, by kernel_rfl, by kernel_rfl⟩
theorem K46 : KnowsJ Tryd.prog 46 2 T46 := ⟨Tryd.f46, hintJ H46 fns, Tryd.func46, by kernel_rfl, by kernel_rfl⟩
theorem K48 : KnowsJ Tryd.prog 48 1 T48 := ⟨Tryd.f48, hintJ H48 fns, Tryd.func48, by kernel_rfl, by kernel_rfl⟩
theorem K49 : KnowsJ Tryd.prog 49 2 T49 := ⟨Tryd.f49, hintJ H49 fns, Tryd.func49, by kernel_rfl, by kernel_rfl⟩
theorem K50 : KnowsJ Tryd.prog 50 1 T50 := ⟨Tryd.f50, hintJ H50 fns, Tryd.func50, by kernel_rfl, by kernel_rfl⟩
theorem K51 : KnowsJ Tryd.prog 51 2 T51 := ⟨Tryd.f51, hintJ H51 fns, Tryd.func51, by kernel_rfl, by kernel_rfl⟩
theorem K52 : KnowsJ Tryd.prog 52 2 T52 := ⟨Tryd.f52, hintJ H52 fns, Tryd.func52, by kernel_rfl, by kernel_rfl⟩
theorem K53 : KnowsJ Tryd.prog 53 3 T53 := ⟨Tryd.f53, hintJ H53 fns, Tryd.func53, by kernel_rfl, by kernel_rfl⟩
theorem K54 : KnowsJ Tryd.prog 54 2 T54 := ⟨Tryd.f54, hintJ H54 fns, Tryd.func54, by kernel_rfl, by kernel_rfl⟩
theorem K55 : KnowsJ Tryd.prog 55 2 T55 := ⟨Tryd.f55, hintJ H55 fns, Tryd.func55, by kernel_rfl, by kernel_rfl⟩
theorem K56 : KnowsJ Tryd.prog 56 1 T56 := ⟨Tryd.f56, hintJ H56 fns, Tryd.func56, by kernel_rfl, by kernel_rfl⟩
theorem K58 : KnowsJ Tryd.prog 58 2 T58 := ⟨Tryd.f58, hintJ H58 fns, Tryd.func58, by kernel_rfl, by kernel_rfl⟩
theorem K60 : KnowsJ Tryd.prog 60 1 T60 := ⟨Tryd.f60, hintJ H60 fns, Tryd.func60, by kernel_rfl, by kernel_rfl⟩
theorem K61 : KnowsJ Tryd.prog 61 2 T61 := ⟨Tryd.f61, hintJ H61 fns, Tryd.func61, by kernel_rfl, by kernel_rfl⟩
theorem K62 : KnowsJ Tryd.prog 62 1 T62 := ⟨Tryd.f62, hintJ H62 fns, Tryd.func62, by kernel_rfl, by kernel_rfl⟩
theorem K63 : KnowsJ Tryd.prog 63 2 T63 := ⟨Tryd.f63, hintJ H63 fns, Tryd.func63, by kernel_rfl, by kernel_rfl⟩
theorem K64 : KnowsJ Tryd.prog 64 2 T64 := ⟨Tryd.f64, hintJ H64 fns, Tryd.func64, by kernel_rfl, by kernel_rfl⟩
theorem K68 : KnowsJ Tryd.prog 68 2 T68 := ⟨Tryd.f68, hintJ H68 fns, Tryd.func68, by kernel_rfl, by kernel_rfl⟩
theorem K70 : KnowsJ Tryd.prog 70 1 T70 := ⟨Tryd.f70, hintJ H70 fns, Tryd.func70, by kernel_rfl, by kernel_rfl⟩
theorem K72 : KnowsJ Tryd.prog 72 1 T72 := ⟨Tryd.f72, hintJ H72 fns, Tryd.func72, by kernel_rfl, by kernel_rfl⟩
theorem K73 : KnowsJ Tryd.prog 73 2 T73 := ⟨Tryd.f73, hintJ H73 fns, Tryd.func73, by kernel_rfl, by kernel_rfl⟩

end Go.Proofs.YticbfdcfopilfaaDoor
