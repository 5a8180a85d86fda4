/- Texts of this proof, part 9: see the card for what is proved. -/
import Derived.Test.YtdibpeknpmhknaaGreatSq02
import Derived.Test.YtdibpeknpmhknaaGreatChecked
import Derived.KernelRfl
import Derived.Test.YtdibpeknpmhknaaGreatSq06
import Derived.Test.YtdibpeknpmhknaaGreatSq05
set_option linter.unusedVariables false
set_option maxRecDepth 100000
namespace Go.Proofs.YtdibpeknpmhknaaGreat
open Go
def fns : List (Nat × Nat) := [(10, 2), (12, 2), (13, 2), (14, 2), (16, 2), (17, 2), (18, 2), (19, 2), (20, 2), (21, 2), (22, 2), (29, 2), (30, 2), (39, 2), (40, 2), (41, 2), (45, 2), (62, 2), (63, 2), (64, 2), (81, 1), (97, 2), (134, 2), (135, 2), (136, 2), (137, 2), (138, 2), (139, 2)]
def pts : List Nat := []
theorem K3 : Qr Tryz.prog 3 2 T3 := ⟨Tryz.f3, Qy H3 fns pts, Tryz.func3, by kernel_rfl, by kernel_rfl⟩
theorem K4 : Qr Tryz.prog 4 1 T4 := ⟨Tryz.f4, Qy H4 fns pts, Tryz.func4, by kernel_rfl, by kernel_rfl⟩
theorem K5 : Qr Tryz.prog 5 2 T5 := ⟨Tryz.f5, Qy H5 fns pts, Tryz.func5, by kernel_rfl, by kernel_rfl⟩
theorem K6 : Qr Tryz.prog 6 3 T6 := ⟨Tryz.f6, Qy H6 fns pts, Tryz.func6, by kernel_rfl, by kernel_rfl⟩
theorem K7 : Qr Tryz.prog 7 3 T7 := ⟨Tryz.f7, Qy H7 fns pts, Tryz.func7, by kernel_rfl, by kernel_rfl⟩
theorem K8 : Qr Tryz.prog 8 1 T8 := ⟨Tryz.f8, Qy H8 fns pts, Tryz.func8, by kernel_rfl, by kernel_rfl⟩
theorem K9 : Qr Tryz.prog 9 0 T9 := ⟨Tryz.f9, Qy H9 fns pts, Tryz.func9, by kernel_rfl, by kernel_rfl⟩
theorem K10 : Qr Tryz.prog 10 1 T10 := ⟨Tryz.f10, Qy H10 fns pts, Tryz.func10, by kernel_rfl, by kernel_rfl⟩
theorem K11 : Qr Tryz.prog 11 1 T11 := ⟨Tryz.f11, Qy H11 fns pts, Tryz.func11, by kernel_rfl, by kernel_rfl⟩
theorem K12 : Qr Tryz.prog 12 3 T12 := ⟨Tryz.f12, Qy H12 fns pts, Tryz.func12, by kernel_rfl, by kernel_rfl⟩
theorem K13 : Qr Tryz.prog 13 2 T13 := ⟨Tryz.f13, Qy H13 fns pts, Tryz.func13, by kernel_rfl, by kernel_rfl⟩
theorem K14 : Qr Tryz.prog 14 3 T14 := ⟨Tryz.f14, Qy H14 fns pts, Tryz.func14, by kernel_rfl, by kernel_rfl⟩
theorem K15 : Qr Tryz.prog 15 3 T15 := ⟨Tryz.f15, Qy H15 fns pts, Tryz.func15, by kernel_rfl, by kernel_rfl⟩
theorem K16 : Qr Tryz.prog 16 2 T16 := ⟨Tryz.f16, Qy H16 fns pts, Tryz.func16, by kernel_rfl, by kernel_rfl⟩
theorem K17 : Qr Tryz.prog 17 2 T17 := ⟨Tryz.f17, Qy H17 fns pts, Tryz.func17, by kernel_rfl, by kernel_rfl⟩
theorem K18 : Qr Tryz.prog 18 2 T18 := ⟨Tryz.f18, Qy H18 fns pts, Tryz.func18, by kernel_rfl, by kernel_rfl⟩
theorem K19 : Qr Tryz.prog 19 1 T19 := ⟨Tryz.f19, Qy H19 fns pts, Tryz.func19, by kernel_rfl, by kernel_rfl⟩
theorem K20 : Qr Tryz.prog 20 1 T20 := ⟨Tryz.f20, Qy H20 fns pts, Tryz.func20, by kernel_rfl, by kernel_rfl⟩
theorem K21 : Qr Tryz.prog 21 2 T21 := ⟨Tryz.f21, Qy H21 fns pts, Tryz.func21, by kernel_rfl, by kernel_rfl⟩
theorem K22 : Qr Tryz.prog 22 2 T22 := ⟨Tryz.f22, Qy H22 fns pts, Tryz.func22, by kernel_rfl, by kernel_rfl⟩
theorem K23 : Qr Tryz.prog 23 1 T23 := ⟨Tryz.f23, Qy H23 fns pts, Tryz.func23, by kernel_rfl, by kernel_rfl⟩
theorem K24 : Qr Tryz.prog 24 1 T24 := ⟨Tryz.f24, Qy H24 fns pts, Tryz.func24, by kernel_rfl, by kernel_rfl⟩
theorem K25 : Qr Tryz.prog 25 0 T25 := ⟨Tryz.f25, Qy H25 fns pts, Tryz.func25, by kernel_rfl, by kernel_rfl⟩
theorem K26 : Qr Tryz.prog 26 0 T26 := ⟨Tryz.f26, Qy H26 fns pts, Tryz.func26, by kernel_rfl, by kernel_rfl⟩
theorem K27 : Qr Tryz.prog 27 0 T27 := ⟨Tryz.f27, Qy H27 fns pts, Tryz.func27, by kernel_rfl, by kernel_rfl⟩
theorem K28 : Qr Tryz.prog 28 1 T28 := ⟨Tryz.f28, Qy H28 fns pts, Tryz.func28, by kernel_rfl, by kernel_rfl⟩
theorem K29 : Qr Tryz.prog 29 1 T29 := ⟨Tryz.f29, Qy H29 fns pts, Tryz.func29, by kernel_rfl, by kernel_rfl⟩
theorem K30 : Qr Tryz.prog 30 3 T30 := ⟨Tryz.f30, Qy H30 fns pts, Tryz.func30, by kernel_rfl, by kernel_rfl⟩
theorem K31 : Qr Tryz.prog 31 1 T31 := ⟨Tryz.f31, Qy H31 fns pts, Tryz.func31, by kernel_rfl, by kernel_rfl⟩
theorem K32 : Qr Tryz.prog 32 3 T32 := ⟨Tryz.f32, Qy H32 fns pts, Tryz.func32, by kernel_rfl, by kernel_rfl⟩
theorem K33 : Qr Tryz.prog 33 2 T33 := ⟨Tryz.f33, Qy H33 fns pts, Tryz.func33, by kernel_rfl, by kernel_rfl⟩
theorem K34 : Qr Tryz.prog 34 1 T34 := ⟨Tryz.f34, Qy H34 fns pts, Tryz.func34, by kernel_rfl, by kernel_rfl⟩
theorem K35 : Qr Tryz.prog 35 2 T35 := ⟨Tryz.f35, Qy H35 fns pts, Tryz.func35, by kernel_rfl, by kernel_rfl⟩
theorem K36 : Qr Tryz.prog 36 2 T36 := ⟨Tryz.f36, Qy H36 fns pts, Tryz.func36, by kernel_rfl, by kernel_rfl⟩
theorem K37 : Qr Tryz.prog 37 2 T37 := ⟨Tryz.f37, Qy H37 fns pts, Tryz.func37, by kernel_rfl, by kernel_rfl⟩
theorem K38 : Qr Tryz.prog 38 2 T38 := ⟨Tryz.f38, Qy H38 fns pts, Tryz.func38, by kernel_rfl, by kernel_rfl⟩
theorem K39 : Qr Tryz.prog 39 1 T39 := ⟨Tryz.f39, Qy H39 fns pts, Tryz.func39, by kernel_rfl, by kernel_rfl⟩
theorem K40 : Qr Tryz.prog 40 3 T40 := ⟨Tryz.f40, Qy H40 fns pts, Tryz.func40, by kernel_rfl, by kernel_rfl⟩
theorem K41 : Qr Tryz.prog 41 2 T41 := ⟨Tryz.f41, Qy H41 fns pts, Tryz.func41, by kernel_rfl, by kernel_rfl⟩
theorem K42 : Qr Tryz.prog 42 2 T42 := ⟨Tryz.f42, Qy H42 fns pts, Tryz.func42, by kernel_rfl, by kernel_rfl⟩
theorem K43 : Qr Tryz.prog 43 2 T43 := ⟨Tryz.f43, Qy H43 fns pts, Tryz.func43, by kernel_rfl, by kernel_rfl⟩
theorem K44 : Qr Tryz.prog 44 2 T44 := ⟨Tryz.f44, Qy H44 fns pts, Tryz.func44, by kernel_rfl, by kernel_rfl⟩
theorem K45 : Qr Tryz.prog 45 2 T45 := ⟨Tryz.f45, Qy H45 fns pts, Tryz.func45, by kernel_rfl, by kernel_rfl⟩
theorem K46 : Qr Tryz.prog 46 2 T46 := ⟨Tryz.f46, Qy H46 fns pts, Tryz.func46, by kernel_rfl, by kernel_rfl⟩
theorem K47 : Qr Tryz.prog 47 1 T47 := ⟨Tryz.f47, Qy H47 fns pts, Tryz.func47, by kernel_rfl, by kernel_rfl⟩
theorem K48 : Qr Tryz.prog 48 1 T48 := ⟨Tryz.f48, Qy H48 fns pts, Tryz.func48, by kernel_rfl, by kernel_rfl⟩
theorem K49 : Qr Tryz.prog 49 1 T49 := ⟨Tryz.f49, Qy H49 fns pts, Tryz.func49, by kernel_rfl, by kernel_rfl⟩
theorem K50 : Qr Tryz.prog 50 1 T50 := ⟨Tryz.f50, Qy H50 fns pts, Tryz.func50, by kernel_rfl, by kernel_rfl⟩
theorem K51 : Qr Tryz.prog 51 1 T51 := ⟨Tryz.f51, Qy H51 fns pts, Tryz.func51, by kernel_rfl, by kernel_rfl⟩
theorem K52 : Qr Tryz.prog 52 1 T52 := ⟨Tryz.f52, Qy H52 fns pts, Tryz.func52, by kernel_rfl, by kernel_rfl⟩
theorem K53 : Qr Tryz.prog 53 1 T53 := ⟨Tryz.f53, Qy H53 fns pts, Tryz.func53, by kernel_rfl, by kernel_rfl⟩
theorem K54 : Qr Tryz.prog 54 1 T54 := ⟨Tryz.f54, Qy H54 fns pts, Tryz.func54, by kernel_rfl, by kernel_rfl⟩
theorem K55 : Qr Tryz.prog 55 1 T55 := ⟨Tryz.f55, Qy H55 fns pts, Tryz.func55, by kernel_rfl, by kernel_rfl⟩
theorem K56 : Qr Tryz.prog 56 1 T56 := ⟨Tryz.f56, Qy H56 fns pts, Tryz.func56, by kernel_rfl, by kernel_rfl⟩
theorem K57 : Qr Tryz.prog 57 1 T57 := ⟨Tryz.f57, Qy H57 fns pts, Tryz.func57, by kernel_rfl, by kernel_rfl⟩
theorem K58 : Qr Tryz.prog 58 1 T58 := ⟨Tryz.f58, Qy H58 fns pts, Tryz.func58, by kernel_rfl, by kernel_rfl⟩
theorem K59 : Qr Tryz.prog 59 1 T59 := ⟨Tryz.f59, Qy H59 fns pts, Tryz.func59, by kernel_rfl, by kernel_rfl⟩
theorem K60 : Qr Tryz.prog 60 1 T60 := ⟨Tryz.f60, Qy H60 fns pts, Tryz.func60, by kernel_rfl, by kernel_rfl⟩
theorem K61 : Qr Tryz.prog 61 0 T61 := ⟨Tryz.f61, Qy H61 fns pts, Tryz.func61, by kernel_rfl, by kernel_rfl⟩
theorem K62 : Qr Tryz.prog 62 2 T62 := ⟨Tryz.f62, Qy H62 fns pts, Tryz.func62, by kernel_rfl, by kernel_rfl⟩
theorem K63 : Qr Tryz.prog 63 2 T63 := ⟨Tryz.f63, Qy H63 fns pts, Tryz.func63, by kernel_rfl, by kernel_rfl⟩
theorem K64 : Qr Tryz.prog 64 1 T64 := ⟨Tryz.f64, Qy H64 fns pts, Tryz.func64, by kernel_rfl, by kernel_rfl⟩
theorem K65 : Qr Tryz.prog 65 2 T65 := ⟨Tryz.f65, Qy H65 fns pts, Tryz.func65, by kernel_rfl, by kernel_rfl⟩
theorem K66 : Qr Tryz.prog 66 2 T66 := ⟨Tryz.f66, Qy H66 fns pts, Tryz.func66, by kernel_rfl, by kernel_rfl⟩
theorem K67 : Qr Tryz.prog 67 2 T67 := ⟨Tryz.f67, Qy H67 fns pts, Tryz.func67, by kernel_rfl, by kernel_rfl⟩
theorem K68 : Qr Tryz.prog 68 2 T68 := ⟨Tryz.f68, Qy H68 fns pts, Tryz.func68, by kernel_rfl, by kernel_rfl⟩
theorem K69 : Qr Tryz.prog 69 2 T69 := ⟨Tryz.f69, Qy H69 fns pts, Tryz.func69, by kernel_rfl, by kernel_rfl⟩
theorem K70 : Qr Tryz.prog 70 3 T70 := ⟨Tryz.f70, Qy H70 fns pts, Tryz.func70, by kernel_rfl, by kernel_rfl⟩
theorem K71 : Qr Tryz.prog 71 2 T71 := ⟨Tryz.f71, Qy H71 fns pts, Tryz.func71, by kernel_rfl, by kernel_rfl⟩
theorem K72 : Qr Tryz.prog 72 3 T72 := ⟨Tryz.f72, Qy H72 fns pts, Tryz.func72, by kernel_rfl, by kernel_rfl⟩
theorem K73 : Qr Tryz.prog 73 2 T73 := ⟨Tryz.f73, Qy H73 fns pts, Tryz.func73, by kernel_rfl, by kernel_rfl⟩
theorem K74 : Qr Tryz.prog 74 3 T74 := ⟨Tryz.f74, Qy H74 fns pts, Tryz.func74, by kernel_rfl, by kernel_rfl⟩
theorem K75 : Qr Tryz.prog 75 1 T75 := ⟨Tryz.f75, Qy H75 fns pts, Tryz.func75, by kernel_rfl, by kernel_rfl⟩
theorem K76 : Qr Tryz.prog 76 2 T76 := ⟨Tryz.f76, Qy H76 fns pts, Tryz.func76, by kernel_rfl, by kernel_rfl⟩
theorem K77 : Qr Tryz.prog 77 2 T77 := ⟨Tryz.f77, Qy H77 fns pts, Tryz.func77, by kernel_rfl, by kernel_rfl⟩
theorem K78 : Qr Tryz.prog 78 3 T78 := ⟨Tryz.f78, Qy H78 fns pts, Tryz.func78, by kernel_rfl, by kernel_rfl⟩
theorem K79 : Qr Tryz.prog 79 2 T79 := ⟨Tryz.f79, Qy H79 fns pts, Tryz.func79, by kernel_rfl, by kernel_rfl⟩
theorem K80 : Qr Tryz.prog 80 2 T80 := ⟨Tryz.f80, Qy H80 fns pts, Tryz.func80, by kernel_rfl, by kernel_rfl⟩
theorem K81 : Qr Tryz.prog 81 2 T81 := ⟨Tryz.f81, Qy H81 fns pts, Tryz.func81, by kernel_rfl, by kernel_rfl⟩
theorem K82 : Qr Tryz.prog 82 2 T82 := ⟨Tryz.f82, Qy H82 fns pts, Tryz.func82, by kernel_rfl, by kernel_rfl⟩
theorem K83 : Qr Tryz.prog 83 1 T83 := ⟨Tryz.f83, Qy H83 fns pts, Tryz.func83, by kernel_rfl, by kernel_rfl⟩
theorem K84 : Qr Tryz.prog 84 2 T84 := ⟨Tryz.f84, Qy H84 fns pts, Tryz.func84, by kernel_rfl, by kernel_rfl⟩
theorem K85 : Qr Tryz.prog 85 2 T85 := ⟨Tryz.f85, Qy H85 fns pts, Tryz.func85, by kernel_rfl, by kernel_rfl⟩
theorem K86 : Qr Tryz.prog 86 2 T86 := ⟨Tryz.f86, Qy H86 fns pts, Tryz.func86, by kernel_rfl, by kernel_rfl⟩
theorem K87 : Qr Tryz.prog 87 2 T87 := ⟨Tryz.f87, Qy H87 fns pts, Tryz.func87, by kernel_rfl, by kernel_rfl⟩
theorem K88 : Qr Tryz.prog 88 2 T88 := ⟨Tryz.f88, Qy H88 fns pts, Tryz.func88, by kernel_rfl, by kernel_rfl⟩
theorem K89 : Qr Tryz.prog 89 2 T89 := ⟨Tryz.f89, Qy H89 fns pts, Tryz.func89, by kernel_rfl, by kernel_rfl⟩
theorem K90 : Qr Tryz.prog 90 3 T90 := ⟨Tryz.f90, Qy H90 fns pts, Tryz.func90, by kernel_rfl, by kernel_rfl⟩
theorem K91 : Qr Tryz.prog 91 2 T91 := ⟨Tryz.f91, Qy H91 fns pts, Tryz.func91, by kernel_rfl, by kernel_rfl⟩
theorem K92 : Qr Tryz.prog 92 2 T92 := ⟨Tryz.f92, Qy H92 fns pts, Tryz.func92, by kernel_rfl, by kernel_rfl⟩
theorem K93 : Qr Tryz.prog 93 1 T93 := ⟨Tryz.f93, Qy H93 fns pts, Tryz.func93, by kernel_rfl, by kernel_rfl⟩
theorem K94 : Qr Tryz.prog 94 3 T94 := ⟨Tryz.f94, Qy H94 fns pts, Tryz.func94, by kernel_rfl, by kernel_rfl⟩
theorem K95 : Qr Tryz.prog 95 2 T95 := ⟨Tryz.f95, Qy H95 fns pts, Tryz.func95, by kernel_rfl, by kernel_rfl⟩
theorem K96 : Qr Tryz.prog 96 1 T96 := ⟨Tryz.f96, Qy H96 fns pts, Tryz.func96, by kernel_rfl, by kernel_rfl⟩
theorem K97 : Qr Tryz.prog 97 2 T97 := ⟨Tryz.f97, Qy H97 fns pts, Tryz.func97, by kernel_rfl, by kernel_rfl⟩
theorem K98 : Qr Tryz.prog 98 1 T98 := ⟨Tryz.f98, Qy H98 fns pts, Tryz.func98, by kernel_rfl, by kernel_rfl⟩
theorem K99 : Qr Tryz.prog 99 1 T99 := ⟨Tryz.f99, Qy H99 fns pts, Tryz.func99, by kernel_rfl, by kernel_rfl⟩
theorem K100 : Qr Tryz.prog 100 1 T100 := ⟨Tryz.f100, Qy H100 fns pts, Tryz.func100, by kernel_rfl, by kernel_rfl⟩
theorem K101 : Qr Tryz.prog 101 2 T101 := ⟨Tryz.f101, Qy H101 fns pts, Tryz.func101, by kernel_rfl, by kernel_rfl⟩
theorem K102 : Qr Tryz.prog 102 3 T102 := ⟨Tryz.f102, Qy H102 fns pts, Tryz.func102, by kernel_rfl, by kernel_rfl⟩
theorem K103 : Qr Tryz.prog 103 2 T103 := ⟨Tryz.f103, Qy H103 fns pts, Tryz.func103, by kernel_rfl, by kernel_rfl⟩
theorem K104 : Qr Tryz.prog 104 2 T104 := ⟨Tryz.f104, Qy H104 fns pts, Tryz.func104, by kernel_rfl, by kernel_rfl⟩
theorem K105 : Qr Tryz.prog 105 3 T105 := ⟨Tryz.f105, Qy H105 fns pts, Tryz.func105, by kernel_rfl, by kernel_rfl⟩
theorem K106 : Qr Tryz.prog 106 2 T106 := ⟨Tryz.f106, Qy H106 fns pts, Tryz.func106, by kernel_rfl, by kernel_rfl⟩
theorem K107 : Qr Tryz.prog 107 2 T107 := ⟨Tryz.f107, Qy H107 fns pts, Tryz.func107, by kernel_rfl, by kernel_rfl⟩
theorem K108 : Qr Tryz.prog 108 2 T108 := ⟨Tryz.f108, Qy H108 fns pts, Tryz.func108, by kernel_rfl, by kernel_rfl⟩
theorem K109 : Qr Tryz.prog 109 2 T109 := ⟨Tryz.f109, Qy H109 fns pts, Tryz.func109, by kernel_rfl, by kernel_rfl⟩
theorem K110 : Qr Tryz.prog 110 3 T110 := ⟨Tryz.f110, Qy H110 fns pts, Tryz.func110, by kernel_rfl, by kernel_rfl⟩
theorem K111 : Qr Tryz.prog 111 4 T111 := ⟨Tryz.f111, Qy H111 fns pts, Tryz.func111, by kernel_rfl, by kernel_rfl⟩
theorem K112 : Qr Tryz.prog 112 3 T112 := ⟨Tryz.f112, Qy H112 fns pts, Tryz.func112, by kernel_rfl, by kernel_rfl⟩
theorem K113 : Qr Tryz.prog 113 3 T113 := ⟨Tryz.f113, Qy H113 fns pts, Tryz.func113, by kernel_rfl, by kernel_rfl⟩
theorem K114 : Qr Tryz.prog 114 2 T114 := ⟨Tryz.f114, Qy H114 fns pts, Tryz.func114, by kernel_rfl, by kernel_rfl⟩
theorem K115 : Qr Tryz.prog 115 1 T115 := ⟨Tryz.f115, Qy H115 fns pts, Tryz.func115, by kernel_rfl, by kernel_rfl⟩
theorem K116 : Qr Tryz.prog 116 3 T116 := ⟨Tryz.f116, Qy H116 fns pts, Tryz.func116, by kernel_rfl, by kernel_rfl⟩
theorem K117 : Qr Tryz.prog 117 3 T117 := ⟨Tryz.f117, Qy H117 fns pts, Tryz.func117, by kernel_rfl, by kernel_rfl⟩
theorem K118 : Qr Tryz.prog 118 1 T118 := ⟨Tryz.f118, Qy H118 fns pts, Tryz.func118, by kernel_rfl, by kernel_rfl⟩
theorem K119 : Qr Tryz.prog 119 2 T119 := ⟨Tryz.f119, Qy H119 fns pts, Tryz.func119, by kernel_rfl, by kernel_rfl⟩
theorem K120 : Qr Tryz.prog 120 2 T120 := ⟨Tryz.f120, Qy H120 fns pts, Tryz.func120, by kernel_rfl, by kernel_rfl⟩
theorem K121 : Qr Tryz.prog 121 2 T121 := ⟨Tryz.f121, Qy H121 fns pts, Tryz.func121, by kernel_rfl, by kernel_rfl⟩
theorem K122 : Qr Tryz.prog 122 2 T122 := ⟨Tryz.f122, Qy H122 fns pts, Tryz.func122, by kernel_rfl, by kernel_rfl⟩
theorem K123 : Qr Tryz.prog 123 2 T123 := ⟨Tryz.f123, Qy H123 fns pts, Tryz.func123, by kernel_rfl, by kernel_rfl⟩
theorem K124 : Qr Tryz.prog 124 3 T124 := ⟨Tryz.f124, Qy H124 fns pts, Tryz.func124, by kernel_rfl, by kernel_rfl⟩
theorem K125 : Qr Tryz.prog 125 1 T125 := ⟨Tryz.f125, Qy H125 fns pts, Tryz.func125, by kernel_rfl, by kernel_rfl⟩
theorem K126 : Qr Tryz.prog 126 1 T126 := ⟨Tryz.f126, Qy H126 fns pts, Tryz.func126, by kernel_rfl, by kernel_rfl⟩
theorem K127 : Qr Tryz.prog 127 1 T127 := ⟨Tryz.f127, Qy H127 fns pts, Tryz.func127, by kernel_rfl, by kernel_rfl⟩
theorem K128 : Qr Tryz.prog 128 2 T128 := ⟨Tryz.f128, Qy H128 fns pts, Tryz.func128, by kernel_rfl, by kernel_rfl⟩
theorem K129 : Qr Tryz.prog 129 3 T129 := ⟨Tryz.f129, Qy H129 fns pts, Tryz.func129, by kernel_rfl, by kernel_rfl⟩
theorem K130 : Qr Tryz.prog 130 2 T130 := ⟨Tryz.f130, Qy H130 fns pts, Tryz.func130, by kernel_rfl, by kernel_rfl⟩
theorem K131 : Qr Tryz.prog 131 1 T131 := ⟨Tryz.f131, Qy H131 fns pts, Tryz.func131, by kernel_rfl, by kernel_rfl⟩
theorem K132 : Qr Tryz.prog 132 3 T132 := ⟨Tryz.f132, Qy H132 fns pts, Tryz.func132, by kernel_rfl, by kernel_rfl⟩
theorem K133 : Qr Tryz.prog 133 1 T133 := ⟨Tryz.f133, Qy H133 fns pts, Tryz.func133, by kernel_rfl, by kernel_rfl⟩
theorem K134 : Qr Tryz.prog 134 2 T134 := ⟨Tryz.f134, Qy H134 fns pts, Tryz.func134, by kernel_rfl, by kernel_rfl⟩
theorem K135 : Qr Tryz.prog 135 2 T135 := ⟨Tryz.f135, Qy H135 fns pts, Tryz.func135, by kernel_rfl, by kernel_rfl⟩
theorem K136 : Qr Tryz.prog 136 2 T136 := ⟨Tryz.f136, Qy H136 fns pts, Tryz.func136, by kernel_rfl, by kernel_rfl⟩
theorem K137 : Qr Tryz.prog 137 2 T137 := ⟨Tryz.f137, Qy H137 fns pts, Tryz.func137, by kernel_rfl, by kernel_rfl⟩
theorem K138 : Qr Tryz.prog 138 2 T138 := ⟨Tryz.f138, Qy H138 fns pts, Tryz.func138, by kernel_rfl, by kernel_rfl⟩
theorem K139 : Qr Tryz.prog 139 2 T139 := ⟨Tryz.f139, Qy H139 fns pts, Tryz.func139, by kernel_rfl, by kernel_rfl⟩
theorem K140 : Qr Tryz.prog 140 2 T140 := ⟨Tryz.f140, Qy H140 fns pts, Tryz.func140, by kernel_rfl, by kernel_rfl⟩
theorem K141 : Qr Tryz.prog 141 2 T141 := ⟨Tryz.f141, Qy H141 fns pts, Tryz.func141, by kernel_rfl, by kernel_rfl⟩
theorem K142 : Qr Tryz.prog 142 2 T142 := ⟨Tryz.f142, Qy H142 fns pts, Tryz.func142, by kernel_rfl, by kernel_rfl⟩
theorem K143 : Qr Tryz.prog 143 2 T143 := ⟨Tryz.f143, Qy H143 fns pts, Tryz.func143, by kernel_rfl, by kernel_rfl⟩
theorem K144 : Qr Tryz.prog 144 2 T144 := ⟨Tryz.f144, Qy H144 fns pts, Tryz.func144, by kernel_rfl, by kernel_rfl⟩
theorem K145 : Qr Tryz.prog 145 2 T145 := ⟨Tryz.f145, Qy H145 fns pts, Tryz.func145, by kernel_rfl, by kernel_rfl⟩
theorem K146 : Qr Tryz.prog 146 2 T146 := ⟨Tryz.f146, Qy H146 fns pts, Tryz.func146, by kernel_rfl, by kernel_rfl⟩
theorem K147 : Qr Tryz.prog 147 1 T147 := ⟨Tryz.f147, Qy H147 fns pts, Tryz.func147, by kernel_rfl, by kernel_rfl⟩
theorem K149 : Qr Tryz.prog 149 1 T149 := ⟨Tryz.f149, Qy H149 fns pts, Tryz.func149, by kernel_rfl, by kernel_rfl⟩
theorem K150 : Qr Tryz.prog 150 1 T150 := ⟨Tryz.f150, Qy H150 fns pts, Tryz.func150, by kernel_rfl, by kernel_rfl⟩
theorem K151 : Qr Tryz.prog 151 1 T151 := ⟨Tryz.f151, Qy H151 fns pts, Tryz.func151, by kernel_rfl, by kernel_rfl⟩
theorem K152 : Qr Tryz.prog 152 2 T152 := ⟨Tryz.f152, Qy H152 fns pts, Tryz.func152, by kernel_rfl, by kernel_rfl⟩
theorem K153 : Qr Tryz.prog 153 2 T153 := ⟨Tryz.f153, Qy H153 fns pts, Tryz.func153, by kernel_rfl, by kernel_rfl⟩
theorem K154 : Qr Tryz.prog 154 1 T154 := ⟨Tryz.f154, Qy H154 fns pts, Tryz.func154, by kernel_rfl, by kernel_rfl⟩
theorem K155 : Qr Tryz.prog 155 1 T155 := ⟨Tryz.f155, Qy H155 fns pts, Tryz.func155, by kernel_rfl, by kernel_rfl⟩
theorem K156 : Qr Tryz.prog 156 2 T156 := ⟨Tryz.f156, Qy H156 fns pts, Tryz.func156, by kernel_rfl, by kernel_rfl⟩
theorem K157 : Qr Tryz.prog 157 2 T157 := ⟨Tryz.f157, Qy H157 fns pts, Tryz.func157, by kernel_rfl, by kernel_rfl⟩
theorem K158 : Qr Tryz.prog 158 2 T158 := ⟨Tryz.f158, Qy H158 fns pts, Tryz.func158, by kernel_rfl, by kernel_rfl⟩
theorem K159 : Qr Tryz.prog 159 2 T159 := ⟨Tryz.f159, Qy H159 fns pts, Tryz.func159, by kernel_rfl, by kernel_rfl⟩
theorem K160 : Qr Tryz.prog 160 2 T160 := ⟨Tryz.f160, Qy H160 fns pts, Tryz.func160, by kernel_rfl, by kernel_rfl⟩
theorem K164 : Qr Tryz.prog 164 1 T164 := ⟨Tryz.f164, Qy H164 fns pts, Tryz.func164, by kernel_rfl, by kernel_rfl⟩
theorem K165 : Qr Tryz.prog 165 2 T165 := ⟨Tryz.f165, Qy H165 fns pts, Tryz.func165, by kernel_rfl, by kernel_rfl⟩
theorem K166 : Qr Tryz.prog 166 1 T166 := ⟨Tryz.f166, Qy H166 fns pts, Tryz.func166, by kernel_rfl, by kernel_rfl⟩
theorem K169 : Qr Tryz.prog 169 2 T169 := ⟨Tryz.f169, Qy H169 fns pts, Tryz.func169, by kernel_rfl, by kernel_rfl⟩
theorem K170 : Qr Tryz.prog 170 1 T170 := ⟨Tryz.f170, Qy H170 fns pts, Tryz.func170, by kernel_rfl, by kernel_rfl⟩
theorem K171 : Qr Tryz.prog 171 1 T171 := ⟨Tryz.f171, Qy H171 fns pts, Tryz.func171, by kernel_rfl, by kernel_rfl⟩
end Go.Proofs.YtdibpeknpmhknaaGreat
namespace Go.Proofs.YtdibpeknpmhknaaGreat
open Go
theorem XS {k : Nat} {cs : List Qa} (h : DTy Tryz.prog (k + 1) 9 cs) : ∃ s : Bs, cs = [.str s] ∧ s.length ≤ maxLen := by
 unfold DTy at h
 rw [Tryz.underlying9] at h
 exact h
theorem Z6 {k : Nat} {cs : List Qa} (h : DTy Tryz.prog (k + 1) 3 cs) : ∃ i : Int, cs = [.int .i64 i] := by
 unfold DTy at h
 rw [Tryz.underlying3] at h
 obtain ⟨i, h, -⟩ := h
 exact ⟨i, h⟩
theorem J7 {k : Nat} {cs : List Qa} (h : DTy Tryz.prog (k + 1) 4 cs) : ∃ b : Bool, cs = [.bool b] := by
 unfold DTy at h
 rw [Tryz.underlying4] at h
 exact h
theorem U_ {k : Nat} {cs : List Qa} (h : DTy Tryz.prog (k + 1) 63 cs) : ∃ c : Nat, cs = [.int .u64 c] ∧ c < 18446744073709551616 := by
 unfold DTy at h
 rw [Tryz.underlying63] at h
 obtain ⟨i, rfl, h⟩ := h
 obtain ⟨c, rfl, hc⟩ := wf_u64 h
 exact ⟨c, rfl, hc⟩
theorem dty_lv {k : Nat} {cs : List Qa} (h : DTy Tryz.prog (k + 2) 65 cs) : ∃ l : LvV, cs = l.row := by
 unfold DTy at h
 rw [Tryz.underlying65] at h
 simp only [List.foldr] at h
 obtain ⟨a, b, rfl, h1, a2, b2, rfl, h2, rfl⟩ := h
 obtain ⟨s, rfl⟩ := Z6 h1
 obtain ⟨c, rfl, hc⟩ := U_ h2
 exact ⟨⟨s, c, hc⟩, rfl⟩
theorem dty_rng {k : Nat} {cs : List Qa} (h : DTy Tryz.prog (k + 3) 67 cs) : ∃ l m : LvV, cs = l.row ++ m.row := by
 unfold DTy at h
 rw [Tryz.underlying67] at h
 simp only [List.foldr] at h
 obtain ⟨a, b, rfl, h1, a2, b2, rfl, h2, rfl⟩ := h
 obtain ⟨l, rfl⟩ := dty_lv h1
 obtain ⟨m, rfl⟩ := dty_lv h2
 exact ⟨l, m, by rw [List.append_nil]⟩
theorem GX {k : Nat} {cs : List Qa} (h : DTy Tryz.prog (k + 4) 69 cs) : ∃ c : Q3, cs = c.row := by
 unfold DTy at h
 rw [Tryz.underlying69] at h
 simp only [List.foldr] at h
 obtain ⟨a, b, rfl, h1, a2, b2, rfl, h2, a3, b3, rfl, h3, a4, b4, rfl, h4, rfl⟩ := h
 obtain ⟨u, rfl⟩ := Z6 h1
 obtain ⟨r, rfl⟩ := Z6 h2
 obtain ⟨t, rfl⟩ := Z6 h3
 obtain ⟨l, m, rfl⟩ := dty_rng h4
 exact ⟨⟨u, r, t, l, m⟩, by rw [List.append_nil]; rfl⟩
theorem Xt {k : Nat} {cs : List Qa} (h : DTy Tryz.prog (k + 2) 89 cs) : ∃ s : Q_, cs = s.row := by
 unfold DTy at h
 rw [Tryz.underlying89] at h
 obtain ⟨rows, h1, h2, rfl⟩ := h
 match rows, h1 with
 | [a, b, c, d], _ =>
  obtain ⟨x, rfl, hx⟩ := U_ (h2 a (by simp))
  obtain ⟨y, rfl, hy⟩ := U_ (h2 b (by simp))
  obtain ⟨z, rfl, hz⟩ := U_ (h2 c (by simp))
  obtain ⟨w, rfl, hw⟩ := U_ (h2 d (by simp))
  exact ⟨⟨λi=> match i with | 0 => x | 1 => y | 2 => z | 3 => w | _ => 0, λi=> by split <;> first | assumption | decide⟩, rfl⟩
theorem Vo {k : Nat} {cs : List Qa} (h : DTy Tryz.prog (k + 2) 28 cs) : ∃ s : Sl Bs, cs = [Z1 s] ∧ s.l.length ≤ maxLen ∧ ∀ x ∈ s.l, x.length ≤ maxLen := by
 unfold DTy at h
 rw [Tryz.underlying28] at h
 obtain ⟨z, es, rfl, h1, h2⟩ := h
 obtain ⟨l, rfl⟩ := rows_of (f := fun s : Bs => [Qa.str s]) fun r hr => by
  obtain ⟨s, rfl, -⟩ := XS (h1 r hr)
  exact ⟨s, rfl⟩
 refine ⟨⟨z, l⟩, rfl, by simpa using h2, fun x hx => ?_⟩
 obtain ⟨s, e, hs⟩ := XS (h1 [.str x] (List.mem_map.2 ⟨x, hx, rfl⟩))
 simp only [List.cons.injEq, Qa.str.injEq, and_true] at e
 rw [e]; exact hs
theorem wf_u32 {i : Int} (h : (Lit.int .u32 i).wf = true) : ∃ c : Nat, i = c ∧ c < 4294967296 := by
 simp [Lit.wf, IntKind.min, IntKind.max, IntKind.signed, IntKind.bits] at h
 exact ⟨i.toNat, by omega, by omega⟩
theorem dty_u32 {k : Nat} {cs : List Qa} (h : DTy Tryz.prog (k + 1) 124 cs) : ∃ c : Nat, cs = [.int .u32 c] ∧ c < 4294967296 := by
 unfold DTy at h
 rw [Tryz.underlying124] at h
 obtain ⟨i, rfl, h⟩ := h
 obtain ⟨c, rfl, hc⟩ := wf_u32 h
 exact ⟨c, rfl, hc⟩
theorem dty_ClassV {k : Nat} {cs : List Qa} (h : DTy Tryz.prog (k + 6) 129 cs) : ∃ x : Zq, cs = x.row ∧ x.name.length ≤ maxLen ∧ x.perms.l.length ≤ maxLen ∧ ∀ s ∈ x.perms.l, s.length ≤ maxLen := by
 unfold DTy at h
 rw [Tryz.underlying129] at h
 simp only [List.foldr] at h
 obtain ⟨a0, b0, rfl, h0, a1, b1, rfl, h1, rfl⟩ := h
 obtain ⟨s0, rfl, q0⟩ := XS h0
 obtain ⟨s1, rfl, q1, r1⟩ := Vo h1
 exact ⟨⟨s0, s1⟩, by simp [Zq.row], q0, q1, r1⟩
theorem dty_TypeV {k : Nat} {cs : List Qa} (h : DTy Tryz.prog (k + 6) 120 cs) : ∃ x : Q9, cs = x.row ∧ x.name.length ≤ maxLen ∧ x.aliases.l.length ≤ maxLen ∧ ∀ s ∈ x.aliases.l, s.length ≤ maxLen := by
 unfold DTy at h
 rw [Tryz.underlying120] at h
 simp only [List.foldr] at h
 obtain ⟨a0, b0, rfl, h0, a1, b1, rfl, h1, a2, b2, rfl, h2, rfl⟩ := h
 obtain ⟨s0, rfl, q0⟩ := XS h0
 obtain ⟨s1, rfl, q1, r1⟩ := Vo h1
 obtain ⟨s2, rfl⟩ := J7 h2
 exact ⟨⟨s0, s1, s2⟩, by simp [Q9.row], q0, q1, r1⟩
theorem dty_AttrV {k : Nat} {cs : List Qa} (h : DTy Tryz.prog (k + 6) 132 cs) : ∃ x : Xv, cs = x.row ∧ x.name.length ≤ maxLen := by
 unfold DTy at h
 rw [Tryz.underlying132] at h
 simp only [List.foldr] at h
 obtain ⟨a0, b0, rfl, h0, a1, b1, rfl, h1, rfl⟩ := h
 obtain ⟨s0, rfl, q0⟩ := XS h0
 obtain ⟨s1, rfl⟩ := Xt h1
 exact ⟨⟨s0, s1⟩, by simp [Xv.row], q0⟩
theorem dty_RoleV {k : Nat} {cs : List Qa} (h : DTy Tryz.prog (k + 6) 91 cs) : ∃ x : QQ, cs = x.row ∧ x.name.length ≤ maxLen := by
 unfold DTy at h
 rw [Tryz.underlying91] at h
 simp only [List.foldr] at h
 obtain ⟨a0, b0, rfl, h0, a1, b1, rfl, h1, a2, b2, rfl, h2, rfl⟩ := h
 obtain ⟨s0, rfl, q0⟩ := XS h0
 obtain ⟨s1, rfl⟩ := Xt h1
 obtain ⟨s2, rfl⟩ := Xt h2
 exact ⟨⟨s0, s1, s2⟩, by simp [QQ.row], q0⟩
theorem dty_UserV {k : Nat} {cs : List Qa} (h : DTy Tryz.prog (k + 6) 134 cs) : ∃ x : QU, cs = x.row ∧ x.name.length ≤ maxLen := by
 unfold DTy at h
 rw [Tryz.underlying134] at h
 simp only [List.foldr] at h
 obtain ⟨a0, b0, rfl, h0, a1, b1, rfl, h1, a2, b2, rfl, h2, a3, b3, rfl, h3, rfl⟩ := h
 obtain ⟨s0, rfl, q0⟩ := XS h0
 obtain ⟨s1, rfl⟩ := Xt h1
 obtain ⟨s2, rfl⟩ := dty_lv h2
 obtain ⟨s3, t3, rfl⟩ := dty_rng h3
 exact ⟨⟨s0, s1, s2, s3, t3⟩, by simp [QU.row], q0⟩
theorem dty_BoolV {k : Nat} {cs : List Qa} (h : DTy Tryz.prog (k + 6) 136 cs) : ∃ x : Xb, cs = x.row ∧ x.name.length ≤ maxLen := by
 unfold DTy at h
 rw [Tryz.underlying136] at h
 simp only [List.foldr] at h
 obtain ⟨a0, b0, rfl, h0, a1, b1, rfl, h1, rfl⟩ := h
 obtain ⟨s0, rfl, q0⟩ := XS h0
 obtain ⟨s1, rfl⟩ := J7 h1
 exact ⟨⟨s0, s1⟩, by simp [Xb.row], q0⟩
theorem dty_RuleV {k : Nat} {cs : List Qa} (h : DTy Tryz.prog (k + 6) 138 cs) : ∃ x : ZL, cs = x.row := by
 unfold DTy at h
 rw [Tryz.underlying138] at h
 simp only [List.foldr] at h
 obtain ⟨a0, b0, rfl, h0, a1, b1, rfl, h1, a2, b2, rfl, h2, a3, b3, rfl, h3, a4, b4, rfl, h4, a5, b5, rfl, h5, a6, b6, rfl, h6, rfl⟩ := h
 obtain ⟨s0, rfl⟩ := Z6 h0
 obtain ⟨s1, rfl⟩ := Xt h1
 obtain ⟨s2, rfl⟩ := Xt h2
 obtain ⟨s3, rfl⟩ := J7 h3
 obtain ⟨s4, rfl⟩ := Z6 h4
 obtain ⟨s5, rfl, q5⟩ := dty_u32 h5
 obtain ⟨s6, rfl⟩ := Z6 h6
 exact ⟨⟨s0, s1, s2, s3, s4, s5, s6, q5⟩, by simp [ZL.row]⟩
theorem dty_TransV {k : Nat} {cs : List Qa} (h : DTy Tryz.prog (k + 6) 118 cs) : ∃ x : Zr, cs = x.row ∧ x.name.length ≤ maxLen := by
 unfold DTy at h
 rw [Tryz.underlying118] at h
 simp only [List.foldr] at h
 obtain ⟨a0, b0, rfl, h0, a1, b1, rfl, h1, a2, b2, rfl, h2, a3, b3, rfl, h3, a4, b4, rfl, h4, a5, b5, rfl, h5, a6, b6, rfl, h6, rfl⟩ := h
 obtain ⟨s0, rfl⟩ := Z6 h0
 obtain ⟨s1, rfl⟩ := Xt h1
 obtain ⟨s2, rfl⟩ := Xt h2
 obtain ⟨s3, rfl⟩ := Z6 h3
 obtain ⟨s4, rfl, q4⟩ := XS h4
 obtain ⟨s5, rfl⟩ := Z6 h5
 obtain ⟨s6, rfl⟩ := Z6 h6
 exact ⟨⟨s0, s1, s2, s3, s4, s5, s6⟩, by simp [Zr.row], q4⟩
theorem HQ {k : Nat} {cs : List Qa} (h : DTy Tryz.prog (k + 6) 169 cs) : ∃ x : QO, cs = x.row := by
 unfold DTy at h
 rw [Tryz.underlying169] at h
 simp only [List.foldr] at h
 obtain ⟨a0, b0, rfl, h0, a1, b1, rfl, h1, a2, b2, rfl, h2, a3, b3, rfl, h3, rfl⟩ := h
 obtain ⟨s0, rfl⟩ := Xt h0
 obtain ⟨s1, rfl⟩ := Xt h1
 obtain ⟨s2, rfl⟩ := Z6 h2
 obtain ⟨s3, rfl⟩ := Z6 h3
 exact ⟨⟨s0, s1, s2, s3⟩, by simp [QO.row]⟩
theorem GW {k : Nat} {cs : List Qa} (h : DTy Tryz.prog (k + 6) 171 cs) : ∃ x : QA, cs = x.row := by
 unfold DTy at h
 rw [Tryz.underlying171] at h
 simp only [List.foldr] at h
 obtain ⟨a0, b0, rfl, h0, a1, b1, rfl, h1, a2, b2, rfl, h2, a3, b3, rfl, h3, rfl⟩ := h
 obtain ⟨s0, rfl⟩ := Xt h0
 obtain ⟨s1, rfl⟩ := Xt h1
 obtain ⟨s2, rfl⟩ := Z6 h2
 obtain ⟨s3, t3, rfl⟩ := dty_rng h3
 exact ⟨⟨s0, s1, s2, s3, t3⟩, by simp [QA.row]⟩
theorem dty_SidV {k : Nat} {cs : List Qa} (h : DTy Tryz.prog (k + 6) 93 cs) : ∃ x : ZD, cs = x.row ∧ x.name.length ≤ maxLen := by
 unfold DTy at h
 rw [Tryz.underlying93] at h
 simp only [List.foldr] at h
 obtain ⟨a0, b0, rfl, h0, a1, b1, rfl, h1, rfl⟩ := h
 obtain ⟨s0, rfl, q0⟩ := XS h0
 obtain ⟨s1, rfl⟩ := GX h1
 exact ⟨⟨s0, s1⟩, by simp [ZD.row], q0⟩
theorem dty_FileV {k : Nat} {cs : List Qa} (h : DTy Tryz.prog (k + 6) 174 cs) : ∃ x : ZV, cs = x.row ∧ x.pattern.length ≤ maxLen := by
 unfold DTy at h
 rw [Tryz.underlying174] at h
 simp only [List.foldr] at h
 obtain ⟨a0, b0, rfl, h0, a1, b1, rfl, h1, a2, b2, rfl, h2, rfl⟩ := h
 obtain ⟨s0, rfl, q0⟩ := XS h0
 obtain ⟨s1, rfl⟩ := Z6 h1
 obtain ⟨s2, rfl⟩ := GX h2
 exact ⟨⟨s0, s1, s2⟩, by simp [ZV.row], q0⟩
theorem dty_AssertV {k : Nat} {cs : List Qa} (h : DTy Tryz.prog (k + 6) 181 cs) : ∃ x : Zl, cs = x.row ∧ x.name.length ≤ maxLen := by
 unfold DTy at h
 rw [Tryz.underlying181] at h
 simp only [List.foldr] at h
 obtain ⟨a0, b0, rfl, h0, a1, b1, rfl, h1, a2, b2, rfl, h2, a3, b3, rfl, h3, rfl⟩ := h
 obtain ⟨s0, rfl, q0⟩ := XS h0
 obtain ⟨s1, rfl⟩ := Z6 h1
 obtain ⟨s2, rfl⟩ := Xt h2
 obtain ⟨s3, rfl⟩ := Xt h3
 exact ⟨⟨s0, s1, s2, s3⟩, by simp [Zl.row], q0⟩
theorem QG.Fit.mono : ∀ {d m : Nat} {e : QG}, d ≤ m → e.Fit d → e.Fit m := by
 intro d
 induction d with
 | zero => intro m e _ h; cases h
 | succ d ih =>
  intro m e hm h
  obtain ⟨m, rfl⟩ : ∃ q, m = q + 1 := ⟨m - 1, by omega⟩
  cases h with
  | mk h1 h2 => exact .mk h1 fun e he => ih (by omega) (h2 e he)
theorem Ev {α : Type} {f : α → List Qa} {Q : α → Prop} : ∀ {es : List (List Qa)}, (∀ r ∈ es, ∃ x, r = f x ∧ Q x) → ∃ l : List α, es = l.map f ∧ ∀ x ∈ l, Q x
 | [], _ => ⟨[], rfl, by simp⟩
 | e :: es, h => by
  obtain ⟨x, rfl, hx⟩ := h e (by simp)
  obtain ⟨l, rfl, hl⟩ := Ev (es := es) fun r hr => h r (by simp [hr])
  exact ⟨x :: l, rfl, by simpa using ⟨hx, hl⟩⟩
theorem dty_expr : ∀ {k : Nat} {cs : List Qa}, DTy Tryz.prog k 123 cs → ∃ e : QG, cs = e.row ∧ e.Fit k := by
 intro k
 induction k using Nat.strongRecOn with
 | _ k ih =>
  intro cs hx
  match k, ih, hx with
  | 0, _, h => exact h.elim
  | 1, _, h =>
   unfold DTy at h
   rw [Tryz.underlying123] at h
   simp only [List.foldr] at h
   obtain ⟨a, b, rfl, h1, -⟩ := h
   exact h1.elim
  | k + 2, ih, h =>
   have h' := Yi (m := k + 6) (by omega) h
   unfold DTy at h
   rw [Tryz.underlying123] at h
   simp only [List.foldr] at h
   obtain ⟨a0, b0, rfl, h0, a1, b1, rfl, h1, a2, b2, rfl, h2, a3, b3, rfl, h3, a4, b4, rfl, h4, a5, b5, rfl, h5, a6, b6, rfl, h6, rfl⟩ := h
   obtain ⟨op, rfl⟩ := Z6 h0
   obtain ⟨a, rfl⟩ := Z6 h1
   obtain ⟨rel, rfl⟩ := Z6 h2
   obtain ⟨b, rfl⟩ := Z6 h3
   obtain ⟨names, rfl, -⟩ := Vo (Yi (m := k + 2) (by omega) h4)
   obtain ⟨set, rfl⟩ := Xt (Yi (m := k + 2) (by omega) h5)
   unfold DTy at h6
   rw [Tryz.underlying29] at h6
   obtain ⟨z, es, rfl, h7, h8⟩ := h6
   obtain ⟨l, rfl, hl⟩ := Ev (f := QG.row) fun r hr => ih k (by omega) (h7 r hr)
   exact ⟨.mk op a rel b names set z l, by rw [QG.row_mk]; rfl, .mk (by simpa using h8) fun e he => (hl e he).mono (by omega)⟩
theorem dty_ConstrV {k : Nat} {cs : List Qa} (h : DTy Tryz.prog (k + 6) 126 cs) : ∃ x : Zx, cs = x.row ∧ x.expr.Fit (k + 6) := by
 unfold DTy at h
 rw [Tryz.underlying126] at h
 simp only [List.foldr] at h
 obtain ⟨a0, b0, rfl, h0, a1, b1, rfl, h1, a2, b2, rfl, h2, a3, b3, rfl, h3, rfl⟩ := h
 obtain ⟨s0, rfl⟩ := Z6 h0
 obtain ⟨s1, rfl, q1⟩ := dty_u32 h1
 obtain ⟨s2, rfl⟩ := J7 h2
 obtain ⟨e, rfl, he⟩ := dty_expr h3
 exact ⟨⟨s0, s1, s2, e, q1⟩, by simp [Zx.row], he.mono (by omega)⟩
end Go.Proofs.YtdibpeknpmhknaaGreat
namespace Go.Proofs.YtdibpeknpmhknaaGreat
open Go
theorem XI {α : Type} {f : α → List Qa} {Q : α → Prop} {t e : TypeId} {c k : Nat} {cs : List Qa} (hu : Tryz.prog.underlying t = some (.slice e)) (hc : Tryz.prog.cellsOf e = c)
  (hrow : ∀ r, DTy Tryz.prog k e r → ∃ x, r = f x ∧ Q x) (h : DTy Tryz.prog (k + 1) t cs) : ∃ s : Sl α, cs = [QJ c f s] ∧ (∀ x ∈ s.l, Q x) ∧ s.l.length ≤ maxLen := by
 unfold DTy at h
 rw [hu] at h
 simp only at h
 rw [hc] at h
 obtain ⟨z, es, rfl, h1, h2⟩ := h
 obtain ⟨l, rfl, hl⟩ := Ev (f := f) (Q := Q) fun r hr => hrow r (h1 r hr)
 exact ⟨⟨z, l⟩, rfl, hl, by simpa using h2⟩
theorem dty_pol {k : Nat} {cs : List Qa} (h : DTy Tryz.prog (k + 8) 39 cs) : ∃ p : Qw, cs = p.row ∧ XN (k + 6) p := by
 unfold DTy at h
 rw [Tryz.underlying39] at h
 simp only [List.foldr] at h
 obtain ⟨a0, b0, rfl, h0, a1, b1, rfl, h1, a2, b2, rfl, h2, a3, b3, rfl, h3, a4, b4, rfl, h4, a5, b5, rfl, h5, a6, b6, rfl, h6, a7, b7, rfl, h7, a8, b8, rfl, h8, a9, b9, rfl, h9, a10, b10, rfl, h10, a11, b11, rfl, h11, a12, b12, rfl, h12, a13, b13, rfl, h13, a14, b14, rfl, h14, a15, b15, rfl, h15, a16, b16, rfl, h16, rfl⟩ := h
 obtain ⟨s0, rfl, f0, -⟩ := XI (f := Zq.row) (Q := λc=> c.name.length ≤ maxLen ∧ c.perms.l.length ≤ maxLen ∧ ∀ s ∈ c.perms.l, s.length ≤ maxLen) Tryz.underlying22 (c := 2) (by kernel_rfl) (fun r hr => dty_ClassV hr) h0
 obtain ⟨s1, rfl, f1, -⟩ := XI (f := Q9.row) (Q := λc=> c.name.length ≤ maxLen ∧ c.aliases.l.length ≤ maxLen ∧ ∀ s ∈ c.aliases.l, s.length ≤ maxLen) Tryz.underlying23 (c := 3) (by kernel_rfl) (fun r hr => dty_TypeV hr) h1
 obtain ⟨s2, rfl, f2, -⟩ := XI (f := Xv.row) (Q := λc=> c.name.length ≤ maxLen) Tryz.underlying24 (c := 5) (by kernel_rfl) (fun r hr => dty_AttrV hr) h2
 obtain ⟨s3, rfl, f3, -⟩ := XI (f := QQ.row) (Q := λc=> c.name.length ≤ maxLen) Tryz.underlying25 (c := 9) (by kernel_rfl) (fun r hr => dty_RoleV hr) h3
 obtain ⟨s4, rfl, f4, -⟩ := XI (f := QU.row) (Q := λc=> c.name.length ≤ maxLen) Tryz.underlying26 (c := 11) (by kernel_rfl) (fun r hr => dty_UserV hr) h4
 obtain ⟨s5, rfl, f5, -⟩ := XI (f := Xb.row) (Q := λc=> c.name.length ≤ maxLen) Tryz.underlying27 (c := 2) (by kernel_rfl) (fun r hr => dty_BoolV hr) h5
 obtain ⟨s6, rfl, f6⟩ := Vo (Yi (m := k + 7) (by omega) h6)
 obtain ⟨s7, rfl, f7⟩ := Vo (Yi (m := k + 7) (by omega) h7)
 obtain ⟨s8, rfl, f8, -⟩ := XI (f := QG.row) (Q := λe=> e.Fit (k + 6)) Tryz.underlying29 (c := 10) (by kernel_rfl) (fun r hr => dty_expr hr) h8
 obtain ⟨s9, rfl, f9, -⟩ := XI (f := ZL.row) (Q := λ_=> True) Tryz.underlying30 (c := 13) (by kernel_rfl) (fun r hr => (dty_RuleV hr).elim fun x hx => ⟨x, hx, trivial⟩) h9
 obtain ⟨s10, rfl, f10, -⟩ := XI (f := Zr.row) (Q := λc=> c.name.length ≤ maxLen) Tryz.underlying31 (c := 13) (by kernel_rfl) (fun r hr => dty_TransV hr) h10
 obtain ⟨s11, rfl, f11, -⟩ := XI (f := QO.row) (Q := λ_=> True) Tryz.underlying32 (c := 10) (by kernel_rfl) (fun r hr => (HQ hr).elim fun x hx => ⟨x, hx, trivial⟩) h11
 obtain ⟨s12, rfl, f12, -⟩ := XI (f := QA.row) (Q := λ_=> True) Tryz.underlying33 (c := 13) (by kernel_rfl) (fun r hr => (GW hr).elim fun x hx => ⟨x, hx, trivial⟩) h12
 obtain ⟨s13, rfl, f13, -⟩ := XI (f := Zx.row) (Q := λc=> c.expr.Fit (k + 6)) Tryz.underlying34 (c := 13) (by kernel_rfl) (fun r hr => dty_ConstrV hr) h13
 obtain ⟨s14, rfl, f14, -⟩ := XI (f := ZD.row) (Q := λc=> c.name.length ≤ maxLen) Tryz.underlying35 (c := 8) (by kernel_rfl) (fun r hr => dty_SidV hr) h14
 obtain ⟨s15, rfl, f15, -⟩ := XI (f := ZV.row) (Q := λc=> c.pattern.length ≤ maxLen) Tryz.underlying36 (c := 9) (by kernel_rfl) (fun r hr => dty_FileV hr) h15
 obtain ⟨s16, rfl, f16, -⟩ := XI (f := Zl.row) (Q := λc=> c.name.length ≤ maxLen) Tryz.underlying37 (c := 10) (by kernel_rfl) (fun r hr => dty_AssertV hr) h16
 exact ⟨⟨s0, s1, s2, s3, s4, s5, s6, s7, s8, s9, s10, s11, s12, s13, s14, s15, s16⟩, by simp [Qw.row], ⟨f0, f1, f2, f3, f4, f5, f6.2, f7.2, f8, f10, f13, f14, f15, f16⟩⟩
theorem He {k : Nat} {d : Qa} (h : XA Tryz.prog k 39 d) : ∃ p : Qw, d = p.d ∧ XN (k + 6) p := by
 have h' := X9 (m := k + 8) (by omega) h
 unfold XA at h'
 rw [Tryz.underlying39] at h'
 obtain ⟨cs, rfl, h2⟩ := h'
 obtain ⟨p, rfl, hp⟩ := dty_pol h2
 exact ⟨p, rfl, hp⟩
theorem arg_ctx {k : Nat} {d : Qa} (h : XA Tryz.prog k 69 d) : ∃ c : Q3, d = c.d := by
 have h' := X9 (m := k + 8) (by omega) h
 unfold XA at h'
 rw [Tryz.underlying69] at h'
 obtain ⟨cs, rfl, h2⟩ := h'
 obtain ⟨c, rfl⟩ := GX h2
 exact ⟨c, rfl⟩
theorem arg_int {k : Nat} {d : Qa} (h : XA Tryz.prog k 3 d) : ∃ i : Int, d = .int .i64 i := by
 have h' := X9 (m := k + 8) (by omega) h
 unfold XA at h'
 rw [Tryz.underlying3] at h'
 obtain ⟨s, h1⟩ := Z6 h'
 simp only [List.cons.injEq, and_true] at h1
 exact ⟨s, h1⟩
theorem Hp {k : Nat} {cs : List Qa} (h : DTy Tryz.prog (k + 5) 40 cs) : ∃ s : Sl Q3, cs = [QJ 7 Q3.row s] := by
 obtain ⟨s, e, -, -⟩ := XI (f := Q3.row) (Q := λ_=> True) Tryz.underlying40 (c := 7) (by kernel_rfl) (fun r hr => (GX hr).elim fun x hx => ⟨x, hx, trivial⟩) h
 exact ⟨s, e⟩
theorem Je {k : Nat} {d : Qa} (h : XA Tryz.prog k 40 d) : ∃ s : Sl Q3, d = QJ 7 Q3.row s := by
 have h' := X9 (m := k + 8) (by omega) h
 unfold XA at h'
 rw [Tryz.underlying40] at h'
 obtain ⟨s, h1⟩ := Hp (k := k + 3) h'
 simp only [List.cons.injEq, and_true] at h1
 exact ⟨s, h1⟩
theorem arg_case {k : Nat} {d : Qa} (h : XA Tryz.prog k 54 d) : ∃ (A B : Qw) (L M : Sl Q3), d = .agg (A.row ++ (B.row ++ [QJ 7 Q3.row L, QJ 7 Q3.row M])) ∧ XN (k + 6) A ∧ XN (k + 6) B := by
 have h' := X9 (m := k + 9) (by omega) h
 unfold XA at h'
 rw [Tryz.underlying54] at h'
 obtain ⟨cs, rfl, h2⟩ := h'
 unfold DTy at h2
 rw [Tryz.underlying54] at h2
 simp only [List.foldr] at h2
 obtain ⟨a1, b1, rfl, q1, a2, b2, rfl, q2, a3, b3, rfl, q3, a4, b4, rfl, q4, rfl⟩ := h2
 obtain ⟨A, rfl, hA⟩ := dty_pol q1
 obtain ⟨B, rfl, hB⟩ := dty_pol q2
 obtain ⟨L, rfl⟩ := Hp (k := k + 3) q3
 obtain ⟨M, rfl⟩ := Hp (k := k + 3) q4
 exact ⟨A, B, L, M, by simp, hA, hB⟩
end Go.Proofs.YtdibpeknpmhknaaGreat
