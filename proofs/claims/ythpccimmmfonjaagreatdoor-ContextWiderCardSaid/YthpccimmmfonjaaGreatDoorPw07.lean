/- Texts of this proof, part 7: see the card for what is proved. -/
import Derived.Test.YthpccimmmfonjaaGreatDoorPw02
import Derived.Test.YthpccimmmfonjaaGreatDoorChecked
import Derived.KernelRfl
import Derived.Test.YthpccimmmfonjaaGreatDoorPw05
import Derived.Test.YthpccimmmfonjaaGreatDoorPw04
namespace Go.Proofs.YthpccimmmfonjaaGreatDoor
set_option linter.unusedVariables false
set_option maxRecDepth 100000
open Go
def fns : List (Nat × Nat) := [(87, 2), (88, 2), (89, 2), (90, 2), (91, 2), (92, 2), (112, 1)]
def pts : List Nat := []
theorem K8 : KnowsJ Tryz.prog 8 3 T8 := ⟨Tryz.f8, hintJ H8 fns pts, Tryz.func8, by kernel_rfl, by kernel_rfl⟩
theorem K11 : KnowsJ Tryz.prog 11 1 T11 := ⟨Tryz.f11, hintJ H11 fns pts, Tryz.func11, by kernel_rfl, by kernel_rfl⟩
theorem K12 : KnowsJ Tryz.prog 12 0 T12 := ⟨Tryz.f12, hintJ H12 fns pts, Tryz.func12, by kernel_rfl, by kernel_rfl⟩
theorem K13 : KnowsJ Tryz.prog 13 2 T13 := ⟨Tryz.f13, hintJ H13 fns pts, Tryz.func13, by kernel_rfl, by kernel_rfl⟩
theorem K15 : KnowsJ Tryz.prog 15 1 T15 := ⟨Tryz.f15, hintJ H15 fns pts, Tryz.func15, by kernel_rfl, by kernel_rfl⟩
theorem K17 : KnowsJ Tryz.prog 17 2 T17 := ⟨Tryz.f17, hintJ H17 fns pts, Tryz.func17, by kernel_rfl, by kernel_rfl⟩
theorem K18 : KnowsJ Tryz.prog 18 2 T18 := ⟨Tryz.f18, hintJ H18 fns pts, Tryz.func18, by kernel_rfl, by kernel_rfl⟩
theorem K20 : KnowsJ Tryz.prog 20 2 T20 := ⟨Tryz.f20, hintJ H20 fns pts, Tryz.func20, by kernel_rfl, by kernel_rfl⟩
theorem K22 : KnowsJ Tryz.prog 22 1 T22 := ⟨Tryz.f22, hintJ H22 fns pts, Tryz.func22, by kernel_rfl, by kernel_rfl⟩
theorem K24 : KnowsJ Tryz.prog 24 2 T24 := ⟨Tryz.f24, hintJ H24 fns pts, Tryz.func24, by kernel_rfl, by kernel_rfl⟩
theorem K26 : KnowsJ Tryz.prog 26 3 T26 := ⟨Tryz.f26, hintJ H26 fns pts, Tryz.func26, by kernel_rfl, by kernel_rfl⟩
theorem K27 : KnowsJ Tryz.prog 27 3 T27 := ⟨Tryz.f27, hintJ H27 fns pts, Tryz.func27, by kernel_rfl, by kernel_rfl⟩
theorem K28 : KnowsJ Tryz.prog 28 3 T28 := ⟨Tryz.f28, hintJ H28 fns pts, Tryz.func28, by kernel_rfl, by kernel_rfl⟩
theorem K29 : KnowsJ Tryz.prog 29 2 T29 := ⟨Tryz.f29, hintJ H29 fns pts, Tryz.func29, by kernel_rfl, by kernel_rfl⟩
theorem K30 : KnowsJ Tryz.prog 30 1 T30 := ⟨Tryz.f30, hintJ H30 fns pts, Tryz.func30, by kernel_rfl, by kernel_rfl⟩
theorem K31 : KnowsJ Tryz.prog 31 2 T31 := ⟨Tryz.f31, hintJ H31 fns pts, Tryz.func31, by kernel_rfl, by kernel_rfl⟩
theorem K34 : KnowsJ Tryz.prog 34 1 T34 := ⟨Tryz.f34, hintJ H34 fns pts, Tryz.func34, by kernel_rfl, by kernel_rfl⟩
theorem K35 : KnowsJ Tryz.prog 35 1 T35 := ⟨Tryz.f35, hintJ H35 fns pts, Tryz.func35, by kernel_rfl, by kernel_rfl⟩
theorem K36 : KnowsJ Tryz.prog 36 0 T36 := ⟨Tryz.f36, hintJ H36 fns pts, Tryz.func36, by kernel_rfl, by kernel_rfl⟩
theorem K37 : KnowsJ Tryz.prog 37 0 T37 := ⟨Tryz.f37, hintJ H37 fns pts, Tryz.func37, by kernel_rfl, by kernel_rfl⟩
theorem K38 : KnowsJ Tryz.prog 38 2 T38 := ⟨Tryz.f38, hintJ H38 fns pts, Tryz.func38, by kernel_rfl, by kernel_rfl⟩
theorem K39 : KnowsJ Tryz.prog 39 2 T39 := ⟨Tryz.f39, hintJ H39 fns pts, Tryz.func39, by kernel_rfl, by kernel_rfl⟩
theorem K40 : KnowsJ Tryz.prog 40 2 T40 := ⟨Tryz.f40, hintJ H40 fns pts, Tryz.func40, by kernel_rfl, by kernel_rfl⟩
theorem K43 : KnowsJ Tryz.prog 43 2 T43 := ⟨Tryz.f43, hintJ H43 fns pts, Tryz.func43, by kernel_rfl, by kernel_rfl⟩
theorem K46 : KnowsJ Tryz.prog 46 1 T46 := ⟨Tryz.f46, hintJ H46 fns pts, Tryz.func46, by kernel_rfl, by kernel_rfl⟩
theorem K47 : KnowsJ Tryz.prog 47 2 T47 := ⟨Tryz.f47, hintJ H47 fns pts, Tryz.func47, by kernel_rfl, by kernel_rfl⟩
theorem K48 : KnowsJ Tryz.prog 48 2 T48 := ⟨Tryz.f48, hintJ H48 fns pts, Tryz.func48, by kernel_rfl, by kernel_rfl⟩
theorem K49 : KnowsJ Tryz.prog 49 2 T49 := ⟨Tryz.f49, hintJ H49 fns pts, Tryz.func49, by kernel_rfl, by kernel_rfl⟩
theorem K53 : KnowsJ Tryz.prog 53 2 T53 := ⟨Tryz.f53, hintJ H53 fns pts, Tryz.func53, by kernel_rfl, by kernel_rfl⟩
theorem K55 : KnowsJ Tryz.prog 55 1 T55 := ⟨Tryz.f55, hintJ H55 fns pts, Tryz.func55, by kernel_rfl, by kernel_rfl⟩
theorem K56 : KnowsJ Tryz.prog 56 3 T56 := ⟨Tryz.f56, hintJ H56 fns pts, Tryz.func56, by kernel_rfl, by kernel_rfl⟩
theorem K57 : KnowsJ Tryz.prog 57 3 T57 := ⟨Tryz.f57, hintJ H57 fns pts, Tryz.func57, by kernel_rfl, by kernel_rfl⟩
theorem K58 : KnowsJ Tryz.prog 58 3 T58 := ⟨Tryz.f58, hintJ H58 fns pts, Tryz.func58, by kernel_rfl, by kernel_rfl⟩
theorem K59 : KnowsJ Tryz.prog 59 3 T59 := ⟨Tryz.f59, hintJ H59 fns pts, Tryz.func59, by kernel_rfl, by kernel_rfl⟩
theorem K60 : KnowsJ Tryz.prog 60 2 T60 := ⟨Tryz.f60, hintJ H60 fns pts, Tryz.func60, by kernel_rfl, by kernel_rfl⟩
theorem K61 : KnowsJ Tryz.prog 61 1 T61 := ⟨Tryz.f61, hintJ H61 fns pts, Tryz.func61, by kernel_rfl, by kernel_rfl⟩
theorem K62 : KnowsJ Tryz.prog 62 2 T62 := ⟨Tryz.f62, hintJ H62 fns pts, Tryz.func62, by kernel_rfl, by kernel_rfl⟩
theorem K63 : KnowsJ Tryz.prog 63 2 T63 := ⟨Tryz.f63, hintJ H63 fns pts, Tryz.func63, by kernel_rfl, by kernel_rfl⟩
theorem K64 : KnowsJ Tryz.prog 64 2 T64 := ⟨Tryz.f64, hintJ H64 fns pts, Tryz.func64, by kernel_rfl, by kernel_rfl⟩
theorem K67 : KnowsJ Tryz.prog 67 1 T67 := ⟨Tryz.f67, hintJ H67 fns pts, Tryz.func67, by kernel_rfl, by kernel_rfl⟩
theorem K68 : KnowsJ Tryz.prog 68 1 T68 := ⟨Tryz.f68, hintJ H68 fns pts, Tryz.func68, by kernel_rfl, by kernel_rfl⟩
theorem K69 : KnowsJ Tryz.prog 69 1 T69 := ⟨Tryz.f69, hintJ H69 fns pts, Tryz.func69, by kernel_rfl, by kernel_rfl⟩
theorem K70 : KnowsJ Tryz.prog 70 1 T70 := ⟨Tryz.f70, hintJ H70 fns pts, Tryz.func70, by kernel_rfl, by kernel_rfl⟩
theorem K71 : KnowsJ Tryz.prog 71 1 T71 := ⟨Tryz.f71, hintJ H71 fns pts, Tryz.func71, by kernel_rfl, by kernel_rfl⟩
theorem K72 : KnowsJ Tryz.prog 72 1 T72 := ⟨Tryz.f72, hintJ H72 fns pts, Tryz.func72, by kernel_rfl, by kernel_rfl⟩
theorem K73 : KnowsJ Tryz.prog 73 1 T73 := ⟨Tryz.f73, hintJ H73 fns pts, Tryz.func73, by kernel_rfl, by kernel_rfl⟩
theorem K74 : KnowsJ Tryz.prog 74 1 T74 := ⟨Tryz.f74, hintJ H74 fns pts, Tryz.func74, by kernel_rfl, by kernel_rfl⟩
theorem K75 : KnowsJ Tryz.prog 75 1 T75 := ⟨Tryz.f75, hintJ H75 fns pts, Tryz.func75, by kernel_rfl, by kernel_rfl⟩
theorem K76 : KnowsJ Tryz.prog 76 1 T76 := ⟨Tryz.f76, hintJ H76 fns pts, Tryz.func76, by kernel_rfl, by kernel_rfl⟩
theorem K77 : KnowsJ Tryz.prog 77 1 T77 := ⟨Tryz.f77, hintJ H77 fns pts, Tryz.func77, by kernel_rfl, by kernel_rfl⟩
theorem K78 : KnowsJ Tryz.prog 78 1 T78 := ⟨Tryz.f78, hintJ H78 fns pts, Tryz.func78, by kernel_rfl, by kernel_rfl⟩
theorem K79 : KnowsJ Tryz.prog 79 1 T79 := ⟨Tryz.f79, hintJ H79 fns pts, Tryz.func79, by kernel_rfl, by kernel_rfl⟩
theorem K80 : KnowsJ Tryz.prog 80 1 T80 := ⟨Tryz.f80, hintJ H80 fns pts, Tryz.func80, by kernel_rfl, by kernel_rfl⟩
theorem K81 : KnowsJ Tryz.prog 81 0 T81 := ⟨Tryz.f81, hintJ H81 fns pts, Tryz.func81, by kernel_rfl, by kernel_rfl⟩
theorem K82 : KnowsJ Tryz.prog 82 1 T82 := ⟨Tryz.f82, hintJ H82 fns pts, Tryz.func82, by kernel_rfl, by kernel_rfl⟩
theorem K87 : KnowsJ Tryz.prog 87 2 T87 := ⟨Tryz.f87, hintJ H87 fns pts, Tryz.func87, by kernel_rfl, by kernel_rfl⟩
theorem K88 : KnowsJ Tryz.prog 88 2 T88 := ⟨Tryz.f88, hintJ H88 fns pts, Tryz.func88, by kernel_rfl, by kernel_rfl⟩
theorem K89 : KnowsJ Tryz.prog 89 2 T89 := ⟨Tryz.f89, hintJ H89 fns pts, Tryz.func89, by kernel_rfl, by kernel_rfl⟩
theorem K90 : KnowsJ Tryz.prog 90 2 T90 := ⟨Tryz.f90, hintJ H90 fns pts, Tryz.func90, by kernel_rfl, by kernel_rfl⟩
theorem K91 : KnowsJ Tryz.prog 91 2 T91 := ⟨Tryz.f91, hintJ H91 fns pts, Tryz.func91, by kernel_rfl, by kernel_rfl⟩
theorem K92 : KnowsJ Tryz.prog 92 2 T92 := ⟨Tryz.f92, hintJ H92 fns pts, Tryz.func92, by kernel_rfl, by kernel_rfl⟩
theorem K93 : KnowsJ Tryz.prog 93 2 T93 := ⟨Tryz.f93, hintJ H93 fns pts, Tryz.func93, by kernel_rfl, by kernel_rfl⟩
theorem K100 : KnowsJ Tryz.prog 100 2 T100 := ⟨Tryz.f100, hintJ H100 fns pts, Tryz.func100, by kernel_rfl, by kernel_rfl⟩
theorem K102 : KnowsJ Tryz.prog 102 1 T102 := ⟨Tryz.f102, hintJ H102 fns pts, Tryz.func102, by kernel_rfl, by kernel_rfl⟩
theorem K103 : KnowsJ Tryz.prog 103 2 T103 := ⟨Tryz.f103, hintJ H103 fns pts, Tryz.func103, by kernel_rfl, by kernel_rfl⟩
theorem K104 : KnowsJ Tryz.prog 104 1 T104 := ⟨Tryz.f104, hintJ H104 fns pts, Tryz.func104, by kernel_rfl, by kernel_rfl⟩
theorem K105 : KnowsJ Tryz.prog 105 3 T105 := ⟨Tryz.f105, hintJ H105 fns pts, Tryz.func105, by kernel_rfl, by kernel_rfl⟩
theorem K106 : KnowsJ Tryz.prog 106 1 T106 := ⟨Tryz.f106, hintJ H106 fns pts, Tryz.func106, by kernel_rfl, by kernel_rfl⟩
theorem K108 : KnowsJ Tryz.prog 108 2 T108 := ⟨Tryz.f108, hintJ H108 fns pts, Tryz.func108, by kernel_rfl, by kernel_rfl⟩
theorem K110 : KnowsJ Tryz.prog 110 2 T110 := ⟨Tryz.f110, hintJ H110 fns pts, Tryz.func110, by kernel_rfl, by kernel_rfl⟩
theorem K111 : KnowsJ Tryz.prog 111 2 T111 := ⟨Tryz.f111, hintJ H111 fns pts, Tryz.func111, by kernel_rfl, by kernel_rfl⟩
theorem K112 : KnowsJ Tryz.prog 112 2 T112 := ⟨Tryz.f112, hintJ H112 fns pts, Tryz.func112, by kernel_rfl, by kernel_rfl⟩
theorem K113 : KnowsJ Tryz.prog 113 2 T113 := ⟨Tryz.f113, hintJ H113 fns pts, Tryz.func113, by kernel_rfl, by kernel_rfl⟩
theorem K114 : KnowsJ Tryz.prog 114 2 T114 := ⟨Tryz.f114, hintJ H114 fns pts, Tryz.func114, by kernel_rfl, by kernel_rfl⟩
theorem K115 : KnowsJ Tryz.prog 115 2 T115 := ⟨Tryz.f115, hintJ H115 fns pts, Tryz.func115, by kernel_rfl, by kernel_rfl⟩
theorem K116 : KnowsJ Tryz.prog 116 2 T116 := ⟨Tryz.f116, hintJ H116 fns pts, Tryz.func116, by kernel_rfl, by kernel_rfl⟩
theorem K117 : KnowsJ Tryz.prog 117 2 T117 := ⟨Tryz.f117, hintJ H117 fns pts, Tryz.func117, by kernel_rfl, by kernel_rfl⟩
theorem K118 : KnowsJ Tryz.prog 118 2 T118 := ⟨Tryz.f118, hintJ H118 fns pts, Tryz.func118, by kernel_rfl, by kernel_rfl⟩
theorem K119 : KnowsJ Tryz.prog 119 2 T119 := ⟨Tryz.f119, hintJ H119 fns pts, Tryz.func119, by kernel_rfl, by kernel_rfl⟩
theorem K120 : KnowsJ Tryz.prog 120 3 T120 := ⟨Tryz.f120, hintJ H120 fns pts, Tryz.func120, by kernel_rfl, by kernel_rfl⟩
theorem K121 : KnowsJ Tryz.prog 121 2 T121 := ⟨Tryz.f121, hintJ H121 fns pts, Tryz.func121, by kernel_rfl, by kernel_rfl⟩
theorem K122 : KnowsJ Tryz.prog 122 2 T122 := ⟨Tryz.f122, hintJ H122 fns pts, Tryz.func122, by kernel_rfl, by kernel_rfl⟩
theorem K123 : KnowsJ Tryz.prog 123 1 T123 := ⟨Tryz.f123, hintJ H123 fns pts, Tryz.func123, by kernel_rfl, by kernel_rfl⟩
theorem K124 : KnowsJ Tryz.prog 124 3 T124 := ⟨Tryz.f124, hintJ H124 fns pts, Tryz.func124, by kernel_rfl, by kernel_rfl⟩
theorem K125 : KnowsJ Tryz.prog 125 2 T125 := ⟨Tryz.f125, hintJ H125 fns pts, Tryz.func125, by kernel_rfl, by kernel_rfl⟩
theorem K126 : KnowsJ Tryz.prog 126 1 T126 := ⟨Tryz.f126, hintJ H126 fns pts, Tryz.func126, by kernel_rfl, by kernel_rfl⟩
theorem K134 : KnowsJ Tryz.prog 134 1 T134 := ⟨Tryz.f134, hintJ H134 fns pts, Tryz.func134, by kernel_rfl, by kernel_rfl⟩
theorem K139 : KnowsJ Tryz.prog 139 1 T139 := ⟨Tryz.f139, hintJ H139 fns pts, Tryz.func139, by kernel_rfl, by kernel_rfl⟩
theorem K140 : KnowsJ Tryz.prog 140 2 T140 := ⟨Tryz.f140, hintJ H140 fns pts, Tryz.func140, by kernel_rfl, by kernel_rfl⟩
theorem K141 : KnowsJ Tryz.prog 141 2 T141 := ⟨Tryz.f141, hintJ H141 fns pts, Tryz.func141, by kernel_rfl, by kernel_rfl⟩
theorem K142 : KnowsJ Tryz.prog 142 2 T142 := ⟨Tryz.f142, hintJ H142 fns pts, Tryz.func142, by kernel_rfl, by kernel_rfl⟩
theorem K143 : KnowsJ Tryz.prog 143 3 T143 := ⟨Tryz.f143, hintJ H143 fns pts, Tryz.func143, by kernel_rfl, by kernel_rfl⟩
theorem K144 : KnowsJ Tryz.prog 144 1 T144 := ⟨Tryz.f144, hintJ H144 fns pts, Tryz.func144, by kernel_rfl, by kernel_rfl⟩
theorem K145 : KnowsJ Tryz.prog 145 1 T145 := ⟨Tryz.f145, hintJ H145 fns pts, Tryz.func145, by kernel_rfl, by kernel_rfl⟩
theorem K146 : KnowsJ Tryz.prog 146 1 T146 := ⟨Tryz.f146, hintJ H146 fns pts, Tryz.func146, by kernel_rfl, by kernel_rfl⟩
theorem K147 : KnowsJ Tryz.prog 147 2 T147 := ⟨Tryz.f147, hintJ H147 fns pts, Tryz.func147, by kernel_rfl, by kernel_rfl⟩
theorem K160 : KnowsJ Tryz.prog 160 1 T160 := ⟨Tryz.f160, hintJ H160 fns pts, Tryz.func160, by kernel_rfl, by kernel_rfl⟩
theorem K161 : KnowsJ Tryz.prog 161 1 T161 := ⟨Tryz.f161, hintJ H161 fns pts, Tryz.func161, by kernel_rfl, by kernel_rfl⟩
theorem K162 : KnowsJ Tryz.prog 162 1 T162 := ⟨Tryz.f162, hintJ H162 fns pts, Tryz.func162, by kernel_rfl, by kernel_rfl⟩
theorem K163 : KnowsJ Tryz.prog 163 2 T163 := ⟨Tryz.f163, hintJ H163 fns pts, Tryz.func163, by kernel_rfl, by kernel_rfl⟩
theorem K164 : KnowsJ Tryz.prog 164 2 T164 := ⟨Tryz.f164, hintJ H164 fns pts, Tryz.func164, by kernel_rfl, by kernel_rfl⟩
theorem K165 : KnowsJ Tryz.prog 165 1 T165 := ⟨Tryz.f165, hintJ H165 fns pts, Tryz.func165, by kernel_rfl, by kernel_rfl⟩
theorem K166 : KnowsJ Tryz.prog 166 1 T166 := ⟨Tryz.f166, hintJ H166 fns pts, Tryz.func166, by kernel_rfl, by kernel_rfl⟩
theorem K174 : KnowsJ Tryz.prog 174 1 T174 := ⟨Tryz.f174, hintJ H174 fns pts, Tryz.func174, by kernel_rfl, by kernel_rfl⟩
end Go.Proofs.YthpccimmmfonjaaGreatDoor
namespace Go.Proofs.YthpccimmmfonjaaGreatDoor
set_option linter.unusedVariables false
set_option maxRecDepth 100000
open Go
theorem dty_str {k : Nat} {cs : List DVal} (h : DTy Tryz.prog (k + 1) 9 cs) : ∃ s : Bs, cs = [.str s] ∧ s.length ≤ maxLen := by
  unfold DTy at h
  rw [Tryz.underlying9] at h
  exact h
theorem dty_int {k : Nat} {cs : List DVal} (h : DTy Tryz.prog (k + 1) 3 cs) : ∃ i : Int, cs = [.int .i64 i] := by
  unfold DTy at h
  rw [Tryz.underlying3] at h
  obtain ⟨i, h, -⟩ := h
  exact ⟨i, h⟩
theorem dty_bool {k : Nat} {cs : List DVal} (h : DTy Tryz.prog (k + 1) 4 cs) : ∃ b : Bool, cs = [.bool b] := by
  unfold DTy at h
  rw [Tryz.underlying4] at h
  exact h
theorem dty_u64 {k : Nat} {cs : List DVal} (h : DTy Tryz.prog (k + 1) 40 cs) : ∃ c : Nat, cs = [.int .u64 c] ∧ c < 18446744073709551616 := by
  unfold DTy at h
  rw [Tryz.underlying40] at h
  obtain ⟨i, rfl, h⟩ := h
  obtain ⟨c, rfl, hc⟩ := wf_u64 h
  exact ⟨c, rfl, hc⟩
theorem dty_lv {k : Nat} {cs : List DVal} (h : DTy Tryz.prog (k + 2) 42 cs) : ∃ l : LvV, cs = l.row := by
  unfold DTy at h
  rw [Tryz.underlying42] at h
  simp only [List.foldr] at h
  obtain ⟨a, b, rfl, h1, a2, b2, rfl, h2, rfl⟩ := h
  obtain ⟨s, rfl⟩ := dty_int h1
  obtain ⟨c, rfl, hc⟩ := dty_u64 h2
  exact ⟨⟨s, c, hc⟩, rfl⟩
theorem dty_rng {k : Nat} {cs : List DVal} (h : DTy Tryz.prog (k + 3) 44 cs) : ∃ l m : LvV, cs = l.row ++ m.row := by
  unfold DTy at h
  rw [Tryz.underlying44] at h
  simp only [List.foldr] at h
  obtain ⟨a, b, rfl, h1, a2, b2, rfl, h2, rfl⟩ := h
  obtain ⟨l, rfl⟩ := dty_lv h1
  obtain ⟨m, rfl⟩ := dty_lv h2
  exact ⟨l, m, by rw [List.append_nil]⟩
theorem dty_ctx {k : Nat} {cs : List DVal} (h : DTy Tryz.prog (k + 4) 46 cs) : ∃ c : CtxV, cs = c.row := by
  unfold DTy at h
  rw [Tryz.underlying46] at h
  simp only [List.foldr] at h
  obtain ⟨a, b, rfl, h1, a2, b2, rfl, h2, a3, b3, rfl, h3, a4, b4, rfl, h4, rfl⟩ := h
  obtain ⟨u, rfl⟩ := dty_int h1
  obtain ⟨r, rfl⟩ := dty_int h2
  obtain ⟨t, rfl⟩ := dty_int h3
  obtain ⟨l, m, rfl⟩ := dty_rng h4
  exact ⟨⟨u, r, t, l, m⟩, by rw [List.append_nil]; rfl⟩
theorem dty_set {k : Nat} {cs : List DVal} (h : DTy Tryz.prog (k + 2) 65 cs) : ∃ s : SetV, cs = s.row := by
  unfold DTy at h
  rw [Tryz.underlying65] at h
  obtain ⟨rows, h1, h2, rfl⟩ := h
  match rows, h1 with
  | [a, b, c, d], _ =>
    obtain ⟨x, rfl, hx⟩ := dty_u64 (h2 a (by simp))
    obtain ⟨y, rfl, hy⟩ := dty_u64 (h2 b (by simp))
    obtain ⟨z, rfl, hz⟩ := dty_u64 (h2 c (by simp))
    obtain ⟨w, rfl, hw⟩ := dty_u64 (h2 d (by simp))
    exact ⟨⟨fun i => match i with | 0 => x | 1 => y | 2 => z | 3 => w | _ => 0, fun i => by split <;> first | assumption | decide⟩, rfl⟩
theorem dty_strs {k : Nat} {cs : List DVal} (h : DTy Tryz.prog (k + 2) 28 cs) : ∃ s : Sl Bs, cs = [strs s] ∧ s.l.length ≤ maxLen ∧ ∀ x ∈ s.l, x.length ≤ maxLen := by
  unfold DTy at h
  rw [Tryz.underlying28] at h
  obtain ⟨z, es, rfl, h1, h2⟩ := h
  obtain ⟨l, rfl⟩ := rows_of (f := fun s : Bs => [DVal.str s]) fun r hr => by
    obtain ⟨s, rfl, -⟩ := dty_str (h1 r hr)
    exact ⟨s, rfl⟩
  refine ⟨⟨z, l⟩, rfl, by simpa using h2, fun x hx => ?_⟩
  obtain ⟨s, e, hs⟩ := dty_str (h1 [.str x] (List.mem_map.2 ⟨x, hx, rfl⟩))
  simp only [List.cons.injEq, DVal.str.injEq, and_true] at e
  rw [e]; exact hs
theorem wf_u32 {i : Int} (h : (Lit.int .u32 i).wf = true) : ∃ c : Nat, i = c ∧ c < 4294967296 := by
  simp [Lit.wf, IntKind.min, IntKind.max, IntKind.signed, IntKind.bits] at h
  exact ⟨i.toNat, by omega, by omega⟩
theorem dty_u32 {k : Nat} {cs : List DVal} (h : DTy Tryz.prog (k + 1) 120 cs) : ∃ c : Nat, cs = [.int .u32 c] ∧ c < 4294967296 := by
  unfold DTy at h
  rw [Tryz.underlying120] at h
  obtain ⟨i, rfl, h⟩ := h
  obtain ⟨c, rfl, hc⟩ := wf_u32 h
  exact ⟨c, rfl, hc⟩
theorem dty_ClassV {k : Nat} {cs : List DVal} (h : DTy Tryz.prog (k + 6) 125 cs) : ∃ x : ClassV, cs = x.row ∧ x.name.length ≤ maxLen ∧ x.perms.l.length ≤ maxLen ∧ ∀ s ∈ x.perms.l, s.length ≤ maxLen := by
  unfold DTy at h
  rw [Tryz.underlying125] at h
  simp only [List.foldr] at h
  obtain ⟨a0, b0, rfl, h0, a1, b1, rfl, h1, rfl⟩ := h
  obtain ⟨s0, rfl, q0⟩ := dty_str h0
  obtain ⟨s1, rfl, q1, r1⟩ := dty_strs h1
  exact ⟨⟨s0, s1⟩, by simp [ClassV.row], q0, q1, r1⟩
theorem dty_TypeV {k : Nat} {cs : List DVal} (h : DTy Tryz.prog (k + 6) 69 cs) : ∃ x : TypeV, cs = x.row ∧ x.name.length ≤ maxLen ∧ x.aliases.l.length ≤ maxLen ∧ ∀ s ∈ x.aliases.l, s.length ≤ maxLen := by
  unfold DTy at h
  rw [Tryz.underlying69] at h
  simp only [List.foldr] at h
  obtain ⟨a0, b0, rfl, h0, a1, b1, rfl, h1, a2, b2, rfl, h2, rfl⟩ := h
  obtain ⟨s0, rfl, q0⟩ := dty_str h0
  obtain ⟨s1, rfl, q1, r1⟩ := dty_strs h1
  obtain ⟨s2, rfl⟩ := dty_bool h2
  exact ⟨⟨s0, s1, s2⟩, by simp [TypeV.row], q0, q1, r1⟩
theorem dty_AttrV {k : Nat} {cs : List DVal} (h : DTy Tryz.prog (k + 6) 128 cs) : ∃ x : AttrV, cs = x.row ∧ x.name.length ≤ maxLen := by
  unfold DTy at h
  rw [Tryz.underlying128] at h
  simp only [List.foldr] at h
  obtain ⟨a0, b0, rfl, h0, a1, b1, rfl, h1, rfl⟩ := h
  obtain ⟨s0, rfl, q0⟩ := dty_str h0
  obtain ⟨s1, rfl⟩ := dty_set h1
  exact ⟨⟨s0, s1⟩, by simp [AttrV.row], q0⟩
theorem dty_RoleV {k : Nat} {cs : List DVal} (h : DTy Tryz.prog (k + 6) 74 cs) : ∃ x : RoleV, cs = x.row ∧ x.name.length ≤ maxLen := by
  unfold DTy at h
  rw [Tryz.underlying74] at h
  simp only [List.foldr] at h
  obtain ⟨a0, b0, rfl, h0, a1, b1, rfl, h1, a2, b2, rfl, h2, rfl⟩ := h
  obtain ⟨s0, rfl, q0⟩ := dty_str h0
  obtain ⟨s1, rfl⟩ := dty_set h1
  obtain ⟨s2, rfl⟩ := dty_set h2
  exact ⟨⟨s0, s1, s2⟩, by simp [RoleV.row], q0⟩
theorem dty_UserV {k : Nat} {cs : List DVal} (h : DTy Tryz.prog (k + 6) 67 cs) : ∃ x : UserV, cs = x.row ∧ x.name.length ≤ maxLen := by
  unfold DTy at h
  rw [Tryz.underlying67] at h
  simp only [List.foldr] at h
  obtain ⟨a0, b0, rfl, h0, a1, b1, rfl, h1, a2, b2, rfl, h2, a3, b3, rfl, h3, rfl⟩ := h
  obtain ⟨s0, rfl, q0⟩ := dty_str h0
  obtain ⟨s1, rfl⟩ := dty_set h1
  obtain ⟨s2, rfl⟩ := dty_lv h2
  obtain ⟨s3, t3, rfl⟩ := dty_rng h3
  exact ⟨⟨s0, s1, s2, s3, t3⟩, by simp [UserV.row], q0⟩
theorem dty_BoolV {k : Nat} {cs : List DVal} (h : DTy Tryz.prog (k + 6) 130 cs) : ∃ x : BoolV, cs = x.row ∧ x.name.length ≤ maxLen := by
  unfold DTy at h
  rw [Tryz.underlying130] at h
  simp only [List.foldr] at h
  obtain ⟨a0, b0, rfl, h0, a1, b1, rfl, h1, rfl⟩ := h
  obtain ⟨s0, rfl, q0⟩ := dty_str h0
  obtain ⟨s1, rfl⟩ := dty_bool h1
  exact ⟨⟨s0, s1⟩, by simp [BoolV.row], q0⟩
theorem dty_RuleV {k : Nat} {cs : List DVal} (h : DTy Tryz.prog (k + 6) 132 cs) : ∃ x : RuleV, cs = x.row := by
  unfold DTy at h
  rw [Tryz.underlying132] at h
  simp only [List.foldr] at h
  obtain ⟨a0, b0, rfl, h0, a1, b1, rfl, h1, a2, b2, rfl, h2, a3, b3, rfl, h3, a4, b4, rfl, h4, a5, b5, rfl, h5, a6, b6, rfl, h6, rfl⟩ := h
  obtain ⟨s0, rfl⟩ := dty_int h0
  obtain ⟨s1, rfl⟩ := dty_set h1
  obtain ⟨s2, rfl⟩ := dty_set h2
  obtain ⟨s3, rfl⟩ := dty_bool h3
  obtain ⟨s4, rfl⟩ := dty_int h4
  obtain ⟨s5, rfl, q5⟩ := dty_u32 h5
  obtain ⟨s6, rfl⟩ := dty_int h6
  exact ⟨⟨s0, s1, s2, s3, s4, s5, s6, q5⟩, by simp [RuleV.row]⟩
theorem dty_TransV {k : Nat} {cs : List DVal} (h : DTy Tryz.prog (k + 6) 116 cs) : ∃ x : TransV, cs = x.row ∧ x.name.length ≤ maxLen := by
  unfold DTy at h
  rw [Tryz.underlying116] at h
  simp only [List.foldr] at h
  obtain ⟨a0, b0, rfl, h0, a1, b1, rfl, h1, a2, b2, rfl, h2, a3, b3, rfl, h3, a4, b4, rfl, h4, a5, b5, rfl, h5, a6, b6, rfl, h6, rfl⟩ := h
  obtain ⟨s0, rfl⟩ := dty_int h0
  obtain ⟨s1, rfl⟩ := dty_set h1
  obtain ⟨s2, rfl⟩ := dty_set h2
  obtain ⟨s3, rfl⟩ := dty_int h3
  obtain ⟨s4, rfl, q4⟩ := dty_str h4
  obtain ⟨s5, rfl⟩ := dty_int h5
  obtain ⟨s6, rfl⟩ := dty_int h6
  exact ⟨⟨s0, s1, s2, s3, s4, s5, s6⟩, by simp [TransV.row], q4⟩
theorem dty_RoleTransV {k : Nat} {cs : List DVal} (h : DTy Tryz.prog (k + 6) 181 cs) : ∃ x : RoleTransV, cs = x.row := by
  unfold DTy at h
  rw [Tryz.underlying181] at h
  simp only [List.foldr] at h
  obtain ⟨a0, b0, rfl, h0, a1, b1, rfl, h1, a2, b2, rfl, h2, a3, b3, rfl, h3, rfl⟩ := h
  obtain ⟨s0, rfl⟩ := dty_set h0
  obtain ⟨s1, rfl⟩ := dty_set h1
  obtain ⟨s2, rfl⟩ := dty_int h2
  obtain ⟨s3, rfl⟩ := dty_int h3
  exact ⟨⟨s0, s1, s2, s3⟩, by simp [RoleTransV.row]⟩
theorem dty_RangeTransV {k : Nat} {cs : List DVal} (h : DTy Tryz.prog (k + 6) 183 cs) : ∃ x : RangeTransV, cs = x.row := by
  unfold DTy at h
  rw [Tryz.underlying183] at h
  simp only [List.foldr] at h
  obtain ⟨a0, b0, rfl, h0, a1, b1, rfl, h1, a2, b2, rfl, h2, a3, b3, rfl, h3, rfl⟩ := h
  obtain ⟨s0, rfl⟩ := dty_set h0
  obtain ⟨s1, rfl⟩ := dty_set h1
  obtain ⟨s2, rfl⟩ := dty_int h2
  obtain ⟨s3, t3, rfl⟩ := dty_rng h3
  exact ⟨⟨s0, s1, s2, s3, t3⟩, by simp [RangeTransV.row]⟩
theorem dty_SidV {k : Nat} {cs : List DVal} (h : DTy Tryz.prog (k + 6) 94 cs) : ∃ x : SidV, cs = x.row ∧ x.name.length ≤ maxLen := by
  unfold DTy at h
  rw [Tryz.underlying94] at h
  simp only [List.foldr] at h
  obtain ⟨a0, b0, rfl, h0, a1, b1, rfl, h1, rfl⟩ := h
  obtain ⟨s0, rfl, q0⟩ := dty_str h0
  obtain ⟨s1, rfl⟩ := dty_ctx h1
  exact ⟨⟨s0, s1⟩, by simp [SidV.row], q0⟩
theorem dty_FileV {k : Nat} {cs : List DVal} (h : DTy Tryz.prog (k + 6) 186 cs) : ∃ x : FileV, cs = x.row ∧ x.pattern.length ≤ maxLen := by
  unfold DTy at h
  rw [Tryz.underlying186] at h
  simp only [List.foldr] at h
  obtain ⟨a0, b0, rfl, h0, a1, b1, rfl, h1, a2, b2, rfl, h2, rfl⟩ := h
  obtain ⟨s0, rfl, q0⟩ := dty_str h0
  obtain ⟨s1, rfl⟩ := dty_int h1
  obtain ⟨s2, rfl⟩ := dty_ctx h2
  exact ⟨⟨s0, s1, s2⟩, by simp [FileV.row], q0⟩
theorem dty_AssertV {k : Nat} {cs : List DVal} (h : DTy Tryz.prog (k + 6) 193 cs) : ∃ x : AssertV, cs = x.row ∧ x.name.length ≤ maxLen := by
  unfold DTy at h
  rw [Tryz.underlying193] at h
  simp only [List.foldr] at h
  obtain ⟨a0, b0, rfl, h0, a1, b1, rfl, h1, a2, b2, rfl, h2, a3, b3, rfl, h3, rfl⟩ := h
  obtain ⟨s0, rfl, q0⟩ := dty_str h0
  obtain ⟨s1, rfl⟩ := dty_int h1
  obtain ⟨s2, rfl⟩ := dty_set h2
  obtain ⟨s3, rfl⟩ := dty_set h3
  exact ⟨⟨s0, s1, s2, s3⟩, by simp [AssertV.row], q0⟩
theorem ExprV.Fit.mono : ∀ {d m : Nat} {e : ExprV}, d ≤ m → e.Fit d → e.Fit m := by
  intro d
  induction d with
  | zero => intro m e _ h; cases h
  | succ d ih =>
    intro m e hm h
    obtain ⟨m, rfl⟩ : ∃ q, m = q + 1 := ⟨m - 1, by omega⟩
    cases h with
    | mk h1 h2 => exact .mk h1 fun e he => ih (by omega) (h2 e he)
theorem rows_ofP {α : Type} {f : α → List DVal} {Q : α → Prop} : ∀ {es : List (List DVal)}, (∀ r ∈ es, ∃ x, r = f x ∧ Q x) → ∃ l : List α, es = l.map f ∧ ∀ x ∈ l, Q x
  | [], _ => ⟨[], rfl, by simp⟩
  | e :: es, h => by
    obtain ⟨x, rfl, hx⟩ := h e (by simp)
    obtain ⟨l, rfl, hl⟩ := rows_ofP (es := es) fun r hr => h r (by simp [hr])
    exact ⟨x :: l, rfl, by simpa using ⟨hx, hl⟩⟩
theorem dty_expr : ∀ {k : Nat} {cs : List DVal}, DTy Tryz.prog k 119 cs → ∃ e : ExprV, cs = e.row ∧ e.Fit k := by
  intro k
  induction k using Nat.strongRecOn with
  | _ k ih =>
    intro cs hx
    match k, ih, hx with
    | 0, _, h => exact h.elim
    | 1, _, h =>
      unfold DTy at h
      rw [Tryz.underlying119] at h
      simp only [List.foldr] at h
      obtain ⟨a, b, rfl, h1, -⟩ := h
      exact h1.elim
    | k + 2, ih, h =>
      have h' := dty_mono (m := k + 6) (by omega) h
      unfold DTy at h
      rw [Tryz.underlying119] at h
      simp only [List.foldr] at h
      obtain ⟨a0, b0, rfl, h0, a1, b1, rfl, h1, a2, b2, rfl, h2, a3, b3, rfl, h3, a4, b4, rfl, h4, a5, b5, rfl, h5, a6, b6, rfl, h6, rfl⟩ := h
      obtain ⟨op, rfl⟩ := dty_int h0
      obtain ⟨a, rfl⟩ := dty_int h1
      obtain ⟨rel, rfl⟩ := dty_int h2
      obtain ⟨b, rfl⟩ := dty_int h3
      obtain ⟨names, rfl, -⟩ := dty_strs (dty_mono (m := k + 2) (by omega) h4)
      obtain ⟨set, rfl⟩ := dty_set (dty_mono (m := k + 2) (by omega) h5)
      unfold DTy at h6
      rw [Tryz.underlying29] at h6
      obtain ⟨z, es, rfl, h7, h8⟩ := h6
      obtain ⟨l, rfl, hl⟩ := rows_ofP (f := ExprV.row) fun r hr => ih k (by omega) (h7 r hr)
      exact ⟨.mk op a rel b names set z l, by rw [ExprV.row_mk]; rfl, .mk (by simpa using h8) fun e he => (hl e he).mono (by omega)⟩
theorem dty_ConstrV {k : Nat} {cs : List DVal} (h : DTy Tryz.prog (k + 6) 122 cs) : ∃ x : ConstrV, cs = x.row ∧ x.expr.Fit (k + 6) := by
  unfold DTy at h
  rw [Tryz.underlying122] at h
  simp only [List.foldr] at h
  obtain ⟨a0, b0, rfl, h0, a1, b1, rfl, h1, a2, b2, rfl, h2, a3, b3, rfl, h3, rfl⟩ := h
  obtain ⟨s0, rfl⟩ := dty_int h0
  obtain ⟨s1, rfl, q1⟩ := dty_u32 h1
  obtain ⟨s2, rfl⟩ := dty_bool h2
  obtain ⟨e, rfl, he⟩ := dty_expr h3
  exact ⟨⟨s0, s1, s2, e, q1⟩, by simp [ConstrV.row], he.mono (by omega)⟩
end Go.Proofs.YthpccimmmfonjaaGreatDoor
namespace Go.Proofs.YthpccimmmfonjaaGreatDoor
set_option linter.unusedVariables false
set_option maxRecDepth 100000
open Go
theorem dty_sl {α : Type} {f : α → List DVal} {Q : α → Prop} {t e : TypeId} {c k : Nat} {cs : List DVal} (hu : Tryz.prog.underlying t = some (.slice e)) (hc : Tryz.prog.cellsOf e = c)
    (hrow : ∀ r, DTy Tryz.prog k e r → ∃ x, r = f x ∧ Q x) (h : DTy Tryz.prog (k + 1) t cs) : ∃ s : Sl α, cs = [slOf c f s] ∧ (∀ x ∈ s.l, Q x) ∧ s.l.length ≤ maxLen := by
  unfold DTy at h
  rw [hu] at h
  simp only at h
  rw [hc] at h
  obtain ⟨z, es, rfl, h1, h2⟩ := h
  obtain ⟨l, rfl, hl⟩ := rows_ofP (f := f) (Q := Q) fun r hr => hrow r (h1 r hr)
  exact ⟨⟨z, l⟩, rfl, hl, by simpa using h2⟩
theorem dty_pol {k : Nat} {cs : List DVal} (h : DTy Tryz.prog (k + 8) 39 cs) : ∃ p : PolV, cs = p.row ∧ PFit (k + 6) p := by
  unfold DTy at h
  rw [Tryz.underlying39] at h
  simp only [List.foldr] at h
  obtain ⟨a0, b0, rfl, h0, a1, b1, rfl, h1, a2, b2, rfl, h2, a3, b3, rfl, h3, a4, b4, rfl, h4, a5, b5, rfl, h5, a6, b6, rfl, h6, a7, b7, rfl, h7, a8, b8, rfl, h8, a9, b9, rfl, h9, a10, b10, rfl, h10, a11, b11, rfl, h11, a12, b12, rfl, h12, a13, b13, rfl, h13, a14, b14, rfl, h14, a15, b15, rfl, h15, a16, b16, rfl, h16, rfl⟩ := h
  obtain ⟨s0, rfl, f0, -⟩ := dty_sl (f := ClassV.row) (Q := fun c => c.name.length ≤ maxLen ∧ c.perms.l.length ≤ maxLen ∧ ∀ s ∈ c.perms.l, s.length ≤ maxLen) Tryz.underlying22 (c := 2) (by kernel_rfl) (fun r hr => dty_ClassV hr) h0
  obtain ⟨s1, rfl, f1, -⟩ := dty_sl (f := TypeV.row) (Q := fun c => c.name.length ≤ maxLen ∧ c.aliases.l.length ≤ maxLen ∧ ∀ s ∈ c.aliases.l, s.length ≤ maxLen) Tryz.underlying23 (c := 3) (by kernel_rfl) (fun r hr => dty_TypeV hr) h1
  obtain ⟨s2, rfl, f2, -⟩ := dty_sl (f := AttrV.row) (Q := fun c => c.name.length ≤ maxLen) Tryz.underlying24 (c := 5) (by kernel_rfl) (fun r hr => dty_AttrV hr) h2
  obtain ⟨s3, rfl, f3, -⟩ := dty_sl (f := RoleV.row) (Q := fun c => c.name.length ≤ maxLen) Tryz.underlying25 (c := 9) (by kernel_rfl) (fun r hr => dty_RoleV hr) h3
  obtain ⟨s4, rfl, f4, -⟩ := dty_sl (f := UserV.row) (Q := fun c => c.name.length ≤ maxLen) Tryz.underlying26 (c := 11) (by kernel_rfl) (fun r hr => dty_UserV hr) h4
  obtain ⟨s5, rfl, f5, -⟩ := dty_sl (f := BoolV.row) (Q := fun c => c.name.length ≤ maxLen) Tryz.underlying27 (c := 2) (by kernel_rfl) (fun r hr => dty_BoolV hr) h5
  obtain ⟨s6, rfl, f6⟩ := dty_strs (dty_mono (m := k + 7) (by omega) h6)
  obtain ⟨s7, rfl, f7⟩ := dty_strs (dty_mono (m := k + 7) (by omega) h7)
  obtain ⟨s8, rfl, f8, -⟩ := dty_sl (f := ExprV.row) (Q := fun e => e.Fit (k + 6)) Tryz.underlying29 (c := 10) (by kernel_rfl) (fun r hr => dty_expr hr) h8
  obtain ⟨s9, rfl, f9, -⟩ := dty_sl (f := RuleV.row) (Q := fun _ => True) Tryz.underlying30 (c := 13) (by kernel_rfl) (fun r hr => (dty_RuleV hr).elim fun x hx => ⟨x, hx, trivial⟩) h9
  obtain ⟨s10, rfl, f10, -⟩ := dty_sl (f := TransV.row) (Q := fun c => c.name.length ≤ maxLen) Tryz.underlying31 (c := 13) (by kernel_rfl) (fun r hr => dty_TransV hr) h10
  obtain ⟨s11, rfl, f11, -⟩ := dty_sl (f := RoleTransV.row) (Q := fun _ => True) Tryz.underlying32 (c := 10) (by kernel_rfl) (fun r hr => (dty_RoleTransV hr).elim fun x hx => ⟨x, hx, trivial⟩) h11
  obtain ⟨s12, rfl, f12, -⟩ := dty_sl (f := RangeTransV.row) (Q := fun _ => True) Tryz.underlying33 (c := 13) (by kernel_rfl) (fun r hr => (dty_RangeTransV hr).elim fun x hx => ⟨x, hx, trivial⟩) h12
  obtain ⟨s13, rfl, f13, -⟩ := dty_sl (f := ConstrV.row) (Q := fun c => c.expr.Fit (k + 6)) Tryz.underlying34 (c := 13) (by kernel_rfl) (fun r hr => dty_ConstrV hr) h13
  obtain ⟨s14, rfl, f14, -⟩ := dty_sl (f := SidV.row) (Q := fun c => c.name.length ≤ maxLen) Tryz.underlying35 (c := 8) (by kernel_rfl) (fun r hr => dty_SidV hr) h14
  obtain ⟨s15, rfl, f15, -⟩ := dty_sl (f := FileV.row) (Q := fun c => c.pattern.length ≤ maxLen) Tryz.underlying36 (c := 9) (by kernel_rfl) (fun r hr => dty_FileV hr) h15
  obtain ⟨s16, rfl, f16, -⟩ := dty_sl (f := AssertV.row) (Q := fun c => c.name.length ≤ maxLen) Tryz.underlying37 (c := 10) (by kernel_rfl) (fun r hr => dty_AssertV hr) h16
  exact ⟨⟨s0, s1, s2, s3, s4, s5, s6, s7, s8, s9, s10, s11, s12, s13, s14, s15, s16⟩, by simp [PolV.row], ⟨f0, f1, f2, f3, f4, f5, f6.2, f7.2, f8, f10, f13, f14, f15, f16⟩⟩
theorem arg_pol {k : Nat} {d : DVal} (h : DTyArg Tryz.prog k 39 d) : ∃ p : PolV, d = p.d ∧ PFit (k + 6) p := by
  have h' := dtyArg_mono (m := k + 8) (by omega) h
  unfold DTyArg at h'
  rw [Tryz.underlying39] at h'
  obtain ⟨cs, rfl, h2⟩ := h'
  obtain ⟨p, rfl, hp⟩ := dty_pol h2
  exact ⟨p, rfl, hp⟩
theorem arg_ctx {k : Nat} {d : DVal} (h : DTyArg Tryz.prog k 46 d) : ∃ c : CtxV, d = c.d := by
  have h' := dtyArg_mono (m := k + 8) (by omega) h
  unfold DTyArg at h'
  rw [Tryz.underlying46] at h'
  obtain ⟨cs, rfl, h2⟩ := h'
  obtain ⟨c, rfl⟩ := dty_ctx h2
  exact ⟨c, rfl⟩
theorem arg_rng {k : Nat} {d : DVal} (h : DTyArg Tryz.prog k 44 d) : ∃ l m : LvV, d = rngD l m := by
  have h' := dtyArg_mono (m := k + 8) (by omega) h
  unfold DTyArg at h'
  rw [Tryz.underlying44] at h'
  obtain ⟨cs, rfl, h2⟩ := h'
  obtain ⟨l, m, rfl⟩ := dty_rng h2
  exact ⟨l, m, rfl⟩
end Go.Proofs.YthpccimmmfonjaaGreatDoor
